/- Rules: maps with plain keys (integers, strings, bools), kept as lists in the order in which the keys came; a range over a map. No program is named here. -/
import Derived.Test.YtpmnbenmjkeacaaSepI
import Derived.MapKept
import Derived.Maps.RangeRun
set_option linter.unusedVariables false
set_option linter.unusedSectionVars false
namespace Go.Sep
open Go Go.RowKit Go.MapKept

/-! ### 1. Lists with keys -/
section
variable {κ α : Type} [DecidableEq κ]
def look (k : κ) : List (κ × α) → Option α
  | [] => none
  | p :: l => if p.1 = k then some p.2 else look k l
def put (k : κ) (v : α) : List (κ × α) → List (κ × α)
  | [] => [(k, v)]
  | p :: l => if p.1 = k then (k, v) :: l else p :: put k v l
def del (k : κ) (l : List (κ × α)) : List (κ × α) := l.filter fun p => !decide (p.1 = k)
def without (k : κ) (l : List κ) : List κ := l.filter fun x => !decide (x = k)
theorem look_none {k : κ} : ∀ {l : List (κ × α)}, (∀ p ∈ l, p.1 ≠ k) → look k l = none
  | [], _ => rfl
  | p :: l, h => by simp only [look]; rw [if_neg (h p List.mem_cons_self)]; exact look_none fun q hq => h q (List.mem_cons_of_mem _ hq)
theorem look_at {k : κ} {v : α} : ∀ {l : List (κ × α)} {j : Nat}, (l.map Prod.fst).Nodup → l[j]? = some (k, v) → look k l = some v
  | [], j, _, h => by simp at h
  | p :: l, 0, _, h => by
    have : p = (k, v) := by simpa using h
    subst this
    simp [look]
  | p :: l, j + 1, hn, h => by
    simp only [List.map_cons, List.nodup_cons] at hn
    have h' : l[j]? = some (k, v) := by simpa using h
    have hne : p.1 ≠ k := fun e => hn.1 (e ▸ List.mem_map.2 ⟨_, List.mem_of_getElem? h', rfl⟩)
    simp only [look]; rw [if_neg hne]; exact look_at hn.2 h'
theorem put_new {k : κ} {v : α} : ∀ {l : List (κ × α)}, (∀ p ∈ l, p.1 ≠ k) → put k v l = l ++ [(k, v)]
  | [], _ => rfl
  | p :: l, h => by simp only [put]; rw [if_neg (h p List.mem_cons_self), put_new fun q hq => h q (List.mem_cons_of_mem _ hq)]; rfl
theorem put_at {k : κ} {u v : α} : ∀ {l : List (κ × α)} {j : Nat}, (l.map Prod.fst).Nodup → l[j]? = some (k, u) → put k v l = l.set j (k, v)
  | [], j, _, h => by simp at h
  | p :: l, 0, _, h => by
    have : p = (k, u) := by simpa using h
    subst this
    simp [put]
  | p :: l, j + 1, hn, h => by
    simp only [List.map_cons, List.nodup_cons] at hn
    have h' : l[j]? = some (k, u) := by simpa using h
    have hne : p.1 ≠ k := fun e => hn.1 (e ▸ List.mem_map.2 ⟨_, List.mem_of_getElem? h', rfl⟩)
    simp only [put]; rw [if_neg hne, put_at hn.2 h']; rfl
theorem del_none {k : κ} {l : List (κ × α)} (h : ∀ p ∈ l, p.1 ≠ k) : del k l = l := by
  unfold del
  rw [List.filter_eq_self]
  intro p hp
  simpa using h p hp
theorem del_at {k : κ} {u : α} : ∀ {l : List (κ × α)} {j : Nat}, (l.map Prod.fst).Nodup → l[j]? = some (k, u) → del k l = l.eraseIdx j
  | [], j, _, h => by simp at h
  | p :: l, 0, hn, h => by
    have : p = (k, u) := by simpa using h
    subst this
    simp only [List.map_cons, List.nodup_cons] at hn
    have := del_none (k := k) (l := l) fun p hp e => hn.1 (e ▸ List.mem_map.2 ⟨_, hp, rfl⟩)
    simp only [del] at this ⊢
    simp [this]
  | p :: l, j + 1, hn, h => by
    simp only [List.map_cons, List.nodup_cons] at hn
    have h' : l[j]? = some (k, u) := by simpa using h
    have hne : p.1 ≠ k := fun e => hn.1 (e ▸ List.mem_map.2 ⟨_, List.mem_of_getElem? h', rfl⟩)
    have := del_at hn.2 h'
    simp only [del] at this ⊢
    simp [hne, this]
end

/-! ### 2. The map as a resource -/
structure KeyEnc (P : Program) (kt : TypeId) (d : TypeDesc) {κ : Type} (enc : κ → Value) : Prop where
  und : P.underlying kt = some d
  key : ∀ k, IsKey d (enc k)
  inj : ∀ a b, enc a = enc b → a = b
theorem keyInt {P : Program} {kt : TypeId} {q : IntKind} (h : P.underlying kt = some (.int q)) : KeyEnc P kt (.int q) (Value.int q) := ⟨h, fun _ => rfl, fun a b h => by cases h; rfl⟩
theorem keyStr {P : Program} {kt : TypeId} (h : P.underlying kt = some .string) : KeyEnc P kt .string Value.string := ⟨h, fun _ => trivial, fun a b h => by cases h; rfl⟩
section
variable {κ : Type} [DecidableEq κ] {P : Program} {kt : TypeId} {d : TypeDesc} {enc : κ → Value} {es : Array MapEntry} {clk : Nat} {l : List (κ × Value)} {b : Nat} {w : World}
def MapOk (enc : κ → Value) (es : Array MapEntry) (clk : Nat) (l : List (κ × Value)) : Prop := es.toList.map (fun e => (e.key, e.val)) = l.map (fun p => (enc p.1, p.2)) ∧ Stamped es clk
def mapE (enc : κ → Value) (b : Nat) (l : List (κ × Value)) : Ent :=
  ⟨[b], fun w => ∃ es clk, w.heap[b]? = some (.map es clk) ∧ MapOk enc es clk l, fun w w' h ⟨es, clk, h1, h2⟩ => ⟨es, clk, (h b (by simp)).trans h1, h2⟩⟩
theorem MapOk.isKey (h : MapOk enc es clk l) (K : KeyEnc P kt d enc) : ∀ x ∈ es.toList, IsKey d x.key := fun x hx => by
  have : (x.key, x.val) ∈ es.toList.map (fun e => (e.key, e.val)) := List.mem_map.2 ⟨x, hx, rfl⟩
  rw [h.1] at this
  obtain ⟨p, _, hp⟩ := List.mem_map.1 this
  have : x.key = enc p.1 := (Prod.mk.inj hp).1.symm
  rw [this]; exact K.key _
theorem MapOk.at_ (h : MapOk enc es clk l) (j : Nat) : (es.toList[j]?).map (fun e => (e.key, e.val)) = (l[j]?).map (fun p => (enc p.1, p.2)) := by
  have := congrArg (·[j]?) h.1
  simpa using this
theorem MapOk.nodup (h : MapOk enc es clk l) : (l.map Prod.fst).Nodup := by
  have h1 := h.2.2.2
  have h2 : es.toList.map (·.key) = l.map (fun p => enc p.1) := by
    have := congrArg (List.map Prod.fst) h.1
    simpa [Function.comp_def] using this
  rw [h2, show (fun p : κ × Value => enc p.1) = enc ∘ Prod.fst from rfl, ← List.map_map] at h1
  exact (List.pairwise_map.1 h1).imp fun h e => h (congrArg enc e)
theorem MapOk.find (h : MapOk enc es clk l) (K : KeyEnc P kt d enc) (k : κ) :
    (Instr.findNow d (enc k) es.toList 0 = some none ∧ (∀ p ∈ l, p.1 ≠ k) ∧ ∀ x ∈ es.toList, x.key ≠ enc k) ∨ ∃ j e, Instr.findNow d (enc k) es.toList 0 = some (some (j, e.val)) ∧ es.toList[j]? = some e ∧ e.key = enc k ∧ l[j]? = some (k, e.val) := by
  rcases findNow_spec (K.key k) es.toList 0 (h.isKey K) with ⟨h1, h2⟩ | ⟨j, e, h1, h2, h3⟩
  · refine .inl ⟨h1, fun p hp e => ?_, h2⟩
    subst e
    have : (enc p.1, p.2) ∈ l.map (fun p => (enc p.1, p.2)) := List.mem_map.2 ⟨p, hp, rfl⟩
    rw [← h.1] at this
    obtain ⟨x, hx, he⟩ := List.mem_map.1 this
    exact h2 x hx (Prod.mk.inj he).1
  · refine .inr ⟨j, e, by simpa using h1, h2, h3, ?_⟩
    have := h.at_ j
    rw [h2] at this
    cases hl : l[j]? with
    | none => rw [hl] at this; cases this
    | some p =>
      rw [hl] at this
      simp only [Option.map_some, Option.some.injEq, Prod.mk.injEq] at this
      have hp : p.1 = k := K.inj _ _ (this.1.symm.trans h3)
      rw [this.2, ← hp]
theorem st_of_setMap {w : World} {b : Nat} {es : Array MapEntry} {clk : Nat} (hb : w.heap[b]? = some (.map es clk)) {es' : Array MapEntry} {clk' : Nat} {l' : List (κ × Value)} (h : MapOk enc es' clk' l') :
    St w (· ∈ [b]) [mapE enc b l'] { w with heap := w.heap.setIfInBounds b (.map es' clk') } := by
  have hlt := (Array.getElem?_eq_some_iff.1 hb).1
  refine ⟨rfl, rfl, rfl, by simp, fun k hk hm => (heap_set hb).2 k (by simpa using hm), fun x hx => ?_, fun x hx k hk => ?_, by simp [mapE], fun x hx k hk => ?_⟩
  · obtain rfl : x = _ := by simpa using hx
    exact ⟨es', clk', (heap_set hb).1, h⟩
  · obtain rfl : x = _ := by simpa using hx
    have : k = b := by simpa [mapE] using hk
    simp [this]; exact hlt
  · obtain rfl : x = _ := by simpa using hx
    have : k = b := by simpa [mapE] using hk
    exact .inl (by simp [this])
theorem MapOk.push (h : MapOk enc es clk l) {k : κ} (v : Value) (h1 : ∀ p ∈ l, p.1 ≠ k) (h2 : ∀ x ∈ es.toList, x.key ≠ enc k) : MapOk enc (es.push { key := enc k, val := v, born := clk }) (clk + 1) (put k v l) := by
  refine ⟨?_, stamped_push h.2 h2⟩
  rw [put_new h1]
  simp [h.1]
theorem map_eraseIdx' {α β : Type} (f : α → β) : ∀ (l : List α) (j : Nat), (l.eraseIdx j).map f = (l.map f).eraseIdx j
  | [], _ => rfl
  | x :: l, 0 => rfl
  | x :: l, j + 1 => by simp [map_eraseIdx' f l j]
theorem inj_on {α β : Type} {f : α → β} : ∀ {l : List α}, (l.map f).Nodup → ∀ {x y : α}, x ∈ l → y ∈ l → f x = f y → x = y
  | [], _, _, _, h, _, _ => by cases h
  | z :: l, hn, x, y, hx, hy, e => by
    simp only [List.map_cons, List.nodup_cons] at hn
    rcases List.mem_cons.1 hx with h1 | h1 <;> rcases List.mem_cons.1 hy with h2 | h2
    · rw [h1, h2]
    · exact absurd (List.mem_map.2 ⟨y, h2, by rw [← e, h1]⟩) hn.1
    · exact absurd (List.mem_map.2 ⟨x, h1, by rw [e, h2]⟩) hn.1
    · exact inj_on hn.2 h1 h2 e
theorem modify_map (es : Array MapEntry) (j : Nat) (f : MapEntry → MapEntry) (g : MapEntry → Value × Value) (x : Value × Value) (h : ∀ e, es.toList[j]? = some e → g (f e) = x) : (es.modify j f).toList.map g = (es.toList.map g).set j x := by
  apply List.ext_getElem?
  intro i
  rw [List.getElem?_map, List.getElem?_set, List.length_map]
  simp only [Array.getElem?_toList, Array.getElem?_modify]
  by_cases hij : j = i
  · subst hij
    rw [if_pos rfl]
    cases he : es[j]? with
    | none =>
      have : ¬ j < es.toList.length := by
        intro hlt
        rw [Array.getElem?_eq_getElem (by simpa using hlt)] at he
        cases he
      have hlen : es.size ≤ j := by simpa using this
      simp [hlen]
    | some e =>
      have hlt : j < es.toList.length := by simpa using (Array.getElem?_eq_some_iff.1 he).1
      simp only [if_true, Option.map_some, if_pos hlt]
      rw [h e (by simpa using he)]
  · rw [if_neg hij, if_neg hij]
    simp
theorem MapOk.set (h : MapOk enc es clk l) {k : κ} (v : Value) {j : Nat} {e : MapEntry} (h2 : es.toList[j]? = some e) (h3 : e.key = enc k) (h4 : l[j]? = some (k, e.val)) : MapOk enc (es.modify j fun x => { x with key := enc k, val := v }) clk (put k v l) := by
  have hj : es[j]? = some e := by simpa using h2
  refine ⟨?_, stamped_modify h.2 _ _ (fun _ _ => rfl) fun e' _ he' => by rw [hj] at he'; cases he'; exact h3.symm⟩
  rw [put_at h.nodup h4, modify_map es j _ _ (enc k, v) (fun _ _ => rfl), h.1, List.map_set]
theorem MapOk.erase (h : MapOk enc es clk l) {k : κ} {j : Nat} {v : Value} (h4 : l[j]? = some (k, v)) : MapOk enc (es.eraseIdxIfInBounds j) clk (del k l) := by
  refine ⟨?_, stamped_erase h.2 j⟩
  rw [del_at h.nodup h4]
  have hlen : es.size = l.length := by have := congrArg List.length h.1; simpa using this
  have hj : j < es.size := by rw [hlen]; exact (List.getElem?_eq_some_iff.1 h4).1
  have : (es.eraseIdxIfInBounds j).toList = es.toList.eraseIdx j := by
    unfold Array.eraseIdxIfInBounds
    rw [dif_pos hj]
    simp
  rw [this, map_eraseIdx', h.1, ← map_eraseIdx']
theorem run_mapUpdate {t et : TypeId} (ht : P.underlying t = some (.map kt et)) (K : KeyEnc P kt d enc) (hb : w.heap[b]? = some (.map es clk)) (h : MapOk enc es clk l) (k : κ) (v : Value) :
    ∃ w', (Instr.mapUpdate t (.map (some b)) (enc k) v).run P w = .ok () w' ∧ St w (· ∈ [b]) [mapE enc b (put k v l)] w' := by
  rcases h.find K k with ⟨h1, h2, h3⟩ | ⟨j, e, h1, h2, h3, h4⟩
  · refine ⟨_, ?_, st_of_setMap hb (h.push v h2 h3)⟩
    simp [Instr.mapUpdate, run_underlying ht, MapKept.run_getObj_map hb, run_checkKey K.und (K.key k), run_findKey K.und h1, MapKept.run_setObj_map _ hb, Result.andThen]
  · refine ⟨_, ?_, st_of_setMap hb (h.set v h2 h3 h4)⟩
    have hj : es[j]? = some e := by simpa using h2
    simp [Instr.mapUpdate, run_underlying ht, MapKept.run_getObj_map hb, run_checkKey K.und (K.key k), run_findKey K.und h1, hj, h3, run_keyThatStays (K.key k), MapKept.run_setObj_map _ hb, Result.andThen]
theorem run_delete {t et ty : TypeId} (ht : P.underlying t = some (.map kt et)) (K : KeyEnc P kt d enc) (hb : w.heap[b]? = some (.map es clk)) (h : MapOk enc es clk l) (k : κ) (tk : TypeId) :
    ∃ es', (Builtin.delete_ #[t, tk] ty #[.map (some b), enc k]).run P w = .ok (.tuple #[]) { w with heap := w.heap.setIfInBounds b (.map es' clk) } ∧ MapOk enc es' clk (del k l) ∧ (∀ x ∈ es'.toList, x ∈ es.toList) ∧ (∀ x ∈ es.toList, x.key ≠ enc k → x ∈ es'.toList) := by
  rcases h.find K k with ⟨h1, h2, h3⟩ | ⟨j, e, h1, h2, h3, h4⟩
  · refine ⟨es, ?_, by rw [del_none h2]; exact h, fun x hx => hx, fun x hx _ => hx⟩
    simp [Builtin.delete_, run_underlying ht, MapKept.run_getObj_map hb, run_checkKey K.und (K.key k), run_findKey K.und h1, MapKept.run_setObj_map _ hb, Result.andThen]
  · have hj : j < es.size := by have := (List.getElem?_eq_some_iff.1 h2).1; simpa using this
    have he : (es.eraseIdxIfInBounds j).toList = es.toList.eraseIdx j := by
      unfold Array.eraseIdxIfInBounds
      rw [dif_pos hj]
      simp
    refine ⟨es.eraseIdxIfInBounds j, ?_, h.erase h4, fun x hx => ?_, fun x hx hne => ?_⟩
    · simp [Builtin.delete_, run_underlying ht, MapKept.run_getObj_map hb, run_checkKey K.und (K.key k), run_findKey K.und h1, MapKept.run_setObj_map _ hb, Result.andThen]
    · rw [he] at hx; exact List.mem_of_mem_eraseIdx hx
    · rw [he, List.mem_eraseIdx_iff_getElem?]
      obtain ⟨i, hi⟩ := List.mem_iff_getElem?.1 hx
      refine ⟨i, fun e' => ?_, hi⟩
      subst e'
      rw [h2] at hi
      cases hi
      exact hne h3
theorem run_lookup {t et : TypeId} {z : Value} {sz bytes : Nat} (ht : P.underlying t = some (.map kt et)) (K : KeyEnc P kt d enc) (hz : ElS P et z sz bytes) (hb : w.heap[b]? = some (.map es clk)) (h : MapOk enc es clk l) (k : κ) (ok : Bool) :
    (Instr.lookup t (.map (some b)) (enc k) ok).run P w = .ok (if ok then .tuple #[(look k l).getD z, .bool (look k l).isSome] else (look k l).getD z) w := by
  rcases h.find K k with ⟨h1, h2, h3⟩ | ⟨j, e, h1, h2, h3, h4⟩
  · rw [look_none h2]
    cases ok <;> simp [Instr.lookup, run_underlying ht, MapKept.run_getObj_map hb, run_checkKey K.und (K.key k), run_findKey K.und h1, hz.zero, Result.andThen]
  · rw [look_at h.nodup h4]
    cases ok <;> simp [Instr.lookup, run_underlying ht, MapKept.run_getObj_map hb, run_checkKey K.und (K.key k), run_findKey K.und h1, Result.andThen]
end

/-! ### 3. A walk over a map -/
section
variable {κ : Type} [DecidableEq κ] {P : Program} {kt : TypeId} {d : TypeDesc} {enc : κ → Value} {es : Array MapEntry} {clk : Nat} {l : List (κ × Value)} {b : Nat} {w : World}
/-- the map b with the walk r over it: left: the keys that have not come; cur: the key that has come last, if it is still there -/
def rngE (enc : κ → Value) (b r : Nat) (l : List (κ × Value)) (left : List κ) (cur : Option κ) : Ent :=
  ⟨[b, r], fun w => ∃ es clk seen, w.heap[b]? = some (.map es clk) ∧ w.heap[r]? = some (.mapIter (some b) clk seen clk) ∧ MapOk enc es clk l ∧ (leftOf es seen).toList.map (·.key) = left.map enc ∧
      (∀ k, cur = some k → ∃ e ∈ es.toList, e.key = enc k ∧ ∃ seen' : Array Nat, seen = seen'.push e.born),
    fun w w' h ⟨es, clk, seen, h1, h2, h3⟩ => ⟨es, clk, seen, (h b (by simp)).trans h1, (h r (by simp)).trans h2, h3⟩⟩
theorem rng_left_nodup {seen : Array Nat} {left : List κ} (h : MapOk enc es clk l) (hl : (leftOf es seen).toList.map (·.key) = left.map enc) : (left.map enc).Nodup := by
  rw [← hl]
  refine List.Pairwise.sublist (List.Sublist.map _ ?_) h.2.2.2
  unfold leftOf
  rw [Array.toList_filter]
  exact List.filter_sublist
open Classical in
theorem leftOf_push {es : Array MapEntry} {seen : Array Nat} {e : MapEntry} (hn : (es.toList.map (·.born)).Nodup) (hk : (es.toList.map (·.key)).Nodup) (he : e ∈ es.toList) : (leftOf es (seen.push e.born)).toList = (leftOf es seen).toList.filter fun x => !decide (x.key = e.key) := by
  unfold leftOf
  rw [Array.toList_filter, Array.toList_filter, List.filter_filter]
  refine List.filter_congr fun x hx => ?_
  have h1 : x.born = e.born ↔ x.key = e.key := by
    constructor
    · intro h; rw [inj_on hn hx he h]
    · intro h; rw [inj_on hk hx he h]
  simp only [Array.contains_push, Bool.not_or]
  by_cases h : x.key = e.key
  · have := h1.2 h
    simp [h, this]
  · have h2 : ¬ x.born = e.born := fun e' => h (h1.1 e')
    simp [h, h2]
open Classical in
theorem without_map {κ : Type} [DecidableEq κ] {enc : κ → Value} (hi : ∀ a b, enc a = enc b → a = b) (k : κ) (ks : List κ) (xs : List MapEntry) (h : xs.map (·.key) = ks.map enc) : (xs.filter fun x => !decide (x.key = enc k)).map (·.key) = (without k ks).map enc := by
  induction ks generalizing xs with
  | nil => cases xs with
    | nil => rfl
    | cons x xs => simp at h
  | cons y ks ih =>
    cases xs with
    | nil => simp at h
    | cons x xs =>
      simp only [List.map_cons, List.cons.injEq] at h
      have ih := ih xs h.2
      simp only [without] at ih ⊢
      by_cases hy : y = k
      · have : x.key = enc k := by rw [h.1, hy]
        simp [this, hy, ih]
      · have : ¬ x.key = enc k := fun e => hy (hi _ _ (h.1.symm.trans e))
        rw [List.filter_cons_of_pos (by simpa using this), List.filter_cons_of_pos (by simpa using hy), List.map_cons, List.map_cons, ih, h.1]
theorem st_pair {w w' : World} {b r : Nat} {x : Ent} {M : Nat → Prop} (hf : x.foot = [b, r]) (hne : b ≠ r) (hos : w'.os = w.os) (ht : w'.tape = w.tape) (ho : w'.output = w.output) (hsz : w.heap.size ≤ w'.heap.size) (hk : ∀ k, k < w.heap.size → ¬ M k → w'.heap[k]? = w.heap[k]?) (hok : x.ok w')
    (hlb : b < w'.heap.size) (hlr : r < w'.heap.size) (hb : M b ∨ w.heap.size ≤ b) (hr : M r ∨ w.heap.size ≤ r) : St w M [x] w' := by
  refine ⟨hos, ht, ho, hsz, hk, fun y hy => ?_, fun y hy k hk => ?_, by simp [hf, hne], fun y hy k hk => ?_⟩
  · obtain rfl : y = x := by simpa using hy
    exact hok
  · obtain rfl : y = x := by simpa using hy
    rw [hf] at hk
    rcases (by simpa using hk : k = b ∨ k = r) with rfl | rfl
    · exact hlb
    · exact hlr
  · obtain rfl : y = x := by simpa using hy
    rw [hf] at hk
    rcases (by simpa using hk : k = b ∨ k = r) with rfl | rfl
    · exact hb
    · exact hr
theorem run_range {t et : TypeId} (ht : P.underlying t = some (.map kt et)) (K : KeyEnc P kt d enc) (h : (mapE enc b l).ok w) :
    ∃ r w', (Instr.range t (.map (some b))).run P w = .ok (.pointer (some ⟨r, 0, none⟩)) w' ∧ St w (· ∈ [b]) [rngE enc b r l (l.map Prod.fst) none] w' := by
  obtain ⟨es, clk, hb, hm⟩ := h
  have hlt := (Array.getElem?_eq_some_iff.1 hb).1
  refine ⟨w.heap.size, w.alloc (.mapIter (some b) clk #[] clk), ?_, ?_⟩
  · simp [Instr.range, run_underlying ht, MapKept.run_getObj_map hb, Result.andThen]
  · refine st_pair rfl (Nat.ne_of_lt hlt) rfl rfl rfl (by simp) (fun k hk _ => Below.heap_alloc w _ k hk) ⟨es, clk, #[], (Below.heap_alloc w _ b hlt).trans hb, World.alloc_heap_new w _, hm, ?_, fun k hk => by cases hk⟩ (by simp; omega) (by simp) (.inl (by simp)) (.inr (Nat.le_refl _))
    have h1 : (leftOf es #[]).toList = es.toList := by unfold leftOf; rw [Array.toList_filter]; simp
    rw [h1]
    have := congrArg (List.map Prod.fst) hm.1
    simpa [Function.comp_def] using this
theorem run_next {r : Nat} {left : List κ} {cur : Option κ} {ty : TypeId} (K : KeyEnc P kt d enc) (hne : b ≠ r) (h : (rngE enc b r l left cur).ok w) :
    (left = [] ∧ (Instr.next (.pointer (some ⟨r, 0, none⟩)) false ty).run P w = .ok (.tuple #[.bool false]) w) ∨
    ∃ k v w', k ∈ left ∧ look k l = some v ∧ (Instr.next (.pointer (some ⟨r, 0, none⟩)) false ty).run P w = .ok (.tuple #[.bool true, enc k, v]) w' ∧ St w (· ∈ [b, r]) [rngE enc b r l (without k left) (some k)] w' := by
  obtain ⟨es, clk, seen, hb, hr, hm, hl, hc⟩ := h
  rcases run_next_at (P := P) w ty r b clk clk seen es clk hr hb (fun x hx => hm.2.1 x hx) (Nat.le_refl _) with ⟨h1, h2⟩ | ⟨e, he, w1, hw1, h2⟩
  · refine .inl ⟨?_, h2⟩
    have : (leftOf es seen).toList = [] := by simpa using h1
    rw [this] at hl
    cases left with
    | nil => rfl
    | cons a _ => simp at hl
  · have hes : e ∈ es.toList := by
      unfold leftOf at he
      rw [Array.toList_filter] at he
      exact (List.mem_filter.1 he).1
    have h3 : e.key ∈ left.map enc := by rw [← hl]; exact List.mem_map.2 ⟨e, he, rfl⟩
    obtain ⟨k, hk, hke⟩ := List.mem_map.1 h3
    obtain ⟨j, hj⟩ := List.mem_iff_getElem?.1 hes
    have h4 := hm.at_ j
    rw [hj] at h4
    cases hlj : l[j]? with
    | none => rw [hlj] at h4; cases h4
    | some p =>
      rw [hlj] at h4
      simp only [Option.map_some, Option.some.injEq, Prod.mk.injEq] at h4
      have hp : p.1 = k := K.inj _ _ (h4.1.symm.trans hke.symm)
      have hlook : look k l = some e.val := look_at hm.nodup (by rw [hlj, h4.2, ← hp])
      refine .inr ⟨k, e.val, _, hk, hlook, by rw [h2, hke], ?_⟩
      have hw1h : w1.heap = w.heap := by rcases hw1 with rfl | rfl <;> rfl
      have hr1 : w1.heap[r]? = some (.mapIter (some b) clk seen clk) := by rw [hw1h]; exact hr
      have hlr := (Array.getElem?_eq_some_iff.1 hr).1
      have hlb := (Array.getElem?_eq_some_iff.1 hb).1
      have hset : ∀ k', k' ≠ r → (ChangeMaps.setBlock w1 r (.mapIter (some b) clk (seen.push e.born) clk)).heap[k']? = w.heap[k']? := fun k' hk' => by rw [← hw1h]; exact (heap_set hr1).2 k' hk'
      have hsz : (ChangeMaps.setBlock w1 r (.mapIter (some b) clk (seen.push e.born) clk)).heap.size = w.heap.size := by rw [← hw1h]; simp [ChangeMaps.setBlock]
      refine st_pair rfl hne (by rcases hw1 with rfl | rfl <;> rfl) (by rcases hw1 with rfl | rfl <;> rfl) (by rcases hw1 with rfl | rfl <;> rfl) (by rw [hsz]; exact Nat.le_refl _) (fun k' _ hm' => hset k' (fun e' => hm' (by simp [e'])))
        ⟨es, clk, seen.push e.born, (hset b hne).trans hb, (heap_set hr1).1, hm, ?_, fun k' hk' => by cases hk'; exact ⟨e, hes, hke.symm, seen, rfl⟩⟩ (by rw [hsz]; exact hlb) (by rw [hsz]; exact hlr) (.inl (by simp)) (.inl (by simp))
      rw [leftOf_push hm.2.2.1 hm.2.2.2 hes, ← hke]
      exact without_map K.inj k left _ hl
theorem run_entry {r : Nat} {left : List κ} {k : κ} (K : KeyEnc P kt d enc) (h : (rngE enc b r l left (some k)).ok w) :
    (Instr.entry (.pointer (some ⟨r, 0, none⟩))).run P w = .ok (.tuple #[enc k, (look k l).getD undef]) w := by
  obtain ⟨es, clk, seen, hb, hr, hm, hl, hc⟩ := h
  obtain ⟨e, he, hke, seen', hs⟩ := hc k rfl
  subst hs
  rw [run_entry_at w r b clk seen' es clk e hr hb he hm.2.2.1, hke]
  obtain ⟨j, hj⟩ := List.mem_iff_getElem?.1 he
  have h4 := hm.at_ j
  rw [hj] at h4
  cases hlj : l[j]? with
  | none => rw [hlj] at h4; cases h4
  | some p =>
    rw [hlj] at h4
    simp only [Option.map_some, Option.some.injEq, Prod.mk.injEq] at h4
    have hp : p.1 = k := K.inj _ _ (h4.1.symm.trans hke)
    rw [look_at hm.nodup (by rw [hlj, ← hp]), ← h4.2]
    rfl
open Classical in
theorem del_at_gen (es : List MapEntry) (k : Value) : ∀ (j : Nat) (e : MapEntry), (es.map (·.key)).Nodup → es[j]? = some e → e.key = k → (es.filter fun x => !decide (x.key = k)) = es.eraseIdx j := by
  induction es with
  | nil => intro j e _ h; simp at h
  | cons x es ih =>
    intro j e hn h hk
    simp only [List.map_cons, List.nodup_cons] at hn
    cases j with
    | zero =>
      obtain rfl : x = e := by simpa using h
      have : (es.filter fun y => !decide (y.key = k)) = es := by
        rw [List.filter_eq_self]
        intro y hy
        have : y.key ≠ k := fun e' => hn.1 (by rw [hk, ← e']; exact List.mem_map.2 ⟨y, hy, rfl⟩)
        simpa using this
      simp [hk, this]
    | succ j =>
      have h' : es[j]? = some e := by simpa using h
      have hne : x.key ≠ k := fun e' => hn.1 (by rw [e', ← hk]; exact List.mem_map.2 ⟨e, List.mem_of_getElem? h', rfl⟩)
      simp [hne, ih j e hn.2 h' hk]
open Classical in
theorem run_rngDelete {r : Nat} {left : List κ} {cur : Option κ} {t et ty : TypeId} (ht : P.underlying t = some (.map kt et)) (K : KeyEnc P kt d enc) (hne : b ≠ r) (h : (rngE enc b r l left cur).ok w) (k : κ) (tk : TypeId) :
    ∃ w', (Builtin.delete_ #[t, tk] ty #[.map (some b), enc k]).run P w = .ok (.tuple #[]) w' ∧ St w (· ∈ [b, r]) [rngE enc b r (del k l) (without k left) none] w' := by
  obtain ⟨es, clk, seen, hb, hr, hm, hl, hc⟩ := h
  obtain ⟨es', h1, h2, h3, h4⟩ := run_delete (ty := ty) ht K hb hm k tk
  have hlr := (Array.getElem?_eq_some_iff.1 hr).1
  have hlb := (Array.getElem?_eq_some_iff.1 hb).1
  refine ⟨_, h1, st_pair rfl hne rfl rfl rfl (by simp) (fun k' _ hm' => (heap_set hb).2 k' (fun e' => hm' (by simp [e']))) ⟨es', clk, seen, (heap_set hb).1, ((heap_set hb).2 r (Ne.symm hne)).trans hr, h2, ?_, fun k' hk' => by cases hk'⟩ (by simpa using hlb) (by simpa using hlr) (.inl (by simp)) (.inl (by simp))⟩
  -- what is left: the entries of es' that have not come: those of es, without k
  have hsub : es'.toList.map (·.key) = (del k l).map (fun p => enc p.1) := by
    have := congrArg (List.map Prod.fst) h2.1
    simpa [Function.comp_def] using this
  have hes : es'.toList = es.toList.filter fun x => !decide (x.key = enc k) := by
    rcases hm.find K k with ⟨q1, q2, q3⟩ | ⟨j, e, q1, q2, q3, q4⟩
    · have e1 : es' = es := by
        have : (Builtin.delete_ #[t, tk] ty #[.map (some b), enc k]).run P w = .ok (.tuple #[]) { w with heap := w.heap.setIfInBounds b (.map es clk) } := by
          simp [Builtin.delete_, run_underlying ht, MapKept.run_getObj_map hb, run_checkKey K.und (K.key k), run_findKey K.und q1, MapKept.run_setObj_map _ hb, Result.andThen]
        rw [this] at h1
        have := congrArg (fun r => match r with | Result.ok _ w => w.heap[b]? | _ => none) h1
        simp only [(heap_set hb).1] at this
        cases this
        rfl
      rw [e1, eq_comm, List.filter_eq_self]
      intro x hx
      simpa using q3 x hx
    · have e1 : es' = es.eraseIdxIfInBounds j := by
        have : (Builtin.delete_ #[t, tk] ty #[.map (some b), enc k]).run P w = .ok (.tuple #[]) { w with heap := w.heap.setIfInBounds b (.map (es.eraseIdxIfInBounds j) clk) } := by
          simp [Builtin.delete_, run_underlying ht, MapKept.run_getObj_map hb, run_checkKey K.und (K.key k), run_findKey K.und q1, MapKept.run_setObj_map _ hb, Result.andThen]
        rw [this] at h1
        have := congrArg (fun r => match r with | Result.ok _ w => w.heap[b]? | _ => none) h1
        simp only [(heap_set hb).1] at this
        cases this
        rfl
      have hj : j < es.size := by have := (List.getElem?_eq_some_iff.1 q2).1; simpa using this
      have he : (es.eraseIdxIfInBounds j).toList = es.toList.eraseIdx j := by
        unfold Array.eraseIdxIfInBounds
        rw [dif_pos hj]
        simp
      rw [e1, he]
      have h5 : (es.toList.map fun e => (e.key, e)).map Prod.fst = es.toList.map (·.key) := by simp [Function.comp_def]
      have h6 := del_at_gen es.toList (enc k) j e hm.2.2.2 q2 q3
      exact h6.symm
  have : (leftOf es' seen).toList = (leftOf es seen).toList.filter fun x => !decide (x.key = enc k) := by
    unfold leftOf
    rw [Array.toList_filter, Array.toList_filter, hes, List.filter_filter, List.filter_filter]
    refine List.filter_congr fun x _ => Bool.and_comm _ _
  rw [this]
  exact without_map K.inj k left _ hl
end

/-! ### 4. The rules -/
section
variable {X : Cx} {ops : Array Oper} {S : World → Prop} {Q : Exit → Act → World → Prop} {rest : List (Oper × Bool)} {F : Frm} {L : List Ent}
variable {e : Bool} {d : Nat} {g : Bool} {ty : TypeId} {pos : String} {af : Array Edge} {gd : Option (Nat × Bool)}
/-- an operation that turns one resource -/
theorem tl_turn {o : Oper} {x : Ent} {L0 : List Ent} {ι : Type} (v : ι → Value) (R : ι → Prop) (N : ι → List Ent) (hd : o.dst = some d) (hg : Gd ops F o.guard true) (hp : Take L x L0)
    (hv : ∀ a, Holds X.n X.ds a F → ∀ w, x.ok w → ∃ i w', (execOp a.eval o).run X.P w = .ok (.value (v i)) w' ∧ R i ∧ St w (· ∈ x.foot) (N i) w')
    (hS : ∀ i w, R i → St X.w0 X.M (N i ++ L0) w → S w) (hn : Nat.blt d X.n = true) (hk : noKey d F = true)
    (k : ∀ i, R i → TL X ops S Q rest ((d, true, v i) :: F) (N i ++ L0)) : TL X ops S Q ((o, true) :: rest) F L := by
  intro a w ha hw _
  have hw1 := hw.perm hp.perm
  obtain ⟨i, w', hr, hi, hst⟩ := hv a ha w (hw1.ok _ List.mem_cons_self)
  have hq := ha.put (g := true) (v := v i) hn hk
  simp only [wpLex]
  rw [if_pos (hg.wanted ha)]
  unfold exec
  rw [hr, hd]
  have hw' := hw1.turn hst
  exact ⟨hS i _ hi hw', k i hi _ _ hq hw' (hS i _ hi hw')⟩
/-- .. and leaves nothing in a temporary -/
theorem tl_turn_ {o : Oper} {x : Ent} {L0 N : List Ent} (hd : o.dst = none) (hg : Gd ops F o.guard true) (hp : Take L x L0)
    (hv : ∀ a, Holds X.n X.ds a F → ∀ w, x.ok w → ∃ w', ((execOp a.eval o).run X.P w = .ok .skip w' ∨ ∃ v, (execOp a.eval o).run X.P w = .ok (.value v) w') ∧ St w (· ∈ x.foot) N w')
    (hS : ∀ w, St X.w0 X.M (N ++ L0) w → S w) (k : TL X ops S Q rest F (N ++ L0)) : TL X ops S Q ((o, true) :: rest) F L := by
  intro a w ha hw _
  have hw1 := hw.perm hp.perm
  obtain ⟨w', hr, hst⟩ := hv a ha w (hw1.ok _ List.mem_cons_self)
  have hw' := hw1.turn hst
  have hput : ∀ v, a.put o.dst v = a := fun v => by rw [hd]; rfl
  simp only [wpLex]
  rw [if_pos (hg.wanted ha)]
  unfold exec
  rcases hr with hr | ⟨v, hr⟩
  · rw [hr]
    simp only [hput]
    exact ⟨hS _ hw', k _ _ ha hw' (hS _ hw')⟩
  · rw [hr]
    simp only [hput]
    exact ⟨hS _ hw', k _ _ ha hw' (hS _ hw')⟩
section maps
variable {κ : Type} [DecidableEq κ] {kt : TypeId} {kd : TypeDesc} {enc : κ → Value} {l : List (κ × Value)} {b : Nat} {L0 : List Ent}
theorem r_makeMap (enc : κ → Value) {t : TypeId} (hg : Gd ops F gd true) (hS : ∀ b w, St X.w0 X.M (mapE enc b [] :: L) w → S w) (hn : Nat.blt d X.n = true) (hk : noKey d F = true)
    (k : ∀ b, TL X ops S Q rest ((d, true, .map (some b)) :: F) (mapE enc b [] :: L)) : TL X ops S Q ((⟨some d, .makeMap t none, ty, pos, af, gd⟩, true) :: rest) F L :=
  tl_new rfl hg (fun b => .map (some b)) (fun b => [mapE enc b []]) (fun a ha w hw => ⟨w.heap.size, _, by
    simp [execOp, Instr.makeMap], st_of_newObj w _ (mapE enc w.heap.size []) rfl fun w' h => ⟨#[], 0, h, by simp, by simp [Stamped]⟩⟩) hS hn hk k
theorem r_mapUpdate {t et : TypeId} {x y z : Operand} {k : κ} {v : Value} (ht : X.P.underlying t = some (.map kt et)) (K : KeyEnc X.P kt kd enc) (hg : Gd ops F gd true) (hx : Ev F x true (.map (some b))) (hy : Ev F y true (enc k)) (hz : Ev F z true v)
    (hp : Take L (mapE enc b l) L0) (hS : ∀ w, St X.w0 X.M (mapE enc b (put k v l) :: L0) w → S w) (kk : TL X ops S Q rest F (mapE enc b (put k v l) :: L0)) :
    TL X ops S Q ((⟨none, .mapUpdate t x y z, ty, pos, af, gd⟩, true) :: rest) F L :=
  tl_turn_ (N := [mapE enc b (put k v l)]) rfl hg hp (fun a ha w ⟨es, clk, hb, hm⟩ => by
    obtain ⟨w', h1, h2⟩ := run_mapUpdate ht K hb hm k v
    exact ⟨w', .inl (by simp [execOp, hx.eval ha rfl, hy.eval ha rfl, hz.eval ha rfl, h1]), h2⟩) hS kk
theorem r_insert {t et : TypeId} {x y z : Operand} {k : κ} {v : Value} (ht : X.P.underlying t = some (.map kt et)) (K : KeyEnc X.P kt kd enc) (hg : Gd ops F gd true) (hx : Ev F x true (.map (some b))) (hy : Ev F y true (enc k)) (hz : Ev F z true v)
    (hp : Take L (mapE enc b l) L0) (hS : ∀ w, St X.w0 X.M (mapE enc b (put k v l) :: L0) w → S w) (kk : TL X ops S Q rest F (mapE enc b (put k v l) :: L0)) :
    TL X ops S Q ((⟨none, .insert t x y z, ty, pos, af, gd⟩, true) :: rest) F L :=
  tl_turn_ (N := [mapE enc b (put k v l)]) rfl hg hp (fun a ha w ⟨es, clk, hb, hm⟩ => by
    obtain ⟨w', h1, h2⟩ := run_mapUpdate ht K hb hm k v
    exact ⟨w', .inl (by simp [execOp, hx.eval ha rfl, hy.eval ha rfl, hz.eval ha rfl, h1]), h2⟩) hS kk
theorem r_delete {t et : TypeId} {x y : Operand} {k : κ} {tk : TypeId} (ht : X.P.underlying t = some (.map kt et)) (K : KeyEnc X.P kt kd enc) (hg : Gd ops F gd true) (hx : Ev F x true (.map (some b))) (hy : Ev F y true (enc k))
    (hp : Take L (mapE enc b l) L0) (hS : ∀ w, St X.w0 X.M (mapE enc b (del k l) :: L0) w → S w) (kk : TL X ops S Q rest F (mapE enc b (del k l) :: L0)) :
    TL X ops S Q ((⟨none, .call ⟨.builtin .delete, #[x, y], #[t, tk]⟩, ty, pos, af, gd⟩, true) :: rest) F L :=
  tl_turn_ (N := [mapE enc b (del k l)]) rfl hg hp (fun a ha w ⟨es, clk, hb, hm⟩ => by
    obtain ⟨es', h1, h2, _⟩ := run_delete (ty := ty) ht K hb hm k tk
    exact ⟨_, .inr ⟨_, by simp [execOp, resolve, invoke, builtin, hx.eval ha rfl, hy.eval ha rfl, h1]; rfl⟩, st_of_setMap hb h2⟩) hS kk
theorem r_rngDelete {t et : TypeId} {x y : Operand} {k : κ} {tk : TypeId} {r : Nat} {left : List κ} {cur : Option κ} (ht : X.P.underlying t = some (.map kt et)) (K : KeyEnc X.P kt kd enc) (hne : b ≠ r) (hg : Gd ops F gd true) (hx : Ev F x true (.map (some b))) (hy : Ev F y true (enc k))
    (hp : Take L (rngE enc b r l left cur) L0) (hS : ∀ w, St X.w0 X.M (rngE enc b r (del k l) (without k left) none :: L0) w → S w) (kk : TL X ops S Q rest F (rngE enc b r (del k l) (without k left) none :: L0)) :
    TL X ops S Q ((⟨none, .call ⟨.builtin .delete, #[x, y], #[t, tk]⟩, ty, pos, af, gd⟩, true) :: rest) F L :=
  tl_turn_ (N := [rngE enc b r (del k l) (without k left) none]) rfl hg hp (fun a ha w h => by
    obtain ⟨w', h1, h2⟩ := run_rngDelete (ty := ty) ht K hne h k tk
    exact ⟨_, .inr ⟨_, by simp [execOp, resolve, invoke, builtin, hx.eval ha rfl, hy.eval ha rfl, h1]; rfl⟩, h2⟩) hS kk
theorem r_lookup {t et : TypeId} {x y : Operand} {k : κ} {z : Value} {sz bytes : Nat} (ht : X.P.underlying t = some (.map kt et)) (K : KeyEnc X.P kt kd enc) (hz : ElS X.P et z sz bytes) (hs : Sees X e S L (mapE enc b l)) (hg : Gd ops F gd g) (hx : Ev F x g (.map (some b))) (hy : Ev F y g (enc k))
    (hn : Nat.blt d X.n = true) (hk : noKey d F = true) : 
    TL X ops S Q rest ((d, g, (look k l).getD z) :: F) L → TL X ops S Q ((⟨some d, .lookup t x y false, ty, pos, af, gd⟩, e) :: rest) F L :=
  tl_read rfl hg (fun a ha hgt w hw => by
    obtain ⟨es, clk, hb, hm⟩ := (hs w hw).ok
    have := run_lookup ht K hz hb hm k false
    simp at this
    simp [execOp, hx.eval ha hgt, hy.eval ha hgt, this]) hn hk
theorem r_lookupOk {t et : TypeId} {x y : Operand} {k : κ} {z : Value} {sz bytes : Nat} (ht : X.P.underlying t = some (.map kt et)) (K : KeyEnc X.P kt kd enc) (hz : ElS X.P et z sz bytes) (hs : Sees X e S L (mapE enc b l)) (hg : Gd ops F gd g) (hx : Ev F x g (.map (some b))) (hy : Ev F y g (enc k))
    (hn : Nat.blt d X.n = true) (hk : noKey d F = true) : 
    TL X ops S Q rest ((d, g, .tuple #[(look k l).getD z, .bool (look k l).isSome]) :: F) L → TL X ops S Q ((⟨some d, .lookup t x y true, ty, pos, af, gd⟩, e) :: rest) F L :=
  tl_read rfl hg (fun a ha hgt w hw => by
    obtain ⟨es, clk, hb, hm⟩ := (hs w hw).ok
    have := run_lookup ht K hz hb hm k true
    simp at this
    simp [execOp, hx.eval ha hgt, hy.eval ha hgt, this]) hn hk
theorem r_range {t et : TypeId} {x : Operand} (ht : X.P.underlying t = some (.map kt et)) (K : KeyEnc X.P kt kd enc) (hg : Gd ops F gd true) (hx : Ev F x true (.map (some b)))
    (hp : Take L (mapE enc b l) L0) (hS : ∀ r w, b ≠ r → St X.w0 X.M (rngE enc b r l (l.map Prod.fst) none :: L0) w → S w) (hn : Nat.blt d X.n = true) (hk : noKey d F = true)
    (kk : ∀ r, b ≠ r → TL X ops S Q rest ((d, true, .pointer (some ⟨r, 0, none⟩)) :: F) (rngE enc b r l (l.map Prod.fst) none :: L0)) :
    TL X ops S Q ((⟨some d, .range t x, ty, pos, af, gd⟩, true) :: rest) F L :=
  tl_turn (fun r => .pointer (some ⟨r, 0, none⟩)) (fun r => b ≠ r) (fun r => [rngE enc b r l (l.map Prod.fst) none]) rfl hg hp (fun a ha w h => by
    obtain ⟨r, w', h1, h2⟩ := run_range ht K h
    refine ⟨r, w', by simp [execOp, hx.eval ha rfl, h1], ?_, h2⟩
    have := h2.nd
    intro e
    subst e
    simp [rngE] at this) (fun r w => hS r w) hn hk kk
theorem r_next {x : Operand} {r : Nat} {left : List κ} {cur : Option κ} (K : KeyEnc X.P kt kd enc) (hne : b ≠ r) (hg : Gd ops F gd true) (hx : Ev F x true (.pointer (some ⟨r, 0, none⟩)))
    (hp : Take L (rngE enc b r l left cur) L0) (hS1 : ∀ w, St X.w0 X.M (rngE enc b r l left cur :: L0) w → S w) (hS2 : ∀ k w, St X.w0 X.M (rngE enc b r l (without k left) (some k) :: L0) w → S w) (hn : Nat.blt d X.n = true) (hk : noKey d F = true)
    (k1 : left = [] → TL X ops S Q rest ((d, true, .tuple #[.bool false]) :: F) (rngE enc b r l left cur :: L0))
    (k2 : ∀ k v, k ∈ left → look k l = some v → TL X ops S Q rest ((d, true, .tuple #[.bool true, enc k, v]) :: F) (rngE enc b r l (without k left) (some k) :: L0)) :
    TL X ops S Q ((⟨some d, .next x false, ty, pos, af, gd⟩, true) :: rest) F L := by
  refine tl_turn (ι := Option (κ × Value)) (fun | none => .tuple #[.bool false] | some (k, v) => .tuple #[.bool true, enc k, v]) (fun | none => left = [] | some (k, v) => k ∈ left ∧ look k l = some v)
    (fun | none => [rngE enc b r l left cur] | some (k, v) => [rngE enc b r l (without k left) (some k)]) rfl hg hp (fun a ha w h => ?_) (fun i w hi => ?_) hn hk (fun i hi => ?_)
  · rcases run_next (ty := ty) K hne h with ⟨h1, h2⟩ | ⟨k, v, w', h1, h2, h3, h4⟩
    · refine ⟨none, w, by simp [execOp, hx.eval ha rfl, h2], h1, ?_⟩
      obtain ⟨es, clk, seen, hb, hr, rest⟩ := h
      exact st_pair rfl hne rfl rfl rfl (Nat.le_refl _) (fun _ _ _ => rfl) ⟨es, clk, seen, hb, hr, rest⟩ (Array.getElem?_eq_some_iff.1 hb).1 (Array.getElem?_eq_some_iff.1 hr).1 (.inl (by simp [rngE])) (.inl (by simp [rngE]))
    · exact ⟨some (k, v), w', by simp [execOp, hx.eval ha rfl, h3], ⟨h1, h2⟩, h4⟩
  · match i with
    | none => exact hS1 w
    | some (k, v) => exact hS2 k w
  · match i with
    | none => exact k1 hi
    | some (k, v) => exact k2 k v hi.1 hi.2
theorem r_entry {x : Operand} {r : Nat} {left : List κ} {k : κ} (K : KeyEnc X.P kt kd enc) (hs : Sees X e S L (rngE enc b r l left (some k))) (hg : Gd ops F gd g) (hx : Ev F x g (.pointer (some ⟨r, 0, none⟩)))
    (hn : Nat.blt d X.n = true) (hk : noKey d F = true) : 
    TL X ops S Q rest ((d, g, .tuple #[enc k, (look k l).getD undef]) :: F) L → TL X ops S Q ((⟨some d, .entry x, ty, pos, af, gd⟩, e) :: rest) F L :=
  tl_read rfl hg (fun a ha hgt w hw => by simp [execOp, hx.eval ha hgt, run_entry K (hs w hw).ok]) hn hk
end maps
/-- a walk that is over: the map alone -/
theorem St.less {w0 w : World} {M : Nat → Prop} {L : List Ent} {e f : Ent} (h : St w0 M (e :: L) w) (hf : f.foot.Sublist e.foot) (hok : e.ok w → f.ok w) : St w0 M (f :: L) w :=
  ⟨h.os, h.tape, h.output, h.size, h.keep,
    fun x hx => by
      rcases List.mem_cons.1 hx with rfl | hx
      · exact hok (h.ok e List.mem_cons_self)
      · exact h.ok x (by simp [hx]),
    fun x hx b hb => by
      rcases List.mem_cons.1 hx with rfl | hx
      · exact h.lt e List.mem_cons_self b (hf.subset hb)
      · exact h.lt x (by simp [hx]) b hb,
    by
      have := h.nd
      simp only [List.flatMap_cons] at this ⊢
      exact this.sublist (hf.append (List.Sublist.refl _)),
    fun x hx b hb => by
      rcases List.mem_cons.1 hx with rfl | hx
      · exact h.inM e List.mem_cons_self b (hf.subset hb)
      · exact h.inM x (by simp [hx]) b hb⟩
theorem tr_less {c : Code} {L0 : List Ent} {x y : Ent} (h : Take L x L0) (hf : y.foot.Sublist x.foot) (hok : ∀ w, x.ok w → y.ok w) (k : Tr X Q c F (y :: L0)) : Tr X Q c F L := fun a w ha hw => k a w ha ((hw.perm h.perm).less hf (hok w))
theorem qt_less {ex : Exit} {L0 : List Ent} {x y : Ent} (h : Take L x L0) (hf : y.foot.Sublist x.foot) (hok : ∀ w, x.ok w → y.ok w) (k : QT X Q ex F (y :: L0)) : QT X Q ex F L := fun a w ha hw => k a w ha ((hw.perm h.perm).less hf (hok w))
theorem rng_map {κ : Type} {enc : κ → Value} {b r : Nat} {l : List (κ × Value)} {left : List κ} {cur : Option κ} : (mapE enc b l).foot.Sublist (rngE enc b r l left cur).foot ∧ ∀ w, (rngE enc b r l left cur).ok w → (mapE enc b l).ok w :=
  ⟨by simp [mapE, rngE], fun w ⟨es, clk, seen, hb, _, hm, _⟩ => ⟨es, clk, hb, hm⟩⟩

/-! ### 5. Many resources as one: take one out, put it back -/
theorem perm_eraseIdx {α : Type} : ∀ {l : List α} {i : Nat} {x : α}, l[i]? = some x → l.Perm (x :: l.eraseIdx i)
  | [], _, _, h => by simp at h
  | y :: l, 0, x, h => by
    have h1 : y = x := by simpa using h
    subst h1
    exact List.Perm.refl _
  | y :: l, i + 1, x, h => ((perm_eraseIdx (l := l) (i := i) (by simpa using h)).cons y).trans (List.Perm.swap _ _ _)
theorem perm_set {α : Type} : ∀ {l : List α} {i : Nat} {x : α}, i < l.length → (l.set i x).Perm (x :: l.eraseIdx i)
  | [], _, _, h => by simp at h
  | y :: l, 0, x, h => List.Perm.refl _
  | y :: l, i + 1, x, h => ((perm_set (l := l) (i := i) (by simpa using h)).cons y).trans (List.Perm.swap _ _ _)
theorem St.takeAt {w0 w : World} {M : Nat → Prop} {Es L : List Ent} {i : Nat} {x : Ent} (h : St w0 M (Sep.allE Es :: L) w) (hi : Es[i]? = some x) : St w0 M (x :: Sep.allE (Es.eraseIdx i) :: L) w := by
  have h1 := h.ofAll
  obtain ⟨hlt, hx⟩ := List.getElem?_eq_some_iff.1 hi
  have hp : Es.Perm (x :: Es.eraseIdx i) := perm_eraseIdx hi
  have h2 : St w0 M ((Es.eraseIdx i) ++ (x :: L)) w := h1.perm (((hp.append_right L).trans (by simpa using (List.perm_middle (a := x) (l₁ := Es.eraseIdx i) (l₂ := L)).symm)))
  exact h2.allE.perm (List.Perm.swap _ _ _)
theorem St.putAt {w0 w : World} {M : Nat → Prop} {Es L : List Ent} {i : Nat} {x : Ent} (h : St w0 M (x :: Sep.allE (Es.eraseIdx i) :: L) w) (hi : i < Es.length) : St w0 M (Sep.allE (Es.set i x) :: L) w := by
  have h1 := (h.perm (List.Perm.swap _ _ _)).ofAll
  have hp : (Es.set i x).Perm (x :: Es.eraseIdx i) := perm_set hi
  have h2 : St w0 M (Es.set i x ++ L) w := h1.perm (((hp.append_right L).trans (by simpa using (List.perm_middle (a := x) (l₁ := Es.eraseIdx i) (l₂ := L)).symm)).symm)
  exact h2.allE
theorem tr_takeAt {c : Code} {Es L0 : List Ent} {i : Nat} {x : Ent} (h : Take L (allE Es) L0) (hi : Es[i]? = some x) (k : Tr X Q c F (x :: allE (Es.eraseIdx i) :: L0)) : Tr X Q c F L := fun a w ha hw => k a w ha ((hw.perm h.perm).takeAt hi)
theorem tr_putAt {c : Code} {Es L0 L1 : List Ent} {i : Nat} {x : Ent} (h : Take L x L1) (h' : Take L1 (allE (Es.eraseIdx i)) L0) (hi : i < Es.length) (k : Tr X Q c F (allE (Es.set i x) :: L0)) : Tr X Q c F L := fun a w ha hw => k a w ha ((hw.perm (h.perm.trans (h'.perm.cons _))).putAt hi)
theorem qt_putAt {ex : Exit} {Es L0 L1 : List Ent} {i : Nat} {x : Ent} (h : Take L x L1) (h' : Take L1 (allE (Es.eraseIdx i)) L0) (hi : i < Es.length) (k : QT X Q ex F (allE (Es.set i x) :: L0)) : QT X Q ex F L := fun a w ha hw => k a w ha ((hw.perm (h.perm.trans (h'.perm.cons _))).putAt hi)
theorem tl_takeAt {Es L0 : List Ent} {i : Nat} {x : Ent} (h : Take L (allE Es) L0) (hi : Es[i]? = some x) (k : TL X ops S Q rest F (x :: allE (Es.eraseIdx i) :: L0)) : TL X ops S Q rest F L := fun a w ha hw hS => k a w ha ((hw.perm h.perm).takeAt hi) hS
theorem tr_pack {c : Code} (N : List Ent) {L0 : List Ent} (h : L.Perm (N ++ L0)) (k : Tr X Q c F (allE N :: L0)) : Tr X Q c F L := fun a w ha hw => k a w ha ((hw.perm h).allE)
theorem qt_pack {ex : Exit} (N : List Ent) {L0 : List Ent} (h : L.Perm (N ++ L0)) (k : QT X Q ex F (allE N :: L0)) : QT X Q ex F L := fun a w ha hw => k a w ha ((hw.perm h).allE)
theorem tr_unpack {c : Code} {N : List Ent} {L0 : List Ent} (h : Take L (allE N) L0) (k : Tr X Q c F (N ++ L0)) : Tr X Q c F L := fun a w ha hw => k a w ha ((hw.perm h.perm).ofAll)
theorem qt_unpack {ex : Exit} {N : List Ent} {L0 : List Ent} (h : Take L (allE N) L0) (k : QT X Q ex F (N ++ L0)) : QT X Q ex F L := fun a w ha hw => k a w ha ((hw.perm h.perm).ofAll)
end
end Go.Sep
