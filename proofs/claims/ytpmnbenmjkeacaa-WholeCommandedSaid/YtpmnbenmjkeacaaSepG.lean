/- Rules: stores into elements of a slice of the call's own, nil tests, results that lie in a cell, method values. No program is named here. -/
import Derived.Test.YtpmnbenmjkeacaaSepF
set_option linter.unusedVariables false
set_option linter.unusedSectionVars false
namespace Go.Sep
open Go Go.RowKit

/-! ### 1. Picking a resource out of the list -/
inductive Take : List Ent → Ent → List Ent → Prop
  | hd {x : Ent} {L : List Ent} : Take (x :: L) x L
  | tl {x y : Ent} {L L0 : List Ent} (h : Take L x L0) : Take (y :: L) x (y :: L0)
theorem Take.perm {L L0 : List Ent} {x : Ent} (h : Take L x L0) : L.Perm (x :: L0) := by
  induction h with
  | hd => exact List.Perm.refl _
  | tl _ ih => exact (ih.cons _).trans (List.Perm.swap _ _ _)
inductive Pm : List Ent → List Ent → Prop
  | nil : Pm [] []
  | cons {L L0 L' : List Ent} {x : Ent} (h : Take L x L0) (k : Pm L0 L') : Pm L (x :: L')
theorem Pm.perm {L L' : List Ent} (h : Pm L L') : L.Perm L' := by
  induction h with
  | nil => exact List.Perm.refl _
  | cons h _ ih => exact h.perm.trans (ih.cons _)
/-- some are let go -/
inductive Kl : List Ent → List Ent → Prop
  | nil {L : List Ent} : Kl L []
  | cons {L L0 L' : List Ent} {x : Ent} (h : Take L x L0) (k : Kl L0 L') : Kl L (x :: L')
theorem St.kl {w0 w : World} {M : Nat → Prop} {L L' : List Ent} (h : Kl L L') : St w0 M L w → St w0 M L' w := by
  induction h with
  | nil => exact fun hw => hw.sub (List.nil_sublist _)
  | cons h k ih =>
    intro hw
    have h1 := hw.perm h.perm
    have h2 := ih (h1.sub (List.sublist_cons_self _ _))
    refine ⟨h2.os, h2.tape, h2.output, h2.size, h2.keep, fun e he => ?_, fun e he => ?_, ?_, fun e he => ?_⟩
    · rcases List.mem_cons.1 he with rfl | he
      · exact h1.ok _ List.mem_cons_self
      · exact h2.ok e he
    · rcases List.mem_cons.1 he with rfl | he
      · exact h1.lt _ List.mem_cons_self
      · exact h2.lt e he
    · have hsub : ∀ {L L' : List Ent}, Kl L L' → ∀ b ∈ L'.flatMap Ent.foot, b ∈ L.flatMap Ent.foot := by
        intro L L' hk
        induction hk with
        | nil => intro b hb; cases hb
        | cons h k ih =>
          intro b hb
          have hp := h.perm.flatMap_right Ent.foot
          rw [hp.mem_iff]
          simp only [List.flatMap_cons, List.mem_append] at hb ⊢
          exact hb.imp id (ih b)
      have hnd := h1.nd
      simp only [List.flatMap_cons] at hnd ⊢
      have h3 := List.nodup_append.1 hnd
      exact List.nodup_append.2 ⟨h3.1, h2.nd, fun a ha b hb => h3.2.2 a ha b (hsub k b hb)⟩
    · rcases List.mem_cons.1 he with rfl | he
      · exact h1.inM _ List.mem_cons_self
      · exact h2.inM e he
/-- the frame: temporaries kept and dropped -/
inductive Kp : Frm → Frm → Prop
  | nil : Kp [] []
  | k {x : Nat × Bool × Value} {F F' : Frm} (h : Kp F F') : Kp (x :: F) (x :: F')
  | d {x : Nat × Bool × Value} {F F' : Frm} (h : Kp F F') : Kp (x :: F) F'
  | all {F : Frm} : Kp F F
theorem Kp.mem {F F' : Frm} (h : Kp F F') : ∀ x ∈ F', x ∈ F := by
  induction h with
  | nil => exact fun _ h => h
  | k _ ih => exact fun x hx => by rcases List.mem_cons.1 hx with e | e; exact e ▸ List.mem_cons_self; exact List.mem_cons_of_mem _ (ih x e)
  | d _ ih => exact fun x hx => List.mem_cons_of_mem _ (ih x hx)
  | all => exact fun _ h => h
theorem mcast {F : Frm} {t : Nat} {g : Bool} {v v' : Value} (h : (t, g, v) ∈ F) (e : v = v') : (t, g, v') ∈ F := e ▸ h

section
variable {X : Cx} {ops : Array Oper} {S : World → Prop} {Q : Exit → Act → World → Prop} {rest : List (Oper × Bool)} {F : Frm} {L : List Ent}
theorem tl_kp {F' : Frm} (h : Kp F F') (k : TL X ops S Q rest F' L) : TL X ops S Q rest F L := tl_del h.mem k
theorem tr_kp {c : Code} {F' : Frm} (h : Kp F F') (k : Tr X Q c F' L) : Tr X Q c F L := tr_drop k h.mem
theorem qt_kp {e : Exit} {F' : Frm} (h : Kp F F') (k : QT X Q e F' L) : QT X Q e F L := fun a w ha hw => k a w (ha.sub h.mem) hw
theorem tr_kl {c : Code} {L' : List Ent} (h : Kl L L') (k : Tr X Q c F L') : Tr X Q c F L := fun a w ha hw => k a w ha (hw.kl h)
/-- a temporary's value said otherwise -/
theorem tr_val {c : Code} {t : Nat} {v v' : Value} (hm : (t, true, v) ∈ F) (he : v = v') (k : Tr X Q c ((t, true, v') :: F) L) : Tr X Q c F L := tr_drop k (subCons (he ▸ hm) fun _ h => h)
theorem tl_val {t : Nat} {v v' : Value} (hm : (t, true, v) ∈ F) (he : v = v') (k : TL X ops S Q rest ((t, true, v') :: F) L) : TL X ops S Q rest F L := tl_del (subCons (he ▸ hm) fun _ h => h) k
theorem tr_ent {c : Code} {L0 : List Ent} {x y : Ent} (h : Take L x L0) (hf : y.foot = x.foot) (hok : ∀ w, x.ok w → y.ok w) (k : Tr X Q c F (y :: L0)) : Tr X Q c F L := fun a w ha hw => k a w ha ((hw.perm h.perm).conv hf (hok w))
theorem qt_ent {e : Exit} {L0 : List Ent} {x y : Ent} (h : Take L x L0) (hf : y.foot = x.foot) (hok : ∀ w, x.ok w → y.ok w) (k : QT X Q e F (y :: L0)) : QT X Q e F L := fun a w ha hw => k a w ha ((hw.perm h.perm).conv hf (hok w))
theorem tr_eq {c : Code} {L0 : List Ent} {x y : Ent} (h : Take L x L0) (he : x = y) (k : Tr X Q c F (y :: L0)) : Tr X Q c F L := fun a w ha hw => k a w ha (he ▸ hw.perm h.perm)
theorem qt_eq {e : Exit} {L0 : List Ent} {x y : Ent} (h : Take L x L0) (he : x = y) (k : QT X Q e F (y :: L0)) : QT X Q e F L := fun a w ha hw => k a w ha (he ▸ hw.perm h.perm)
theorem tr_join {c : Code} {L0 L1 : List Ent} {x y : Ent} (h : Take L x L0) (h' : Take L0 y L1) (k : Tr X Q c F (both x y :: L1)) : Tr X Q c F L := fun a w ha hw => k a w ha ((hw.perm (h.perm.trans (h'.perm.cons _))).join)
theorem tr_part {c : Code} {L0 : List Ent} {x y : Ent} (h : Take L (both x y) L0) (k : Tr X Q c F (x :: y :: L0)) : Tr X Q c F L := fun a w ha hw => k a w ha ((hw.perm h.perm).part)
theorem qt_join {e : Exit} {L0 L1 : List Ent} {x y : Ent} (h : Take L x L0) (h' : Take L0 y L1) (k : QT X Q e F (both x y :: L1)) : QT X Q e F L := fun a w ha hw => k a w ha ((hw.perm (h.perm.trans (h'.perm.cons _))).join)
theorem qt_part {e : Exit} {L0 : List Ent} {x y : Ent} (h : Take L (both x y) L0) (k : QT X Q e F (x :: y :: L0)) : QT X Q e F L := fun a w ha hw => k a w ha ((hw.perm h.perm).part)
theorem tl_join {L0 L1 : List Ent} {x y : Ent} (h : Take L x L0) (h' : Take L0 y L1) (k : TL X ops S Q rest F (both x y :: L1)) : TL X ops S Q rest F L := fun a w ha hw hS => k a w ha ((hw.perm (h.perm.trans (h'.perm.cons _))).join) hS
theorem tl_part {L0 : List Ent} {x y : Ent} (h : Take L (both x y) L0) (k : TL X ops S Q rest F (x :: y :: L0)) : TL X ops S Q rest F L := fun a w ha hw hS => k a w ha ((hw.perm h.perm).part) hS
theorem tl_eq {L0 : List Ent} {x y : Ent} (h : Take L x L0) (he : x = y) (k : TL X ops S Q rest F (y :: L0)) : TL X ops S Q rest F L := fun a w ha hw hS => k a w ha (he ▸ hw.perm h.perm) hS
end

/-! ### 2. Results in cells -/
inductive Rw (P : Program) (F : Frm) (L : List Ent) : List ResultVar → List Value → Prop
  | nil : Rw P F L [] []
  | t {t : Nat} {v : Value} {rs : List ResultVar} {vs : List Value} (h : (t, true, v) ∈ F) (k : Rw P F L rs vs) : Rw P F L (.tmp t :: rs) (v :: vs)
  | c {x : Nat} {ty : TypeId} {agg : Bool} {sz b bt off : Nat} {cs : List Value} (l : List Value) {v : Value} {rs : List ResultVar} {vs : List Value} (ht : TyS P ty agg sz) (h : (x, true, .pointer (some ⟨b, off, none⟩)) ∈ F) (hb : boxE b bt cs ∈ L)
      (hl : (cs.drop off).take sz = l) (hn : l.length = sz) (hp : Part agg l v) (k : Rw P F L rs vs) : Rw P F L (.cell x ty :: rs) (v :: vs)
theorem run_resultsW {P : Program} {w0 : World} {M : Nat → Prop} {n : Nat} {ds : List Deferred} {a : Act} {F : Frm} {L : List Ent} (ha : Holds n ds a F) {w : World} (hw : St w0 M L w) (f : ResultVar → Sem Value) (hf : ∀ t, f (.tmp t) = pure (a.tmps.getD t undef))
    (hf2 : ∀ x t, f (.cell x t) = (asAddr (a.tmps.getD x undef) >>= fun y => loadVar t y)) : ∀ {rs : List ResultVar} {vs : List Value}, Rw P F L rs vs → Sem.run P (rs.mapM f) w = .ok vs w
  | _, _, .nil => rfl
  | _, _, .t (t := t) (v := v) h k => by
    have h1 := ha.all _ _ _ h
    have ih := run_resultsW ha hw f hf hf2 k
    simp only [List.mapM_cons, hf]
    simp [h1, ih]
  | _, _, .c (x := x) (ty := ty) (sz := sz) (b := b) (off := off) (cs := cs) l (v := v) ht h hb hl hn hp k => by
    have h1 := ha.all _ _ _ h
    have ih := run_resultsW ha hw f hf hf2 k
    have h2 := hw.ok _ hb
    have h3 : (loadVar ty ⟨b, off, none⟩).run P w = .ok v w := hp.run ht hn fun j u hu => by
      rw [boxE_cell h2]
      rw [← hl, List.getElem?_take] at hu
      split at hu
      · rw [← hu, List.getElem?_drop]
      · cases hu
    simp only [List.mapM_cons, hf2]
    simp [h1, ih, asAddr, h3]
theorem post_retW {P : Program} {w0 : World} {M : Nat → Prop} {fn : Func} {R : Post} {n : Nat} {ds : List Deferred} {a : Act} {F : Frm} {L : List Ent} {w : World} {rs : List ResultVar} {vs : List Value} (hr : fn.results = rs.toArray) (ha : Holds n ds a F) (hw : St w0 M L w) (hv : Rw P F L rs vs)
    (h : R (.returned (one vs)) w) : a.defers = ds ∧ ∃ v, (results fn a.tmps).run P w = .ok v w ∧ R (.returned v) w := by
  refine ⟨ha.defers, one vs, ?_, h⟩
  unfold results
  rw [hr]
  simp only [List.mapM_toArray, Sem.run_bind, Sem.run_map]
  rw [run_resultsW ha hw _ (fun _ => rfl) (fun _ _ => rfl) hv]
  match vs with
  | [] => rfl
  | [v] => rfl
  | v :: u :: vs => rfl
section
variable {X : Cx} {ops : Array Oper} {S : World → Prop} {Q : Exit → Act → World → Prop} {rest : List (Oper × Bool)} {F : Frm} {L : List Ent}
theorem qt_fin_ret {fn : Func} {R : Post} {rs : List ResultVar} {vs : List Value} (hd : X.ds = []) (hr : fn.results = rs.toArray) (hv : Rw X.P F L rs vs) (k : ∀ w, St X.w0 X.M L w → R (.returned (one vs)) w) : QT X (bodyPost X.P fn R) .ret F L :=
  fun a w ha hw => by
    have h := post_retW (P := X.P) hr ha hw hv (k w hw)
    rw [hd] at h
    exact h
theorem qt_fin {fn : Func} {R : Post} {rs : List ResultVar} {vs : List Value} (hd : X.ds = []) (hr : fn.results = rs.toArray) (hv : Rw X.P F L rs vs) (k : ∀ w, St X.w0 X.M L w → R (.returned (one vs)) w) : QT X (bodyPost X.P fn R) .normal F L :=
  fun a w ha hw => by
    have h := post_retW (P := X.P) hr ha hw hv (k w hw)
    rw [hd] at h
    exact h
end

/-! ### 3. Elements that are written -/
theorem flatten_take {sz : Nat} : ∀ (cs : List (List Value)) (i : Nat), (∀ l ∈ cs, l.length = sz) → (cs.take i).flatten = cs.flatten.take (i * sz)
  | [], i, _ => by simp
  | c :: cs, 0, _ => by simp
  | c :: cs, i + 1, hl => by
    have hc := hl c List.mem_cons_self
    rw [List.take_succ_cons, List.flatten_cons, List.flatten_cons, flatten_take cs i fun l h => hl l (List.mem_cons_of_mem _ h), List.take_append, Nat.succ_mul]
    rw [List.take_of_length_le (by omega : c.length ≤ i * sz + sz), show i * sz + sz - c.length = i * sz from by omega]
theorem flatten_drop {sz : Nat} : ∀ (cs : List (List Value)) (i : Nat), (∀ l ∈ cs, l.length = sz) → (cs.drop i).flatten = cs.flatten.drop (i * sz)
  | [], i, _ => by simp
  | c :: cs, 0, _ => by simp
  | c :: cs, i + 1, hl => by
    have hc := hl c List.mem_cons_self
    rw [List.drop_succ_cons, List.flatten_cons, flatten_drop cs i fun l h => hl l (List.mem_cons_of_mem _ h), List.drop_append, Nat.succ_mul]
    rw [List.drop_of_length_le (by omega : c.length ≤ i * sz + sz), show i * sz + sz - c.length = i * sz from by omega, List.nil_append]
theorem set_flatten {sz : Nat} (cs : List (List Value)) (i : Nat) (x : List Value) (hl : ∀ l ∈ cs, l.length = sz) (hi : i < cs.length) : (cs.set i x).flatten = cs.flatten.take (i * sz) ++ x ++ cs.flatten.drop (i * sz + sz) := by
  rw [List.set_eq_take_append_cons_drop, if_pos hi, List.flatten_append, List.flatten_cons, flatten_take cs i hl, flatten_drop cs (i + 1) hl, Nat.succ_mul, List.append_assoc]
theorem st_of_setEl {w : World} {A : Option Addr} {n c : Nat} {t : TypeId} {sz : Nat} {cs : List (List Value)} (h : (ownE A n c t sz cs).ok w) {i : Nat} {cl : List Value} (hi : cs[i]? = some cl) (x : List Value) (hx : x.length = sz) :
    ∃ (b o : Nat) (cur : Array Value), A = some ⟨b, o, none⟩ ∧ w.heap[b]? = some (.cells cur t (0, 0)) ∧ o + i * sz + sz ≤ cur.size ∧ (∀ j, j < sz → cur[o + i * sz + j]? = cl[j]?) ∧
      St w (· ∈ (ownE A n c t sz cs).foot) [ownE A n c t sz (cs.set i x)] (w.setRow b (cur.toList.take (o + i * sz) ++ x ++ cur.toList.drop (o + i * sz + sz)).toArray) := by
  obtain ⟨h1, h2, hnc, hcm, h3⟩ := h
  have hlt := (List.getElem?_eq_some_iff.1 hi).1
  rcases h3 with ⟨_, hn, _⟩ | ⟨g, o, cur, hA, hh, hcs, htake⟩
  · omega
  · subst hA
    have hle : (i + 1) * sz ≤ n * sz := Nat.mul_le_mul_right _ (by omega)
    have hle2 : n * sz ≤ c * sz := Nat.mul_le_mul_right _ hnc
    rw [Nat.succ_mul] at hle
    have hset : ∀ l ∈ cs.set i x, l.length = sz := fun l hl => by
      rcases List.mem_or_eq_of_mem_set hl with h | h
      · exact h2 l h
      · rw [h]; exact hx
    refine ⟨g, o, cur, rfl, hh, by omega, fun j hj => ?_, ?_⟩
    · have hcl := h2 cl (List.mem_of_getElem? hi)
      have h5 := flatten_get cs h2 i cl hi j cl[j] (List.getElem?_eq_getElem (by omega))
      rw [← htake, List.getElem?_take] at h5
      split at h5
      · rw [List.getElem?_drop] at h5
        rw [List.getElem?_eq_getElem (by omega : j < cl.length), ← h5, Nat.add_assoc]
        simp
      · cases h5
    · refine ⟨rfl, rfl, rfl, by simp, fun k hk hm => setRow_other w g k _ (by simpa [ownE, blk] using hm), fun y hy => ?_, fun y hy b hb => ?_, by simp [ownE, blk], fun y hy b hb => ?_⟩
      · obtain rfl : y = _ := by simpa using hy
        refine ⟨by simp [h1], hset, hnc, hcm, .inr ⟨g, o, _, rfl, setRow_heap w g cur _ t (0, 0) hh, ?_, ?_⟩⟩
        · simp only [List.size_toArray, List.length_append, List.length_take, List.length_drop, Array.length_toList]
          omega
        · rw [set_flatten cs i x h2 hlt, ← htake]
          simp only
          apply List.ext_getElem?
          intro j
          simp only [List.getElem?_take, List.getElem?_drop, List.getElem?_append, List.length_append, List.length_take, List.length_drop, Array.length_toList]
          rw [Nat.min_eq_left (by omega : o + i * sz ≤ cur.size), Nat.min_eq_left (by omega : n * sz ≤ cur.size - o), Nat.min_eq_left (by omega : i * sz ≤ n * sz)]
          by_cases hj : j < n * sz
          · rw [if_pos hj]
            by_cases hj1 : j < i * sz
            · simp only [show o + j < o + i * sz + x.length from by omega, show o + j < o + i * sz from by omega, show j < i * sz + x.length from by omega, hj1, hj, if_true]
            · by_cases hj2 : j < i * sz + sz
              · simp only [show o + j < o + i * sz + x.length from by omega, show ¬ o + j < o + i * sz from by omega, show j < i * sz + x.length from by omega, hj1, if_true, if_false]
                congr 1
                omega
              · simp only [show ¬ o + j < o + i * sz + x.length from by omega, show ¬ j < i * sz + x.length from by omega, if_false]
                rw [if_pos (by omega)]
                congr 1
                omega
          · rw [if_neg hj]
            simp only [show ¬ j < i * sz + x.length from by omega, if_false]
            rw [if_neg (by omega)]
      · obtain rfl : y = _ := by simpa using hy
        have : b = g := by simpa [ownE, blk] using hb
        subst this
        simp
        exact (Array.getElem?_eq_some_iff.1 hh).1
      · obtain rfl : y = _ := by simpa using hy
        exact .inl hb
/-- s[l:] of a slice of the call's own, the whole given up -/
theorem own_from {w : World} {A : Option Addr} {n c : Nat} {t : TypeId} {sz : Nat} {cs : List (List Value)} (h : In w (ownE A n c t sz cs)) (l : Nat) (hl : l ≤ n) :
    In w (ownE (if c - l = 0 then A else A.map (·.add (l * sz))) (n - l) (c - l) t sz (cs.drop l)) ∧ ∀ b ∈ (ownE (if c - l = 0 then A else A.map (·.add (l * sz))) (n - l) (c - l) t sz (cs.drop l)).foot, b ∈ (ownE A n c t sz cs).foot := by
  obtain ⟨h1, h2, hnc, hcm, h3⟩ := h.ok
  have hblk : ∀ b ∈ blk (if c - l = 0 then A else A.map (·.add (l * sz))), b ∈ blk A := by
    intro b hb
    split at hb
    · exact hb
    · cases A with
      | none => exact hb
      | some a =>
        simp only [Option.map_some, blk] at hb ⊢
        have : (a.add (l * sz)).block = a.block := by unfold Addr.add; split <;> rfl
        rwa [this] at hb
  refine ⟨⟨⟨by simp [h1], fun x hx => h2 x (List.mem_of_mem_drop hx), by omega, by omega, ?_⟩, fun b hb => h.lt b (hblk b hb)⟩, hblk⟩
  rcases h3 with ⟨hA, hn, hc⟩ | ⟨g, o, cur, hA, hh, hcs, htake⟩
  · subst hA
    exact .inl ⟨by split <;> rfl, by omega, by omega⟩
  · subst hA
    have hm1 : l * sz ≤ n * sz := Nat.mul_le_mul_right _ hl
    have hm2 : n * sz ≤ c * sz := Nat.mul_le_mul_right _ hnc
    by_cases hz : c - l = 0
    · refine .inr ⟨g, o, cur, by rw [if_pos hz], hh, by rw [hz]; omega, ?_⟩
      rw [show n - l = 0 from by omega, show cs.drop l = [] from List.drop_of_length_le (by omega)]
      simp
    · refine .inr ⟨g, o + l * sz, cur, by rw [if_neg hz]; simp [add_plain], hh, by rw [Nat.sub_mul]; omega, ?_⟩
      rw [flatten_drop cs l h2, ← htake, List.drop_take, List.drop_drop, Nat.sub_mul]
section
variable {X : Cx} {ops : Array Oper} {S : World → Prop} {Q : Exit → Act → World → Prop} {rest : List (Oper × Bool)} {F : Frm} {L : List Ent}
variable {e : Bool} {d : Nat} {g : Bool} {ty : TypeId} {pos : String} {af : Array Edge} {gd : Option (Nat × Bool)}
theorem over_take {k sz : Nat} {ns cl : List Value} (h : k + ns.length ≤ cl.length) : over k ns cl = cl.take k ++ ns ++ cl.drop (k + ns.length) := over_eq k ns cl h
theorem r_storeEl {x y : Operand} {t : TypeId} {agg : Bool} {m : Nat} {A : Option Addr} {n c el sz i o : Nat} {cs : List (List Value)} {cl : List Value} {v : Value} (cl' : List Value) {L0 : List Ent} (ht : TyS X.P t agg m) (hpos : 0 < sz) (hg : Gd ops F gd true) (hx : Ev F x true (.pointer (some (elA A (i * sz + o))))) (hy : Ev F y true v)
    (hp : Take L (ownE A n c el sz cs) L0) (hc : cs[i]? = some cl) (hz : (cellsL v).length = m) (ho : ones (cellsL v) = true) (hr : o + m ≤ sz) (hcl : over o (cellsL v) cl = cl')
    (hS : ∀ w, St X.w0 X.M (ownE A n c el sz (cs.set i cl') :: L0) w → S w) (k : TL X ops S Q rest F (ownE A n c el sz (cs.set i cl') :: L0)) : TL X ops S Q ((⟨none, .store t x y, ty, pos, af, gd⟩, true) :: rest) F L := by
  intro a w ha hw _
  have hw1 := hw.perm hp.perm
  have h1 := hw1.ok _ List.mem_cons_self
  have hclen : cl.length = sz := h1.2.1 cl (List.mem_of_getElem? hc)
  have hlen' : cl'.length = sz := by rw [← hcl, over_length, hclen]
  obtain ⟨b, oo, cur, hA, hh, hsz, hcell, hst⟩ := st_of_setEl h1 hc cl' hlen'
  have h2 := run_storeCells_at X.P b (oo + (i * sz + o)) el (cellsL v) 0 cur w hh (by omega) (ones_mem ho)
  have h3 : v.cells.size = m := by rw [cells_eq]; simpa using hz
  simp only [Nat.add_zero] at h2
  have hcl2 : ∀ j, j < sz → cur.toList[oo + i * sz + j]? = cl[j]? := fun j hj => by simpa using hcell j hj
  have hrow : cur.toList.take (oo + (i * sz + o)) ++ cellsL v ++ cur.toList.drop (oo + (i * sz + o) + (cellsL v).length) = cur.toList.take (oo + i * sz) ++ cl' ++ cur.toList.drop (oo + i * sz + sz) := by
    rw [← hcl, over_eq _ _ _ (by omega)]
    have e1 : cur.toList.take (oo + (i * sz + o)) = cur.toList.take (oo + i * sz) ++ cl.take o := by
      apply List.ext_getElem?
      intro j
      rw [List.getElem?_take, List.getElem?_append, List.length_take, Array.length_toList, Nat.min_eq_left (by omega), List.getElem?_take, List.getElem?_take]
      by_cases hj : j < oo + i * sz
      · rw [if_pos (by omega), if_pos hj, if_pos hj]
      · rw [if_neg hj]
        by_cases hj2 : j < oo + (i * sz + o)
        · rw [if_pos hj2, if_pos (by omega), ← hcl2 (j - (oo + i * sz)) (by omega)]
          congr 1; omega
        · rw [if_neg hj2, if_neg (by omega)]
    have e2 : cur.toList.drop (oo + (i * sz + o) + (cellsL v).length) = cl.drop (o + (cellsL v).length) ++ cur.toList.drop (oo + i * sz + sz) := by
      apply List.ext_getElem?
      intro j
      rw [List.getElem?_drop, List.getElem?_append, List.length_drop, List.getElem?_drop, List.getElem?_drop]
      by_cases hj : j < cl.length - (o + (cellsL v).length)
      · rw [if_pos hj, ← hcl2 _ (by omega)]
        congr 1; omega
      · rw [if_neg hj]
        congr 1; omega
    rw [e1, e2]
    simp
  simp only [wpLex]
  rw [if_pos (hg.wanted ha)]
  unfold exec
  have hex : (execOp a.eval ⟨none, .store t x y, ty, pos, af, gd⟩).run X.P w = .ok .skip (w.setRow b (cur.toList.take (oo + i * sz) ++ cl' ++ cur.toList.drop (oo + i * sz + sz)).toArray) := by
    rw [hrow] at h2
    simp [execOp, hx.eval ha rfl, hy.eval ha rfl, Instr.storeAt, Instr.sureAddr, storeVar, ht.sizeR, h3, cellsL_eq, hA, elA, h2]
  rw [hex]
  have hw' : St X.w0 X.M ([ownE A n c el sz (cs.set i cl')] ++ L0) _ := hw1.turn hst
  exact ⟨hS _ hw', k _ _ ha hw' (hS _ hw')⟩
theorem r_maxI {x y : Operand} {tys : Array TypeId} {k j : IntKind} {m n : Int} (hg : Gd ops F gd g) (hx : Ev F x g (.int k m)) (hy : Ev F y g (.int j n)) (hn : Nat.blt d X.n = true) (hk : noKey d F = true) : 
    TL X ops S Q rest ((d, g, .int k (max m n)) :: F) L → TL X ops S Q ((⟨some d, .call ⟨.builtin .max, #[x, y], tys⟩, ty, pos, af, gd⟩, e) :: rest) F L :=
  r_max _ hg hx hy (by by_cases h : n > m <;> simp [h] <;> omega) hn hk
theorem r_minI {x y : Operand} {tys : Array TypeId} {k j : IntKind} {m n : Int} (hg : Gd ops F gd g) (hx : Ev F x g (.int k m)) (hy : Ev F y g (.int j n)) (hn : Nat.blt d X.n = true) (hk : noKey d F = true) : 
    TL X ops S Q rest ((d, g, .int k (min m n)) :: F) L → TL X ops S Q ((⟨some d, .call ⟨.builtin .min, #[x, y], tys⟩, ty, pos, af, gd⟩, e) :: rest) F L :=
  r_min _ hg hx hy (by by_cases h : n < m <;> simp [h] <;> omega) hn hk
/-! ### 4. Nil tests, method values -/
theorem run_eqlNil {P : Program} {w : World} {t te : TypeId} {p : Addr} (ht : P.underlying t = some (.pointer te)) (n : Nat) : (Op.equalIn (n + 1) t (.pointer (some p)) (.pointer none)).run P w = .ok false w := by
  simp [Op.equalIn, run_underlying ht]
theorem r_neqNil {x : Operand} {t u te : TypeId} {p : Addr} (ht : X.P.underlying t = some (.pointer te)) (hg : Gd ops F gd g) (hx : Ev F x g (.pointer (some p))) (hn : Nat.blt d X.n = true) (hk : noKey d F = true) : 
    TL X ops S Q rest ((d, g, .bool true) :: F) L → TL X ops S Q ((⟨some d, .binOp .neq t x (.const (.pointer none)) u, ty, pos, af, gd⟩, e) :: rest) F L :=
  tl_pure rfl hg (fun a ha hgt w => by simp [execOp, hx.eval ha hgt, eval_const, eqGuard, binOp, Op.equal, Op.maxDepth, run_eqlNil (p := p) ht 9999]) hn hk
theorem r_eqlNil {x : Operand} {t u te : TypeId} {p : Addr} (ht : X.P.underlying t = some (.pointer te)) (hg : Gd ops F gd g) (hx : Ev F x g (.pointer (some p))) (hn : Nat.blt d X.n = true) (hk : noKey d F = true) : 
    TL X ops S Q rest ((d, g, .bool false) :: F) L → TL X ops S Q ((⟨some d, .binOp .eql t x (.const (.pointer none)) u, ty, pos, af, gd⟩, e) :: rest) F L :=
  tl_pure rfl hg (fun a ha hgt w => by simp [execOp, hx.eval ha hgt, eval_const, eqGuard, binOp, Op.equal, Op.maxDepth, run_eqlNil (p := p) ht 9999]) hn hk
theorem r_makeFuncF {f : Fn} {xs ys : List Operand} {us vs : List Value} (hg : Gd ops F gd g) (hy : Evs F g ys us) (hx : Evs F g xs vs) (hn : Nat.blt d X.n = true) (hk : noKey d F = true) : 
    TL X ops S Q rest ((d, g, .func f us.toArray vs.toArray) :: F) L → TL X ops S Q ((⟨some d, .makeFunc f ys.toArray xs.toArray, ty, pos, af, gd⟩, e) :: rest) F L :=
  tl_pure rfl hg (fun a ha hgt w => by simp [execOp, Instr.makeFunc, ← hx.eval ha hgt, ← hy.eval ha hgt]) hn hk
theorem r_callF {fo : Operand} {args : List Operand} {tys : Array TypeId} {f : Nat} {first caps vs : List Value} {ι : Type} (v : ι → Value) (R : ι → Prop) (L' : ι → List Ent) (he : EntersF X.P f) (hg : Gd ops F gd true)
    (hf : Ev F fo true (.func (.func f) first.toArray caps.toArray)) (hx : Evs F true args vs)
    (hc : ∀ w, St X.w0 X.M L w → Calls X.P f (first ++ vs ++ caps).toArray w (fun e w' => ∃ i, R i ∧ e = .returned (v i) ∧ St X.w0 X.M (L' i) w'))
    (hS : ∀ i w, R i → St X.w0 X.M (L' i) w → S w) (hn : Nat.blt d X.n = true) (hk : noKey d F = true) (k : ∀ i, R i → TL X ops S Q rest ((d, true, v i) :: F) (L' i)) :
    TL X ops S Q ((⟨some d, .call ⟨.value fo, args.toArray, tys⟩, ty, pos, af, gd⟩, true) :: rest) F L := by
  intro a w ha hw _
  simp only [wpLex]
  rw [if_pos (hg.wanted ha)]
  unfold exec
  rw [run_callOp (first := first) (caps := caps) rfl (hf.eval ha rfl) (hx.eval ha rfl) he]
  refine (hc w hw).mono ?_
  rintro e w' ⟨i, hi, rfl, hw'⟩
  have hp := ha.put (g := true) (v := v i) hn hk
  exact ⟨v i, rfl, hS i _ hi hw', k i hi _ _ hp hw' (hS i _ hi hw')⟩
end
end Go.Sep
