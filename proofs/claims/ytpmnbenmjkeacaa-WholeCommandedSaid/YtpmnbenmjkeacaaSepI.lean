/- Rules: a range over a function; a call of yield; a function that leaves with marks. No program is named here. -/
import Derived.Test.YtpmnbenmjkeacaaSepH
import Derived.RangeFuncRecord
set_option linter.unusedVariables false
set_option linter.unusedSectionVars false
namespace Go.Sep
open Go Go.RowKit

/-! ### 1. The records as resources -/
def loopE (l : Nat) (r : Loop) : Ent := ⟨[l], fun w => w.heap[l]? = some (.loop r), fun w w' h hk => (h l (by simp)).trans hk⟩
def dfE (D : Nat) : Ent := ⟨[D], fun w => w.heap[D]? = some (.deferred (some [])), fun w w' h hk => (h D (by simp)).trans hk⟩
/-- all of them as one -/
def allE (L : List Ent) : Ent := ⟨L.flatMap Ent.foot, fun w => ∀ e ∈ L, e.ok w, fun w w' h hk e he => e.loc w w' (fun b hb => h b (List.mem_flatMap.2 ⟨e, he, hb⟩)) (hk e he)⟩
theorem St.allE {w0 w : World} {M : Nat → Prop} {L L0 : List Ent} (h : St w0 M (L ++ L0) w) : St w0 M (allE L :: L0) w := by
  refine ⟨h.os, h.tape, h.output, h.size, h.keep, fun x hx => ?_, fun x hx b hb => ?_, ?_, fun x hx b hb => ?_⟩
  · rcases List.mem_cons.1 hx with rfl | hx
    · exact fun e he => h.ok e (List.mem_append_left _ he)
    · exact h.ok x (List.mem_append_right _ hx)
  · rcases List.mem_cons.1 hx with rfl | hx
    · obtain ⟨e, he, hb⟩ := List.mem_flatMap.1 hb; exact h.lt e (List.mem_append_left _ he) b hb
    · exact h.lt x (List.mem_append_right _ hx) b hb
  · have := h.nd; rw [List.flatMap_append] at this; simpa [List.flatMap_cons, Sep.allE] using this
  · rcases List.mem_cons.1 hx with rfl | hx
    · obtain ⟨e, he, hb⟩ := List.mem_flatMap.1 hb; exact h.inM e (List.mem_append_left _ he) b hb
    · exact h.inM x (List.mem_append_right _ hx) b hb
theorem St.ofAll {w0 w : World} {M : Nat → Prop} {L L0 : List Ent} (h : St w0 M (Sep.allE L :: L0) w) : St w0 M (L ++ L0) w := by
  refine ⟨h.os, h.tape, h.output, h.size, h.keep, fun x hx => ?_, fun x hx b hb => ?_, ?_, fun x hx b hb => ?_⟩
  · rcases List.mem_append.1 hx with hx | hx
    · exact h.ok _ List.mem_cons_self x hx
    · exact h.ok x (List.mem_cons_of_mem _ hx)
  · rcases List.mem_append.1 hx with hx | hx
    · exact h.lt _ List.mem_cons_self b (List.mem_flatMap.2 ⟨x, hx, hb⟩)
    · exact h.lt x (List.mem_cons_of_mem _ hx) b hb
  · have := h.nd; rw [List.flatMap_append]; simpa [List.flatMap_cons, Sep.allE] using this
  · rcases List.mem_append.1 hx with hx | hx
    · exact h.inM _ List.mem_cons_self b (List.mem_flatMap.2 ⟨x, hx, hb⟩)
    · exact h.inM x (List.mem_cons_of_mem _ hx) b hb
/-- what the resource's own blocks may be turned to -/
theorem St.own {w0 w : World} {M : Nat → Prop} {L : List Ent} (h : St w0 M L w) : St w (· ∈ (Sep.allE L).foot) L w :=
  ⟨rfl, rfl, rfl, Nat.le_refl _, fun _ _ _ => rfl, h.ok, h.lt, h.nd, fun e he b hb => .inl (List.mem_flatMap.2 ⟨e, he, hb⟩)⟩
/-- what may only be read, seen from a later world -/
theorem Ro.later {w0 w : World} {M : Nat → Prop} {L : List Ent} {e : Ent} (h : Ro w0 M e) (hw : St w0 M L w) : Ro w (· ∈ (Sep.allE L).foot) e := by
  have h1 := hw.ro h
  refine ⟨h1.ok, h1.lt, fun b hb hm => ?_⟩
  obtain ⟨x, hx, hbx⟩ := List.mem_flatMap.1 hm
  rcases hw.inM x hx b hbx with h2 | h2
  · exact h.out b hb h2
  · have := h.lt b hb; omega
theorem st_of_putLoop {w : World} {l : Nat} {r : Loop} (h : w.heap[l]? = some (.loop r)) (r' : Loop) : St w (· ∈ [l]) [loopE l r'] (w.putObj l (.loop r')) := by
  have hlt := (Array.getElem?_eq_some_iff.1 h).1
  refine ⟨rfl, rfl, rfl, by simp, fun k hk hm => World.putObj_heap_other (by simpa using hm), fun x hx => ?_, fun x hx k hk => ?_, by simp [loopE], fun x hx k hk => ?_⟩
  · obtain rfl : x = _ := by simpa using hx
    exact World.putObj_heap_same hlt
  · obtain rfl : x = _ := by simpa using hx
    have : k = l := by simpa [loopE] using hk
    simp [this]; exact hlt
  · obtain rfl : x = _ := by simpa using hx
    have : k = l := by simpa [loopE] using hk
    exact .inl (by simp [this])
theorem St.putLoop {w0 w : World} {M : Nat → Prop} {L : List Ent} {l : Nat} {r : Loop} (h : St w0 M (loopE l r :: L) w) (r' : Loop) : St w0 M (loopE l r' :: L) (w.putObj l (.loop r')) :=
  h.turn (st_of_putLoop (h.ok _ List.mem_cons_self) r')
theorem St.takeDf {w0 w : World} {M : Nat → Prop} {L : List Ent} {D : Nat} (h : St w0 M (dfE D :: L) w) : St w0 M L (w.putObj D (.deferred none)) := by
  have hlt := h.lt _ List.mem_cons_self D (by simp [dfE])
  have := h.turn (N := []) (w' := w.putObj D (.deferred none)) ⟨rfl, rfl, rfl, by simp, fun k hk hm => World.putObj_heap_other (by simpa [dfE] using hm), (fun x hx => by cases hx), (fun x hx => by cases hx), by simp, (fun x hx => by cases hx)⟩
  simpa using this
theorem st_of_newObj (w : World) (o : Obj) (e : Ent) (hf : e.foot = [w.heap.size]) (hok : ∀ w', w'.heap[w.heap.size]? = some o → e.ok w') : St w no [e] (w.alloc o) := by
  refine ⟨rfl, rfl, rfl, by simp, fun b hb _ => Below.heap_alloc w _ b hb, fun x hx => ?_, fun x hx b hb => ?_, by simp [hf], fun x hx b hb => ?_⟩
  · obtain rfl : x = e := by simpa using hx
    exact hok _ (World.alloc_heap_new w _)
  · obtain rfl : x = e := by simpa using hx
    have : b = w.heap.size := by simpa [hf] using hb
    simp [this]
  · obtain rfl : x = e := by simpa using hx
    have : b = w.heap.size := by simpa [hf] using hb
    exact .inr (by omega)

/-! ### 2. A call of yield; what an iterator is asked -/
def Yld (P : Program) (l : Nat) (args : List Value) (w : World) (R : Ending → World → Prop) : Prop :=
  ∃ fn tmps assign body, (Instr.yield l args.toArray).run P w = .ok (.round l fn tmps assign body) w ∧ Rounds P l fn tmps assign body w R
theorem Yld.mono {P : Program} {l : Nat} {args : List Value} {w : World} {R R' : Ending → World → Prop} (h : Yld P l args w R) (hr : ∀ e w', R e w' → R' e w') : Yld P l args w R' :=
  let ⟨fn, tmps, assign, body, h1, h2⟩ := h; ⟨fn, tmps, assign, body, h1, h2.mono hr⟩
/-- a round's contract, as the iterator sees it -/
def Hands (P : Program) (l : Nat) (args : List Value) (W : World) {τ : Type} (J : τ → Ent) (s : τ) (R Rx : τ → Prop) : Prop :=
  Yld P l args W (Gives W (· ∈ (J s).foot) (fun i : Bool × τ => .bool i.1) (fun i => if i.1 = true then R i.2 else Rx i.2) (fun i => [J i.2]))
/-- AN ITERATOR's CONTRACT, from world W: whatever resource J its caller's rounds turn -/
def IterAt (P : Program) (f : Nat) (caps : List Value) {α : Type} (enc : α → List Value) (Pre All : List α → Prop) (W : World) {τ : Type} (J : τ → Ent) (s0 : τ) : Prop :=
  ∀ (l : Nat) (R Rx : List α → τ → Prop), R [] s0 →
    (∀ pre x s W', R pre s → Pre (pre ++ [x]) → St W (· ∈ (J s0).foot) [J s] W' → Hands P l (enc x) W' J s (R (pre ++ [x])) (Rx (pre ++ [x]))) →
    Calls P f (.func (.yield l) #[] #[] :: caps).toArray W (Gives W (· ∈ (J s0).foot) (fun _ => .tuple #[]) (fun s => (∃ xs, All xs ∧ R xs s) ∨ ∃ pre, Rx pre s) (fun s => [J s]))
theorem call_hands {P : Program} {l : Nat} {args : List Value} {w w0 : World} {M : Nat → Prop} {L L0 : List Ent} {τ : Type} {J : τ → Ent} {s : τ} {R Rx : τ → Prop} (hp : L.Perm (J s :: L0)) (h : Hands P l args w J s R Rx) (hw : St w0 M L w) :
    Yld P l args w (fun e w' => ∃ i : Bool × τ, (if i.1 = true then R i.2 else Rx i.2) ∧ e = .returned (.bool i.1) ∧ St w0 M (J i.2 :: L0) w') :=
  h.mono fun e w' ⟨i, hi, he, hs⟩ => ⟨i, hi, he, (hw.perm hp).turn hs⟩

section
variable {X : Cx} {ops : Array Oper} {S : World → Prop} {Q : Exit → Act → World → Prop} {rest : List (Oper × Bool)} {F : Frm} {L : List Ent}
variable {d : Nat} {g : Bool} {ty : TypeId} {pos : String} {af : Array Edge} {gd : Option (Nat × Bool)}
theorem run_yieldOp {P : Program} {a : Act} {o : Oper} {fo : Operand} {args : List Operand} {tys : Array TypeId} {l : Nat} {vs : List Value} {w : World} {r : Result Next} (ho : o.op = .call ⟨.value fo, args.toArray, tys⟩) (hf : a.eval fo = .func (.yield l) #[] #[]) (hv : args.map a.eval = vs)
    (he : (Instr.yield l vs.toArray).run P w = r) : (execOp a.eval o).run P w = r := by
  subst hv
  unfold execOp
  simp only [ho, resolve]
  simp [hf, Deferred.ofValue, invoke, he]
theorem r_yield {fo : Operand} {args : List Operand} {tys : Array TypeId} {l : Nat} {vs : List Value} {ι : Type} (v : ι → Value) (R : ι → Prop) (L' : ι → List Ent) (hg : Gd ops F gd true)
    (hf : Ev F fo true (.func (.yield l) #[] #[])) (hx : Evs F true args vs)
    (hc : ∀ w, St X.w0 X.M L w → Yld X.P l vs w (fun e w' => ∃ i, R i ∧ e = .returned (v i) ∧ St X.w0 X.M (L' i) w'))
    (hS : ∀ i w, R i → St X.w0 X.M (L' i) w → S w) (hn : Nat.blt d X.n = true) (hk : noKey d F = true) (k : ∀ i, R i → TL X ops S Q rest ((d, true, v i) :: F) (L' i)) :
    TL X ops S Q ((⟨some d, .call ⟨.value fo, args.toArray, tys⟩, ty, pos, af, gd⟩, true) :: rest) F L := by
  intro a w ha hw _
  simp only [wpLex]
  rw [if_pos (hg.wanted ha)]
  obtain ⟨fn, tmps, assign, body, hy, hr⟩ := hc w hw
  unfold exec
  rw [run_yieldOp rfl (hf.eval ha rfl) (hx.eval ha rfl) hy]
  refine hr.mono ?_
  rintro e w' ⟨i, hi, rfl, hw'⟩
  have hp := ha.put (g := true) (v := v i) hn hk
  exact ⟨v i, rfl, hS i _ hi hw', k i hi _ _ hp hw' (hS i _ hi hw')⟩
end

/-! ### 3. The loop -/
/-- the frame at a round's start: what the temporaries held at the statement; the parameters -/
def ends : List Nat → List Value → Frm → Frm
  | t :: ts, v :: vs, F => ends ts vs ((t, true, v) :: F)
  | _, _, F => F
theorem Holds.set {n : Nat} {ds : List Deferred} {tmps : Array Value} {F : Frm} (h : Holds n ds { tmps, defers := ds } F) {t : Nat} {v : Value} (hn : Nat.blt t n = true) (hk : noKey t F = true) : Holds n ds { tmps := tmps.setIfInBounds t v, defers := ds } ((t, true, v) :: F) :=
  h.put (d := t) (g := true) (v := v) hn hk
def okEnds (n : Nat) : List Nat → Frm → Bool
  | [], _ => true
  | t :: ts, F => Nat.blt t n && noKey t F && okEnds n ts ((t, true, undef) :: F)
theorem noKey_val {t t' : Nat} {v v' : Value} {F : Frm} : noKey t ((t', true, v) :: F) = noKey t ((t', true, v') :: F) := rfl
theorem okEnds_val {n : Nat} : ∀ {ts : List Nat} {F F' : Frm}, (∀ t, noKey t F = noKey t F') → okEnds n ts F = okEnds n ts F'
  | [], _, _, _ => rfl
  | t :: ts, F, F', h => by
    unfold okEnds
    rw [h t, okEnds_val (ts := ts) (F := (t, true, undef) :: F) (F' := (t, true, undef) :: F') (fun u => by simp only [noKey]; rw [h u])]
theorem Holds.sets {n : Nat} : ∀ {ps : List Nat} {vs : List Value} {tmps : Array Value} {F : Frm}, Holds n [] { tmps, defers := [] } F → okEnds n ps F = true →
    Holds n [] { tmps := (ps.zip vs).foldl (fun t (p, v) => t.setIfInBounds p v) tmps, defers := [] } (ends ps vs F)
  | [], vs, tmps, F, h, _ => by simpa [ends] using h
  | p :: ps, [], tmps, F, h, _ => by simpa [ends] using h
  | p :: ps, v :: vs, tmps, F, h, hk => by
    simp only [okEnds, Bool.and_eq_true] at hk
    have h1 := h.set (v := v) hk.1.1 hk.1.2
    have := Holds.sets (ps := ps) (vs := vs) h1 ((okEnds_val (ts := ps) (F := (p, true, v) :: F) (F' := (p, true, undef) :: F) (fun t => rfl)).trans hk.2)
    simpa [ends] using this

abbrev mark (D : Nat) : Deferred := { target := .collected D, args := #[] }
/-- a round's frame -/
abbrev Cx.round (X : Cx) (l : Nat) (W : World) (J : List Ent) : Cx := { P := X.P, n := X.n, w0 := W, M := (· ∈ (allE J).foot), ds := [], rd := some l }
/-- where the assignments are done -/
def BeginQ (X : Cx) (l : Nat) (body : Code) (Q : Exit → Act → World → Prop) : Exit → Act → World → Prop :=
  Exit.then (fun a₁ w₁ => ∃ w₂, (Instr.beginRound l).run X.P w₁ = .ok () w₂ ∧ body.wpIn (Fr X.rd) 0 X.P Q a₁ w₂) (fun _ _ _ => False)
/-- where a round ends -/
def RoundQ (X : Cx) (l : Nat) (rec : Loop) {σ : Type} (K : σ → List Ent) (Rn : σ → Prop) (Rx : Code → σ → Prop) : Exit → Act → World → Prop
  | .normal, _, w => ∃ s, Rn s ∧ St X.w0 X.M (loopE l { rec with state := .busy } :: K s) w
  | .ret, _, w => ∃ s, Rx .ret s ∧ St X.w0 X.M (loopE l { rec with state := .busy } :: K s) w
  | .exit id, _, w => ∃ s, Rx (.exit id) s ∧ St X.w0 X.M (loopE l { rec with state := .busy } :: K s) w
  | _, _, _ => False
section
variable {X : Cx} {ops : Array Oper} {S : World → Prop} {Q : Exit → Act → World → Prop} {F : Frm} {L : List Ent}
theorem qt_begin {l : Nat} {rec : Loop} {body : Code} {L0 : List Ent} (hr : rec.state = .ready) (hp : Take L (loopE l rec) L0) (k : Tr X Q body F (loopE l { rec with state := .busy } :: L0)) : QT X (BeginQ X l body Q) .normal F L := by
  intro a w ha hw
  have hw1 := hw.perm hp.perm
  exact ⟨_, run_beginRound (hw1.ok _ List.mem_cons_self) hr, k a _ ha (hw1.putLoop _)⟩
theorem qt_goes {l : Nat} {rec : Loop} {σ : Type} {K : σ → List Ent} {Rn : σ → Prop} {Rx : Code → σ → Prop} (s : σ) (h : Rn s) (hp : L.Perm (loopE l { rec with state := .busy } :: K s)) : QT X (RoundQ X l rec K Rn Rx) .normal F L :=
  fun a w ha hw => ⟨s, h, hw.perm hp⟩
theorem qt_leaves {l : Nat} {rec : Loop} {σ : Type} {K : σ → List Ent} {Rn : σ → Prop} {Rx : Code → σ → Prop} (s : σ) (h : Rx .ret s) (hp : L.Perm (loopE l { rec with state := .busy } :: K s)) : QT X (RoundQ X l rec K Rn Rx) .ret F L :=
  fun a w ha hw => ⟨s, h, hw.perm hp⟩
theorem qt_breaks {l id : Nat} {rec : Loop} {σ : Type} {K : σ → List Ent} {Rn : σ → Prop} {Rx : Code → σ → Prop} (s : σ) (h : Rx (.exit id) s) (hp : L.Perm (loopE l { rec with state := .busy } :: K s)) : QT X (RoundQ X l rec K Rn Rx) (.exit id) F L :=
  fun a w ha hw => ⟨s, h, hw.perm hp⟩

/-- what the rounds turn -/
abbrev Jof {σ : Type} (l : Nat) (K : σ → List Ent) (i : Loop × σ) : Ent := allE (loopE l i.1 :: K i.2)

theorem yield_round {X : Cx} {l : Nat} {rec : Loop} {σ : Type} {K : σ → List Ent} {Rn : σ → Prop} {Rx : Code → σ → Prop} {W : World} {s : σ} {tmps : Array Value} {assign body : Code} {fn : Nat} {F' : Frm}
    (hr : rec.state = .ready) (hpd : rec.pending = none) (hw : St W (· ∈ (Jof l K (rec, s)).foot) (loopE l rec :: K s) W) (ha : Holds X.n [] { tmps := tmps, defers := [] } F')
    (h : Tr (X.round l W (loopE l rec :: K s)) (BeginQ (X.round l W (loopE l rec :: K s)) l body (RoundQ (X.round l W (loopE l rec :: K s)) l rec K Rn Rx)) assign F' (loopE l rec :: K s)) :
    Rounds X.P l fn tmps assign body W (Gives W (· ∈ (Jof l K (rec, s)).foot) (fun i : Bool × (Loop × σ) => .bool i.1) (fun i => if i.1 = true then Rn i.2.2 ∧ i.2.1 = rec else ∃ c, Rx c i.2.2 ∧ i.2.1 = { rec with state := .done, pending := some c }) (fun i => [Jof l K i.2])) := by
  refine rounds_of (n := 0) (roundIn_of_wpIn trivial ?_)
  have h1 := h _ W ha hw
  refine wpIn_mono h1 fun e a' w' hq => ?_
  cases e with
  | normal =>
    obtain ⟨w2, hb, hbody⟩ := hq
    refine ⟨w2, hb, wpIn_mono hbody fun e2 a2 w3 hq2 => ?_⟩
    cases e2 with
    | normal =>
      obtain ⟨s', hs', hst⟩ := hq2
      have hl := hst.ok _ List.mem_cons_self
      refine ⟨_, _, run_endRound none hl, (true, rec, s'), ⟨hs', rfl⟩, rfl, ?_⟩
      have h3 := hst.putLoop { ({ rec with state := .busy } : Loop) with state := .ready, pending := none }
      have h4 : ({ ({ rec with state := .busy } : Loop) with state := .ready, pending := none } : Loop) = rec := by cases rec; simp_all
      rw [h4] at h3
      have h5 : St W (· ∈ (allE (loopE l rec :: K s)).foot) ((loopE l rec :: K s') ++ []) (w3.putObj l (.loop rec)) := by simpa using h3
      simpa [h4] using h5.allE
    | ret =>
      obtain ⟨s', hs', hst⟩ := hq2
      have hl := hst.ok _ List.mem_cons_self
      refine ⟨_, _, run_endRound (some .ret) hl, (false, { rec with state := .done, pending := some .ret }, s'), ⟨.ret, hs', rfl⟩, rfl, ?_⟩
      have h3 := hst.putLoop { ({ rec with state := .busy } : Loop) with state := .done, pending := some .ret }
      have h5 : St W (· ∈ (allE (loopE l rec :: K s)).foot) ((loopE l { rec with state := .done, pending := some .ret } :: K s') ++ []) (w3.putObj l (.loop { rec with state := .done, pending := some .ret })) := by simpa using h3
      simpa using h5.allE
    | exit id =>
      obtain ⟨s', hs', hst⟩ := hq2
      have hl := hst.ok _ List.mem_cons_self
      refine ⟨_, _, run_endRound (some (.exit id)) hl, (false, { rec with state := .done, pending := some (.exit id) }, s'), ⟨.exit id, hs', rfl⟩, rfl, ?_⟩
      have h3 := hst.putLoop { ({ rec with state := .busy } : Loop) with state := .done, pending := some (.exit id) }
      have h5 : St W (· ∈ (allE (loopE l rec :: K s)).foot) ((loopE l { rec with state := .done, pending := some (.exit id) } :: K s') ++ []) (w3.putObj l (.loop { rec with state := .done, pending := some (.exit id) })) := by simpa using h3
      simpa using h5.allE
    | goto t => exact (hq2 : False).elim
    | panic ch => exact (hq2 : False).elim
    | outgrown => exact (hq2 : False).elim
  | exit id => exact (hq : False).elim
  | goto t => exact (hq : False).elim
  | ret => exact (hq : False).elim
  | panic ch => exact (hq : False).elim
  | outgrown => exact (hq : False).elim

theorem rangeFunc_core {ps : List Nat} {assign body : Code} {f : Nat} {caps : List Value} {ds' : List Deferred} {Z : Ent} {rc : Loop} {l : Nat} {W1 : World} {a : Act}
    {α : Type} (enc : α → List Value) (hps : ∀ x, (enc x).length = ps.length) {σ : Type} (K : σ → List Ent) (R : List α → σ → Prop) (Rx : Code → List α → σ → Prop) (Pre All : List α → Prop) (s0 : σ) (h0 : R [] s0) (hok : okEnds X.n ps F = true)
    (hst0 : rc.state = .ready) (hpd0 : rc.pending = none) (hr1 : rc.tmps = a.tmps) (hr2 : rc.params = ps.toArray) (hr3 : rc.assign = assign) (hr4 : rc.body = body) (ha : Holds X.n ds' a F)
    (hit : ∀ l rec W, St X.w0 X.M (loopE l rec :: K s0) W → IterAt X.P f caps enc Pre All W (Jof l K) (rec, s0))
    (hbody : ∀ l rec pre x s W, rec.state = .ready → R pre s → Pre (pre ++ [x]) → St X.w0 X.M (loopE l rec :: K s) W →
      Tr (X.round l W (loopE l rec :: K s)) (BeginQ (X.round l W (loopE l rec :: K s)) l body (RoundQ (X.round l W (loopE l rec :: K s)) l rec K (R (pre ++ [x])) (fun c => Rx c (pre ++ [x])))) assign (ends ps (enc x) F) (loopE l rec :: K s))
    (hdone : ∀ xs s, All xs → R xs s → QT { X with ds := ds' } Q .normal F (Z :: K s))
    (hstop : ∀ c pre s, Rx c pre s → Tr { X with ds := ds' } Q c F (Z :: K s)) (hE : St X.w0 X.M (loopE l rc :: Z :: K s0) W1) :
    CallsIn (Fr X.rd) (0 - 1) X.P f (#[.func (.yield l) #[] #[]] ++ caps.toArray) W1 (rangePost (Fr X.rd) 0 X.P l Q a) := by
  have hE1 : St X.w0 X.M (loopE l rc :: K s0) W1 := (hE.perm (List.Perm.swap _ _ _)).sub (List.sublist_cons_self _ _)
  have hJ0 : St X.w0 X.M (Z :: (loopE l rc :: K s0)) W1 := hE.perm (List.Perm.swap _ _ _)
  have hJ : St X.w0 X.M (Jof l K (rc, s0) :: [Z]) W1 := by
    have : St X.w0 X.M ((loopE l rc :: K s0) ++ [Z]) W1 := hJ0.perm (by simpa using (List.perm_append_comm (l₁ := [Z]) (l₂ := loopE l rc :: K s0)))
    exact this.allE
  have hcall := hit l rc W1 hE1 l (fun pre i => R pre i.2 ∧ i.1 = rc) (fun pre i => ∃ c, Rx c pre i.2 ∧ i.1 = { rc with state := .done, pending := some c }) ⟨h0, rfl⟩ (by
    rintro pre x ⟨r, s⟩ W' ⟨hR, hir⟩ hpre hW'
    replace hir : r = rc := hir
    subst r
    replace hR : R pre s := hR
    have hst : St X.w0 X.M (Jof l K (rc, s) :: [Z]) W' := hJ.turn hW'
    have hst1 : St X.w0 X.M (loopE l rc :: K s) W' := by
      have := hst.sub (L' := [Jof l K (rc, s)]) (by simp)
      have := this.ofAll
      simpa using this
    have hlr := hst1.ok _ List.mem_cons_self
    refine ⟨rc.fn, (ps.zip (enc x)).foldl (fun t (p, v) => t.setIfInBounds p v) a.tmps, assign, body, ?_, yield_round (X := X) (Rn := R (pre ++ [x])) (Rx := fun c => Rx c (pre ++ [x])) hst0 hpd0 hst1.own ?_ (hbody l rc pre x s W' hst0 hR hpre hst1)⟩
    · have := run_yield (P := X.P) (args := (enc x).toArray) hlr (by rw [hr2]; simp [hps])
      rw [this, hr1, hr2, hr3, hr4]
      simp
    · have h1 : Holds X.n [] { tmps := a.tmps, defers := [] } F := ⟨rfl, ha.size, ha.all⟩
      have h2 := h1.sets (ps := ps) (vs := enc x) hok
      exact h2)
  have hargs : #[Value.func (.yield l) #[] #[]] ++ caps.toArray = (Value.func (.yield l) #[] #[] :: caps).toArray := by simp
  rw [hargs]
  refine fr_calls (hcall.mono ?_)
  rintro e w' ⟨⟨r, s⟩, hi, rfl, hs⟩
  have h1 : St X.w0 X.M (Jof l K (r, s) :: [Z]) w' := hJ.turn hs
  have h2 : St X.w0 X.M (loopE l r :: (K s ++ [Z])) w' := by simpa using h1.ofAll
  have hlr := h2.ok _ List.mem_cons_self
  have h3 : ∀ r', St X.w0 X.M (Z :: K s) (w'.putObj l (.loop r')) := fun r' => ((h2.putLoop r').sub (List.sublist_cons_self _ _)).perm (by simp)
  rcases hi with ⟨xs, hall, hR, hr⟩ | ⟨pre, c, hRx, hr⟩
  · replace hr : r = rc := hr
    subst hr
    refine ⟨none, _, ?_, hdone xs s hall hR _ _ ha (h3 { r with state := .exhausted })⟩
    rw [run_endLoop hlr (by rw [hst0]; simp), hpd0]
  · simp only at hr
    subst hr
    refine ⟨some c, _, ?_, hstop c pre s hRx _ _ ha (h3 { ({ rc with state := .done, pending := some c } : Loop) with state := .exhausted })⟩
    rw [run_endLoop hlr (by simp)]

/-- **A RANGE OVER A FUNCTION**, in no round. -/
theorem tr_rangeFunc {gx : Operand} {ps : List Nat} {assign body : Code} {f : Nat} {caps : List Value} (hrd : X.rd = none) (he : EntersF X.P f) (hg : Ev F gx true (.func (.func f) #[] caps.toArray))
    {α : Type} (enc : α → List Value) (hps : ∀ x, (enc x).length = ps.length) {σ : Type} (K : σ → List Ent) (R : List α → σ → Prop) (Rx : Code → List α → σ → Prop) (Pre All : List α → Prop) (s0 : σ) (hL : L.Perm (K s0)) (h0 : R [] s0) (hok : okEnds X.n ps F = true)
    (hit : ∀ l rec W, St X.w0 X.M (loopE l rec :: K s0) W → IterAt X.P f caps enc Pre All W (Jof l K) (rec, s0))
    (hbody : ∀ l rec pre x s W, rec.state = .ready → R pre s → Pre (pre ++ [x]) → St X.w0 X.M (loopE l rec :: K s) W →
      Tr (X.round l W (loopE l rec :: K s)) (BeginQ (X.round l W (loopE l rec :: K s)) l body (RoundQ (X.round l W (loopE l rec :: K s)) l rec K (R (pre ++ [x])) (fun c => Rx c (pre ++ [x])))) assign (ends ps (enc x) F) (loopE l rec :: K s))
    (hdone : ∀ D xs s, All xs → R xs s → QT { X with ds := mark D :: X.ds } Q .normal F (dfE D :: K s))
    (hstop : ∀ D c pre s, Rx c pre s → Tr { X with ds := mark D :: X.ds } Q c F (dfE D :: K s)) : Tr X Q (.rangeFunc gx ps.toArray assign body) F L := by
  intro a w ha hw
  have hw0 := hw.perm hL
  refine wpIn_rangeFunc fun fn _ => ?_
  obtain ⟨rc, hrc⟩ : ∃ rc : Loop, { state := .ready, pending := none, fn := fn, tmps := a.tmps, params := ps.toArray, assign := assign, body := body, defers := w.heap.size } = rc := ⟨_, rfl⟩
  obtain ⟨W1, hW1⟩ : ∃ W1, (w.alloc (.deferred (some []))).alloc (.loop rc) = W1 := ⟨_, rfl⟩
  have hD : St X.w0 X.M (dfE w.heap.size :: K s0) (w.alloc (.deferred (some []))) := hw0.grow (st_of_newObj w _ (dfE w.heap.size) rfl fun w' h => h)
  have hsz : (w.alloc (.deferred (some []))).heap.size = w.heap.size + 1 := by simp
  have hE : St X.w0 X.M (loopE (w.heap.size + 1) rc :: dfE w.heap.size :: K s0) W1 := by
    rw [← hW1, ← hsz]
    exact hD.grow (st_of_newObj _ _ (loopE _ rc) rfl fun w' h => h)
  refine ⟨w.heap.size + 1, [mark w.heap.size], W1, { target := .fn (.func f) caps.toArray, args := #[.func (.yield (w.heap.size + 1)) #[] #[]] }, W1, f,
    #[.func (.yield (w.heap.size + 1)) #[] #[]] ++ caps.toArray, W1, ?_, ?_, fun _ _ => trivial, ?_, fun h => (by cases h), ?_⟩
  · show (Instr.enterLoop fn a.tmps ps.toArray assign body X.rd).run X.P w = _
    rw [hrd, ← hW1, ← hrc]; exact run_enterLoop_outer _ _ _ _ _
  · simp only [resolve, hg.eval ha rfl]
    simp [go_sem, Deferred.ofValue]
  · simp [invoke, he]
  exact rangeFunc_core enc hps K R Rx Pre All s0 h0 hok (by rw [← hrc]) (by rw [← hrc]) (by rw [← hrc]) (by rw [← hrc]) (by rw [← hrc]) (by rw [← hrc])
    (⟨by simp [ha.defers], ha.size, ha.all⟩ : Holds X.n (mark w.heap.size :: X.ds) { a with defers := [mark w.heap.size] ++ a.defers } F) hit hbody (hdone _) (hstop _) hE
/-- .. in a round: its record lies there -/
theorem tr_rangeFuncN {gx : Operand} {ps : List Nat} {assign body : Code} {f l0 : Nat} {r0 : Loop} {caps : List Value} (hrd : X.rd = some l0) (he : EntersF X.P f) (hg : Ev F gx true (.func (.func f) #[] caps.toArray))
    {α : Type} (enc : α → List Value) (hps : ∀ x, (enc x).length = ps.length) {σ : Type} (K : σ → List Ent) (R : List α → σ → Prop) (Rx : Code → List α → σ → Prop) (Pre All : List α → Prop) (s0 : σ) (hL : L.Perm (loopE l0 r0 :: K s0)) (h0 : R [] s0) (hok : okEnds X.n ps F = true)
    (hit : ∀ l rec W, St X.w0 X.M (loopE l rec :: K s0) W → IterAt X.P f caps enc Pre All W (Jof l K) (rec, s0))
    (hbody : ∀ l rec pre x s W, rec.state = .ready → R pre s → Pre (pre ++ [x]) → St X.w0 X.M (loopE l rec :: K s) W →
      Tr (X.round l W (loopE l rec :: K s)) (BeginQ (X.round l W (loopE l rec :: K s)) l body (RoundQ (X.round l W (loopE l rec :: K s)) l rec K (R (pre ++ [x])) (fun c => Rx c (pre ++ [x])))) assign (ends ps (enc x) F) (loopE l rec :: K s))
    (hdone : ∀ xs s, All xs → R xs s → QT X Q .normal F (loopE l0 r0 :: K s))
    (hstop : ∀ c pre s, Rx c pre s → Tr X Q c F (loopE l0 r0 :: K s)) : Tr X Q (.rangeFunc gx ps.toArray assign body) F L := by
  intro a w ha hw
  have hw0 := hw.perm hL
  refine wpIn_rangeFunc fun fn _ => ?_
  have hl0 : w.heap[l0]? = some (.loop r0) := hw0.ok _ List.mem_cons_self
  obtain ⟨rc, hrc⟩ : ∃ rc : Loop, { state := .ready, pending := none, fn := fn, tmps := a.tmps, params := ps.toArray, assign := assign, body := body, defers := r0.defers } = rc := ⟨_, rfl⟩
  obtain ⟨W1, hW1⟩ : ∃ W1, w.alloc (.loop rc) = W1 := ⟨_, rfl⟩
  have hE : St X.w0 X.M (loopE w.heap.size rc :: loopE l0 r0 :: K s0) W1 := by
    rw [← hW1]
    exact hw0.grow (st_of_newObj _ _ (loopE _ rc) rfl fun w' h => h)
  refine ⟨w.heap.size, [], W1, { target := .fn (.func f) caps.toArray, args := #[.func (.yield w.heap.size) #[] #[]] }, W1, f,
    #[.func (.yield w.heap.size) #[] #[]] ++ caps.toArray, W1, ?_, ?_, fun _ _ => trivial, ?_, fun h => (by cases h), ?_⟩
  · show (Instr.enterLoop fn a.tmps ps.toArray assign body X.rd).run X.P w = _
    rw [hrd, ← hW1, ← hrc]
    unfold Instr.enterLoop
    simp only [Sem.run_bind, run_getLoop hl0, run_newObj_alloc, Result.andThen, Sem.run_pure]
  · simp only [resolve, hg.eval ha rfl]
    simp [go_sem, Deferred.ofValue]
  · simp [invoke, he]
  have hx : ({ X with ds := X.ds } : Cx) = X := rfl
  exact rangeFunc_core (ds' := X.ds) enc hps K R Rx Pre All s0 h0 hok (by rw [← hrc]) (by rw [← hrc]) (by rw [← hrc]) (by rw [← hrc]) (by rw [← hrc]) (by rw [← hrc])
    (⟨by simp [ha.defers], ha.size, ha.all⟩ : Holds X.n X.ds { a with defers := [] ++ a.defers } F) hit hbody hdone hstop hE

/-! ### 4. A function that leaves with marks -/
def marks (Ds : List Nat) : List Deferred := Ds.map mark
theorem leavesM {P : Program} {fn : Func} {R : Post} {w0 : World} {M : Nat → Prop} {L' : List Ent} {tmps : Array Value} {v : Value} (hv : ∀ w, St w0 M L' w → (results fn tmps).run P w = .ok v w) (k : ∀ w, St w0 M L' w → R (.returned v) w) : ∀ (Ds : List Nat) (w : World), St w0 M (Ds.map dfE ++ L') w →
    LeavesInM (Fr none) 0 P fn tmps R (marks Ds) .returning w
  | [], w, hw => ⟨v, hv w hw, k w hw⟩
  | D :: Ds, w, hw => ⟨by simp, .inl ⟨D, _, rfl, run_takeDeferred (hw.ok (dfE D) (by simp)), leavesM hv k Ds _ (St.takeDf hw)⟩⟩
theorem leaves_fin {fn : Func} {R : Post} {rs : List ResultVar} {vs : List Value} {Ds : List Nat} {L' : List Ent} (hd : X.ds = marks Ds) (hp : L.Perm (Ds.map dfE ++ L')) (hr : fn.results = rs.toArray) (hv : Rw X.P F L' rs vs) (k : ∀ w, St X.w0 X.M L' w → R (.returned (one vs)) w)
    {a : Act} {w : World} (ha : Holds X.n X.ds a F) (hw : St X.w0 X.M L w) : LeavesInM (Fr none) 0 X.P fn a.tmps R a.defers .returning w := by
  rw [ha.defers, hd]
  refine leavesM (v := one vs) (fun w hw => ?_) k Ds w (hw.perm hp)
  obtain ⟨_, v, h1, h2⟩ := post_retW (P := X.P) (R := fun e _ => e = .returned (one vs)) hr ha hw hv rfl
  cases h2
  exact h1
theorem qt_finM {fn : Func} {R : Post} {rs : List ResultVar} {vs : List Value} {Ds : List Nat} {L' : List Ent} (hd : X.ds = marks Ds) (hp : L.Perm (Ds.map dfE ++ L')) (hr : fn.results = rs.toArray) (hv : Rw X.P F L' rs vs) (k : ∀ w, St X.w0 X.M L' w → R (.returned (one vs)) w) :
    QT X (bodyPostM (Fr none) 0 X.P fn R) .normal F L := fun a w ha hw => leaves_fin hd hp hr hv k ha hw
theorem qt_finM_ret {fn : Func} {R : Post} {rs : List ResultVar} {vs : List Value} {Ds : List Nat} {L' : List Ent} (hd : X.ds = marks Ds) (hp : L.Perm (Ds.map dfE ++ L')) (hr : fn.results = rs.toArray) (hv : Rw X.P F L' rs vs) (k : ∀ w, St X.w0 X.M L' w → R (.returned (one vs)) w) :
    QT X (bodyPostM (Fr none) 0 X.P fn R) .ret F L := fun a w ha hw => leaves_fin hd hp hr hv k ha hw
theorem calls_argsM {P : Program} {f : FuncId} {fn : Func} {c : Code} {args : List Value} {w : World} {M : Nat → Prop} {L : List Ent} {R : Post} (hf : P.funcs[f]? = some fn) (hb : fn.body = some c)
    (n : Nat) (hn : fn.ntmps = n) (hlen : Nat.ble args.length n = true) (hL : St w M L w) (h : Tr { P := P, n := n, w0 := w, M := M } (bodyPostM (Fr none) 0 P fn R) c (argF 0 args) L) : Calls P f args.toArray w R := by
  refine (callsIn_wide (n := 0)).1 (callsIn_of_wp_marks (F := Fence.wide) hf hb trivial ?_ rfl)
  refine h _ w (argF_holds 0 args rfl ?_ fun j v hv => ?_) hL
  · have := Nat.le_of_ble_eq_true hlen
    subst hn
    simp; omega
  · have hj := (List.getElem?_eq_some_iff.1 hv).1
    show (args.toArray ++ _)[0 + j]? = some v
    rw [Nat.zero_add, Array.getElem?_append_left (by simpa using hj)]
    simpa using hv
end
end Go.Sep
