/- Triples over the calculus of part A: one rule per operation that only computes, and the rules of code. No program is named here. -/
import Derived.Test.YtpmnbenmjkeacaaSepA
import Derived.IntWalk
import Derived.WalkLawsBesides
import Derived.Deep.LoopGhost
set_option linter.unusedVariables false
set_option linter.unusedSectionVars false
namespace Go.Sep
open Go

theorem wpIn_loop_ghost {F : Fence} {n : Nat} {P : Program} {Q : Exit → Act → World → Prop} {a : Act} {w : World} {c : Code} (I : Nat → Act → World → Prop) (n₀ : Nat) (h₀ : I n₀ a w)
    (round : ∀ k a w, I k a w → c.wpIn F n P (Exit.then (fun a' w' => ∃ n', n' < k ∧ I n' a' w') Q) a w) : (Code.loop c).wpIn F n P Q a w := by
  refine wpIn_loop (fun a w => ∃ n, I n a w) (fun a w => leastOf (fun n => I n a w)) ⟨n₀, h₀⟩ ?_
  intro a w hI
  refine wpIn_mono (round _ a w (leastOf_spec hI).1) ?_
  intro e a' w' hq
  cases e with
  | normal =>
    obtain ⟨n', hlt, hI'⟩ := hq
    exact show (∃ n, I n a' w') ∧ leastOf (fun n => I n a' w') < leastOf (fun n => I n a w) from ⟨⟨n', hI'⟩, Nat.lt_of_le_of_lt ((leastOf_spec ⟨n', hI'⟩).2 n' hI') hlt⟩
  | exit id => exact hq
  | goto l => exact hq
  | ret => exact hq
  | panic ch => exact hq
  | outgrown => exact hq

/-- what stays through one call: the program, the number of temporaries, the world at the beginning, what may be written -/
structure Cx where
  P : Program
  n : Nat
  w0 : World
  M : Nat → Prop
  ds : List Deferred := []
  rd : Option Nat := none

def Tr (X : Cx) (Q : Exit → Act → World → Prop) (c : Code) (F : Frm) (L : List Ent) : Prop := ∀ a w, Holds X.n X.ds a F → St X.w0 X.M L w → c.wpIn (Fr X.rd) 0 X.P Q a w
def QT (X : Cx) (Q : Exit → Act → World → Prop) (e : Exit) (F : Frm) (L : List Ent) : Prop := ∀ a w, Holds X.n X.ds a F → St X.w0 X.M L w → Q e a w
def TL (X : Cx) (ops : Array Oper) (S : World → Prop) (Q : Exit → Act → World → Prop) (rest : List (Oper × Bool)) (F : Frm) (L : List Ent) : Prop :=
  ∀ a w, Holds X.n X.ds a F → St X.w0 X.M L w → S w → wpLex X.P ops S (Q .normal) rest a w

/-- a guard's truth -/
inductive Gd (ops : Array Oper) (F : Frm) : Option (Nat × Bool) → Bool → Prop
  | none : Gd ops F none true
  | pos {j t : Nat} {b : Bool} (hj : (ops[j]?).bind (·.dst) = some t) (h : (t, true, .bool b) ∈ F) : Gd ops F (some (j, true)) b
  | neg {j t : Nat} {b : Bool} (hj : (ops[j]?).bind (·.dst) = some t) (h : (t, true, .bool b) ∈ F) : Gd ops F (some (j, false)) (!b)
  | pos2 {j t : Nat} {g b : Bool} (hj : (ops[j]?).bind (·.dst) = some t) (h : (t, g, .bool b) ∈ F) : Gd ops F (some (j, true)) (g && b)
  | neg2 {j t : Nat} {g b : Bool} (hj : (ops[j]?).bind (·.dst) = some t) (h : (t, g, .bool b) ∈ F) : Gd ops F (some (j, false)) (g && !b)
theorem Gd.wanted {n : Nat} {ds : List Deferred} {a : Act} {ops : Array Oper} {F : Frm} {o : Oper} {g : Bool} (h : Gd ops F o.guard g) (ha : Holds n ds a F) : Region.wanted o (yielded ops a.tmps) = g := by
  unfold Region.wanted
  cases hg : o.guard with
  | none => rw [hg] at h; cases h; rfl
  | some p =>
    rw [hg] at h
    cases h with
    | pos hj h => have := ha.all _ _ _ h; simp [yielded, hj, this]
    | neg hj h => have := ha.all _ _ _ h; simp [yielded, hj, this]
    | pos2 hj h => have := ha.all _ _ _ h; rename_i j t g b; cases g <;> cases b <;> simp_all [yielded, undef]
    | neg2 hj h => have := ha.all _ _ _ h; rename_i j t g b; cases g <;> cases b <;> simp_all [yielded, undef]

section
variable {X : Cx} {ops : Array Oper} {S : World → Prop} {Q : Exit → Act → World → Prop} {rest : List (Oper × Bool)} {F : Frm} {L : List Ent}

/-! ### 1. The frame of a walk -/
theorem tl_nil (h : QT X Q .normal F L) : TL X ops S Q [] F L := fun a w ha hw _ => h a w ha hw
theorem tr_plain {id : Nat} {l : List Oper} (h : TL X l.toArray (fun _ => True) Q (plain l) F L) : Tr X Q (.region id l.toArray false) F L :=
  fun a w ha hw => wp_region_plain (h a w ha hw trivial)
/-- on to the operations that come late -/
def LateQ (X : Cx) (ops : Array Oper) (S : World → Prop) (Q : Exit → Act → World → Prop) (rest : List (Oper × Bool)) : Exit → Act → World → Prop
  | .normal, a, w => wpLex X.P ops S (Q .normal) rest a w
  | _, _, _ => False
theorem tr_ord {id : Nat} {l : List Oper} (π1 π2 : List (Nat × Bool)) (C1 C2 : List Ent) (hC : C2.Sublist L) (hC1 : C1.Sublist C2) (hm : X.P.follows .mixedOrders = true)
    (hs : (Region.noSelect l.toArray && noDefer l.toArray && lateOK l.toArray π1 π2 && (decide (π1.length + π2.length ≤ l.toArray.size) && ordOK .any l.toArray (π1 ++ π2) (Array.replicate l.toArray.size false))) = true)
    (h : TL X l.toArray (St X.w0 X.M C2) (LateQ X l.toArray (St X.w0 X.M C1) Q (pickOps l.toArray π2)) (pickOps l.toArray π1) F L) : Tr X Q (.region id l.toArray true) F L :=
  fun a w ha hw => wp_region_ord π1 π2 hm hs (fun w h => h.sub hC1) (hw.draw.sub hC) (h a _ ha hw.draw (hw.draw.sub hC))
theorem qt_late {C1 : List Ent} (hC : C1.Sublist L) (h : TL X ops (St X.w0 X.M C1) Q rest F L) : QT X (LateQ X ops (St X.w0 X.M C1) Q rest) .normal F L := fun a w ha hw => h a w ha hw (hw.sub hC)
theorem tr_seq {x y : Code} (h : Tr X (Exit.then (y.wpIn (Fr X.rd) 0 X.P Q) Q) x F L) : Tr X Q (.seq x y) F L := fun a w ha hw => wpIn_seq (h a w ha hw)
theorem tr_skip (h : QT X Q .normal F L) : Tr X Q .skip F L := fun a w ha hw => wpIn_skip (h a w ha hw)
theorem tr_ret (h : QT X Q .ret F L) : Tr X Q .ret F L := fun a w ha hw => wpIn_ret (h a w ha hw)
theorem tr_exit {id : Nat} (h : QT X Q (.exit id) F L) : Tr X Q (.exit id) F L := fun a w ha hw => wpIn_exit (h a w ha hw)
theorem tr_block {id : Nat} {c : Code} (h : Tr X (Exit.inBlock id Q) c F L) : Tr X Q (.block id c) F L := fun a w ha hw => wpIn_block (h a w ha hw)
theorem tr_cond {c : Operand} {x y : Code} {b : Bool} (hc : Ev F c true (.bool b)) (ht : b = true → Tr X Q x F L) (hf : b = false → Tr X Q y F L) : Tr X Q (.cond c x y) F L :=
  fun a w ha hw => wpIn_cond_split (hc.eval ha rfl) (fun h => ht h a w ha hw) (fun h => hf h a w ha hw)
theorem tr_weak {c : Code} {F' : Frm} {L' : List Ent} (h : Tr X Q c F' L') (hF : ∀ x ∈ F', x ∈ F) (hL : L'.Sublist L) : Tr X Q c F L := fun a w ha hw => h a w (ha.sub hF) (hw.sub hL)
theorem tr_drop {c : Code} {F' : Frm} (h : Tr X Q c F' L) (hF : ∀ x ∈ F', x ∈ F) : Tr X Q c F L := fun a w ha hw => h a w (ha.sub hF) hw
theorem tr_perm {c : Code} {L' : List Ent} (h : Tr X Q c F L') (hL : L.Perm L') : Tr X Q c F L := fun a w ha hw => h a w ha (hw.perm hL)
theorem qt_weak {e : Exit} {F' : Frm} {L' : List Ent} (h : QT X Q e F' L') (hF : ∀ x ∈ F', x ∈ F) (hL : L'.Sublist L) : QT X Q e F L := fun a w ha hw => h a w (ha.sub hF) (hw.sub hL)
/-- on: what stands behind -/
theorem qt_then {y : Code} (h : Tr X Q y F L) : QT X (Exit.then (y.wpIn (Fr X.rd) 0 X.P Q) Q) .normal F L := fun a w ha hw => h a w ha hw
theorem qt_then_exit {K : Act → World → Prop} {id : Nat} (h : QT X Q (.exit id) F L) : QT X (Exit.then K Q) (.exit id) F L := fun a w ha hw => h a w ha hw
theorem qt_then_ret {K : Act → World → Prop} (h : QT X Q .ret F L) : QT X (Exit.then K Q) .ret F L := fun a w ha hw => h a w ha hw
theorem qt_block {id : Nat} (h : QT X Q .normal F L) : QT X (Exit.inBlock id Q) .normal F L := fun a w ha hw => h a w ha hw
theorem qt_block_hit {id : Nat} (h : QT X Q .normal F L) : QT X (Exit.inBlock id Q) (.exit id) F L := fun a w ha hw => by
  show (if id = id then _ else _)
  rw [if_pos rfl]
  exact h a w ha hw
theorem qt_block_miss {id id' : Nat} (hne : Nat.beq id' id = false) (h : QT X Q (.exit id') F L) : QT X (Exit.inBlock id Q) (.exit id') F L := fun a w ha hw => by
  show (if id' = id then _ else _)
  rw [if_neg (by intro e; subst e; simp [Nat.beq_refl] at hne)]
  exact h a w ha hw
theorem qt_block_ret {id : Nat} (h : QT X Q .ret F L) : QT X (Exit.inBlock id Q) .ret F L := fun a w ha hw => h a w ha hw

/-- A loop: at its head, for some i: the temporaries F i, the resources L i, the fact I i; each round lowers μ. -/
def LoopQ (X : Cx) (Q : Exit → Act → World → Prop) {ι : Type} (Fi : ι → Frm) (Li : ι → List Ent) (I : ι → Prop) (μ : ι → Nat) (m : Nat) : Exit → Act → World → Prop :=
  Exit.then (fun a w => ∃ i, I i ∧ μ i < m ∧ Holds X.n X.ds a (Fi i) ∧ St X.w0 X.M (Li i) w) Q
theorem tr_loop {c : Code} {ι : Type} (Fi : ι → Frm) (Li : ι → List Ent) (I : ι → Prop) (μ : ι → Nat) (i : ι) (hI : I i) (hF : ∀ x ∈ Fi i, x ∈ F) (hL : L.Perm (Li i))
    (h : ∀ i, I i → Tr X (LoopQ X Q Fi Li I μ (μ i)) c (Fi i) (Li i)) : Tr X Q (.loop c) F L := by
  intro a w ha hw
  refine wpIn_loop_ghost (fun m a w => ∃ i, I i ∧ μ i = m ∧ Holds X.n X.ds a (Fi i) ∧ St X.w0 X.M (Li i) w) (μ i) ⟨i, hI, rfl, ha.sub hF, hw.perm hL⟩ ?_
  rintro m a w ⟨i, hI, rfl, ha, hw⟩
  refine wpIn_mono (h i hI a w ha hw) fun e a' w' hq => ?_
  cases e with
  | normal => obtain ⟨j, h1, h2, h3, h4⟩ := hq; exact ⟨μ j, h2, j, h1, rfl, h3, h4⟩
  | exit id => exact hq
  | goto l => exact hq
  | ret => exact hq
  | panic ch => exact hq
  | outgrown => exact hq
/-- the round is over -/
theorem qt_round {ι : Type} {Fi : ι → Frm} {Li : ι → List Ent} {I : ι → Prop} {μ : ι → Nat} {m : Nat} (i : ι) (hI : I i) (hm : μ i < m) (hF : ∀ x ∈ Fi i, x ∈ F) (hL : L.Perm (Li i)) : QT X (LoopQ X Q Fi Li I μ m) .normal F L :=
  fun a w ha hw => ⟨i, hI, hm, ha.sub hF, hw.perm hL⟩
theorem qt_loop_exit {ι : Type} {Fi : ι → Frm} {Li : ι → List Ent} {I : ι → Prop} {μ : ι → Nat} {m id : Nat} (h : QT X Q (.exit id) F L) : QT X (LoopQ X Q Fi Li I μ m) (.exit id) F L := fun a w ha hw => h a w ha hw
theorem qt_loop_ret {ι : Type} {Fi : ι → Frm} {Li : ι → List Ent} {I : ι → Prop} {μ : ι → Nat} {m : Nat} (h : QT X Q .ret F L) : QT X (LoopQ X Q Fi Li I μ m) .ret F L := fun a w ha hw => h a w ha hw
/-- Where ways meet: behind c, for some i: F i, L i, I i. -/
def CutQ (X : Cx) (Q : Exit → Act → World → Prop) {ι : Type} (Fi : ι → Frm) (Li : ι → List Ent) (I : ι → Prop) : Exit → Act → World → Prop :=
  Exit.then (fun a w => ∃ i, I i ∧ Holds X.n X.ds a (Fi i) ∧ St X.w0 X.M (Li i) w) Q
theorem tr_cut {c y : Code} {ι : Type} (Fi : ι → Frm) (Li : ι → List Ent) (I : ι → Prop) (h : Tr X (CutQ X Q Fi Li I) c F L) (k : ∀ i, I i → Tr X Q y (Fi i) (Li i)) : Tr X Q (.seq c y) F L := by
  intro a w ha hw
  refine wpIn_seq (wpIn_mono (h a w ha hw) fun e a' w' hq => ?_)
  cases e with
  | normal => obtain ⟨i, h1, h2, h3⟩ := hq; exact k i h1 a' w' h2 h3
  | exit id => exact hq
  | goto l => exact hq
  | ret => exact hq
  | panic ch => exact hq
  | outgrown => exact hq
theorem qt_cut {ι : Type} {Fi : ι → Frm} {Li : ι → List Ent} {I : ι → Prop} (i : ι) (hI : I i) (hF : ∀ x ∈ Fi i, x ∈ F) (hL : L.Perm (Li i)) : QT X (CutQ X Q Fi Li I) .normal F L :=
  fun a w ha hw => ⟨i, hI, ha.sub hF, hw.perm hL⟩
theorem qt_cut_exit {ι : Type} {Fi : ι → Frm} {Li : ι → List Ent} {I : ι → Prop} {id : Nat} (h : QT X Q (.exit id) F L) : QT X (CutQ X Q Fi Li I) (.exit id) F L := fun a w ha hw => h a w ha hw
theorem qt_cut_ret {ι : Type} {Fi : ι → Frm} {Li : ι → List Ent} {I : ι → Prop} (h : QT X Q .ret F L) : QT X (CutQ X Q Fi Li I) .ret F L := fun a w ha hw => h a w ha hw

/-! ### 2. The function: its beginning, its end -/
/-- a contract's post -/
abbrev Post := Ending → World → Prop
theorem calls_tr {P : Program} {f : FuncId} {fn : Func} {c : Code} {args : List Value} {w : World} {M : Nat → Prop} {L : List Ent} {R : Post} (hf : P.funcs[f]? = some fn) (hb : fn.body = some c)
    (n : Nat) (hn : fn.ntmps = n) (F : Frm) (hF : ∀ a : Act, a.defers = [] → a.tmps = (args ++ List.replicate (n - args.length) undef).toArray → Holds n [] a F)
    (hL : St w M L w) (h : Tr { P := P, n := n, w0 := w, M := M } (bodyPost P fn R) c F L) : Calls P f args.toArray w R := by
  refine calls_of_wp hf hb (wpIn_wide (n := 0).1 ?_)
  refine h _ w (hF _ rfl ?_) hL
  subst hn
  simp
/-- the arguments' frame -/
def argF : Nat → List Value → Frm
  | _, [] => []
  | k, v :: vs => (k, true, v) :: argF (k + 1) vs
theorem argF_holds {n : Nat} {a : Act} : ∀ (k : Nat) (vs : List Value), a.defers = [] → a.tmps.size = n → (∀ j v, vs[j]? = some v → a.tmps[k + j]? = some v) → Holds n [] a (argF k vs)
  | _, [], hd, hs, _ => Holds.nil hd hs
  | k, v :: vs, hd, hs, h => (argF_holds (k + 1) vs hd hs fun j u hu => by have := h (j + 1) u (by simpa using hu); rw [show k + 1 + j = k + (j + 1) from by omega]; exact this).cons (by simpa using h 0 v rfl)
theorem calls_args {P : Program} {f : FuncId} {fn : Func} {c : Code} {args : List Value} {w : World} {M : Nat → Prop} {L : List Ent} {R : Post} (hf : P.funcs[f]? = some fn) (hb : fn.body = some c)
    (n : Nat) (hn : fn.ntmps = n) (hlen : Nat.ble args.length n = true) (hL : St w M L w) (h : Tr { P := P, n := n, w0 := w, M := M } (bodyPost P fn R) c (argF 0 args) L) : Calls P f args.toArray w R :=
  calls_tr hf hb n hn _ (fun a hd ht => argF_holds 0 args hd (by rw [ht]; have := Nat.le_of_ble_eq_true hlen; simp; omega) fun j v hv => by
    rw [ht, Nat.zero_add]
    have hj := (List.getElem?_eq_some_iff.1 hv).1
    simp [List.getElem?_append_left hj, hv]) hL h
/-- the results' values -/
inductive Rv (F : Frm) : List ResultVar → List Value → Prop
  | nil : Rv F [] []
  | t {t : Nat} {v : Value} {rs : List ResultVar} {vs : List Value} (h : (t, true, v) ∈ F) (k : Rv F rs vs) : Rv F (.tmp t :: rs) (v :: vs)

def one : List Value → Value
  | [v] => v
  | vs => .tuple vs.toArray
theorem run_results (P : Program) {n : Nat} {ds : List Deferred} {a : Act} {F : Frm} (ha : Holds n ds a F) (w : World) (f : ResultVar → Sem Value) (hf : ∀ t, f (.tmp t) = pure (a.tmps.getD t undef)) : ∀ {rs : List ResultVar} {vs : List Value}, Rv F rs vs →
    Sem.run P (rs.mapM f) w = .ok vs w
  | _, _, .nil => rfl
  | _, _, .t (t := t) (v := v) (rs := rs) (vs := vs) h k => by
    have h1 := ha.all _ _ _ h
    have ih := run_results P ha w f hf k
    simp only [List.mapM_cons, hf]
    simp [h1, ih]
theorem post_ret {P : Program} {fn : Func} {R : Post} {n : Nat} {ds : List Deferred} {a : Act} {F : Frm} {w : World} {rs : List ResultVar} {vs : List Value} (hr : fn.results = rs.toArray) (ha : Holds n ds a F) (hv : Rv F rs vs) (h : R (.returned (one vs)) w) :
    a.defers = ds ∧ ∃ v, (results fn a.tmps).run P w = .ok v w ∧ R (.returned v) w := by
  refine ⟨ha.defers, one vs, ?_, h⟩
  unfold results
  rw [hr]
  simp only [List.mapM_toArray, Sem.run_bind, Sem.run_map]
  rw [run_results P ha w _ (fun _ => rfl) hv]
  match vs with
  | [] => rfl
  | [v] => rfl
  | v :: u :: vs => rfl
theorem qt_end_ret {fn : Func} {R : Post} {rs : List ResultVar} {vs : List Value} (hd : X.ds = []) (hr : fn.results = rs.toArray) (hv : Rv F rs vs) (k : ∀ w, St X.w0 X.M L w → R (.returned (one vs)) w) : QT X (bodyPost X.P fn R) .ret F L :=
  fun a w ha hw => by
    have h := post_ret (P := X.P) hr ha hv (k w hw)
    rw [hd] at h
    exact h
theorem qt_end {fn : Func} {R : Post} {rs : List ResultVar} {vs : List Value} (hd : X.ds = []) (hr : fn.results = rs.toArray) (hv : Rv F rs vs) (k : ∀ w, St X.w0 X.M L w → R (.returned (one vs)) w) : QT X (bodyPost X.P fn R) .normal F L :=
  fun a w ha hw => by
    have h := post_ret (P := X.P) hr ha hv (k w hw)
    rw [hd] at h
    exact h
end
end Go.Sep
