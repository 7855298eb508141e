/- Rules for operations that only compute. No program is named here. -/
import Derived.Test.YtpmnbenmjkeacaaSepB
set_option linter.unusedVariables false
set_option linter.unusedSectionVars false
namespace Go.Sep
open Go
theorem eval_const (a : Act) (v : Value) : a.eval (.const v) = v := rfl
theorem run_equalIn_bool {P : Program} {w : World} {t : TypeId} (n : Nat) (ht : P.underlying t = some .bool) (b c : Bool) : (Op.equalIn (n + 1) t (.bool b) (.bool c)).run P w = .ok (b == c) w := by
  simp [Op.equalIn, run_underlying ht]
section
variable {X : Cx} {ops : Array Oper} {S : World → Prop} {Q : Exit → Act → World → Prop} {rest : List (Oper × Bool)} {F : Frm} {L : List Ent}

theorem tl_pure {o : Oper} {e : Bool} {d : Nat} {g : Bool} {v : Value} (hd : o.dst = some d) (hg : Gd ops F o.guard g)
    (hv : ∀ a, Holds X.n X.ds a F → g = true → ∀ w, (execOp a.eval o).run X.P w = .ok (.value v) w) (hn : Nat.blt d X.n = true) (hk : noKey d F = true)
    (k : TL X ops S Q rest ((d, g, v) :: F) L) : TL X ops S Q ((o, e) :: rest) F L := by
  intro a w ha hw hS
  have hwant := hg.wanted ha
  have hp := ha.put (g := g) (v := v) hn hk
  have hk' := k _ w hp hw hS
  cases e with
  | true =>
    simp only [wpLex]
    cases g with
    | true =>
      rw [if_pos hwant]
      unfold exec
      rw [hv a ha rfl w, hd]
      exact ⟨hS, hk'⟩
    | false =>
      rw [if_neg (by rw [hwant]; simp), hd]
      exact hk'
  | false =>
    simp only [wpLex]
    refine ⟨if g = true then v else undef, ?_, by rw [hd]; exact hk'⟩
    cases g with
    | true => exact .inl ⟨hwant, fun w' _ => hv a ha rfl w'⟩
    | false => exact .inr ⟨hwant, rfl⟩
/-- like tl_pure, the value read in the worlds at hand -/
theorem tl_read {o : Oper} {e : Bool} {d : Nat} {g : Bool} {v : Value} (hd : o.dst = some d) (hg : Gd ops F o.guard g)
    (hv : ∀ a, Holds X.n X.ds a F → g = true → ∀ w, (if e then St X.w0 X.M L w else S w) → (execOp a.eval o).run X.P w = .ok (.value v) w) (hn : Nat.blt d X.n = true) (hk : noKey d F = true)
    (k : TL X ops S Q rest ((d, g, v) :: F) L) : TL X ops S Q ((o, e) :: rest) F L := by
  intro a w ha hw hS
  have hwant := hg.wanted ha
  have hp := ha.put (g := g) (v := v) hn hk
  have hk' := k _ w hp hw hS
  cases e with
  | true =>
    simp only [wpLex]
    cases g with
    | true =>
      rw [if_pos hwant]
      unfold exec
      rw [hv a ha rfl w hw, hd]
      exact ⟨hS, hk'⟩
    | false =>
      rw [if_neg (by rw [hwant]; simp), hd]
      exact hk'
  | false =>
    simp only [wpLex]
    refine ⟨if g = true then v else undef, ?_, by rw [hd]; exact hk'⟩
    cases g with
    | true => exact .inl ⟨hwant, fun w' hS' => hv a ha rfl w' hS'⟩
    | false => exact .inr ⟨hwant, rfl⟩
/-- an operation that is passed over -/
theorem tl_dead {o : Oper} {e : Bool} {d : Nat} (hd : o.dst = some d) (hg : Gd ops F o.guard false) (hn : Nat.blt d X.n = true) (hk : noKey d F = true)
    (k : TL X ops S Q rest ((d, false, undef) :: F) L) : TL X ops S Q ((o, e) :: rest) F L :=
  tl_pure hd hg (fun _ _ h => by cases h) hn hk k
theorem tl_dead0 {o : Oper} {e : Bool} (hd : o.dst = none) (hg : Gd ops F o.guard false) (k : TL X ops S Q rest F L) : TL X ops S Q ((o, e) :: rest) F L := by
  intro a w ha hw hS
  have hwant := hg.wanted ha
  have hk' := k _ w ha hw hS
  cases e with
  | true =>
    simp only [wpLex]
    rw [if_neg (by rw [hwant]; simp), hd]
    exact hk'
  | false =>
    simp only [wpLex]
    exact ⟨undef, .inr ⟨hwant, rfl⟩, by rw [hd]; exact hk'⟩
theorem tl_del {F' : Frm} (hF : ∀ x ∈ F', x ∈ F) (k : TL X ops S Q rest F' L) : TL X ops S Q rest F L := fun a w ha hw hS => k a w (ha.sub hF) hw hS
theorem tl_perm {L' : List Ent} (hL : L.Perm L') (k : TL X ops S Q rest F L') : TL X ops S Q rest F L := fun a w ha hw hS => k a w ha (hw.perm hL) hS
theorem tl_sub {L' : List Ent} (hL : L'.Sublist L) (k : TL X ops S Q rest F L') : TL X ops S Q rest F L := fun a w ha hw hS => k a w ha (hw.sub hL) hS

section
variable {e : Bool} {d : Nat} {g : Bool} {ty : TypeId} {pos : String} {af : Array Edge} {gd : Option (Nat × Bool)}

theorem r_move {x : Operand} {v : Value} (hg : Gd ops F gd g) (hx : Ev F x g v) (hn : Nat.blt d X.n = true) (hk : noKey d F = true) : 
    TL X ops S Q rest ((d, g, v) :: F) L → TL X ops S Q ((⟨some d, .move x, ty, pos, af, gd⟩, e) :: rest) F L :=
  tl_pure rfl hg (fun a ha hgt w => by simp [execOp, hx.eval ha hgt]) hn hk
theorem r_assign {x : Operand} {v : Value} (hg : Gd ops F gd g) (hx : Ev F x g v) (hn : Nat.blt d X.n = true) (hk : noKey d F = true) : 
    TL X ops S Q rest ((d, g, v) :: F) L → TL X ops S Q ((⟨some d, .assign x, ty, pos, af, gd⟩, e) :: rest) F L :=
  tl_pure rfl hg (fun a ha hgt w => by simp [execOp, hx.eval ha hgt]) hn hk
theorem r_extract {x : Operand} {i : Nat} {vs : List Value} {v : Value} (hg : Gd ops F gd g) (hx : Ev F x g (.tuple vs.toArray)) (hv : vs[i]? = some v) (hn : Nat.blt d X.n = true) (hk : noKey d F = true) : 
    TL X ops S Q rest ((d, g, v) :: F) L → TL X ops S Q ((⟨some d, .extract x i, ty, pos, af, gd⟩, e) :: rest) F L :=
  tl_pure rfl hg (fun a ha hgt w => by simp [execOp, hx.eval ha hgt, Instr.extract, hv]) hn hk
/-! pick -/
theorem r_pick {c x y : Operand} {b : Bool} {v : Value} (hg : Gd ops F gd true) (hc : Ev F c true (.bool b)) (hx : b = true → Ev F x true v) (hy : b = false → Ev F y true v) (hn : Nat.blt d X.n = true) (hk : noKey d F = true) :
    TL X ops S Q rest ((d, true, v) :: F) L → TL X ops S Q ((⟨some d, .pick c x y, ty, pos, af, gd⟩, e) :: rest) F L :=
  tl_pure rfl hg (fun a ha hgt w => by
    cases b with
    | true => simp [execOp, hc.eval ha rfl, (hx rfl).eval ha rfl, asBool]
    | false => simp [execOp, hc.eval ha rfl, (hy rfl).eval ha rfl, asBool]) hn hk
theorem r_and {c x : Operand} {b t : Bool} (hg : Gd ops F gd g) (hc : Ev F c g (.bool b)) (hx : Ev F x (g && b) (.bool t)) (hn : Nat.blt d X.n = true) (hk : noKey d F = true) : 
    TL X ops S Q rest ((d, g, .bool (b && t)) :: F) L → TL X ops S Q ((⟨some d, .pick c x (.const (.bool false)), ty, pos, af, gd⟩, e) :: rest) F L :=
  tl_pure rfl hg (fun a ha hgt w => by
    cases b with
    | true => simp [execOp, hc.eval ha hgt, hx.eval ha (by simp [hgt]), asBool]
    | false => simp [execOp, hc.eval ha hgt, asBool, eval_const]) hn hk
theorem r_or {c y : Operand} {b t : Bool} (hg : Gd ops F gd g) (hc : Ev F c g (.bool b)) (hy : Ev F y (g && !b) (.bool t)) (hn : Nat.blt d X.n = true) (hk : noKey d F = true) : 
    TL X ops S Q rest ((d, g, .bool (b || t)) :: F) L → TL X ops S Q ((⟨some d, .pick c (.const (.bool true)) y, ty, pos, af, gd⟩, e) :: rest) F L :=
  tl_pure rfl hg (fun a ha hgt w => by
    cases b with
    | false => simp [execOp, hc.eval ha hgt, hy.eval ha (by simp [hgt]), asBool]
    | true => simp [execOp, hc.eval ha hgt, asBool, eval_const]) hn hk
/-! whole numbers -/
section
variable {k : IntKind} {x y : Operand} {t u : TypeId} {m n : Int}
theorem r_addw (c : Int) (hg : Gd ops F gd g) (hx : Ev F x g (.int k m)) (hy : Ev F y g (.int k n)) (hc : g = true → k.wrap (m + n) = c) (hn : Nat.blt d X.n = true) (hk : noKey d F = true) : 
    TL X ops S Q rest ((d, g, .int k c) :: F) L → TL X ops S Q ((⟨some d, .binOp .add t x y u, ty, pos, af, gd⟩, e) :: rest) F L :=
  tl_pure rfl hg (fun a ha hgt w => by simp [execOp, hx.eval ha hgt, hy.eval ha hgt, eqGuard, binOp, Op.intArith, hc hgt]) hn hk
theorem r_subw (c : Int) (hg : Gd ops F gd g) (hx : Ev F x g (.int k m)) (hy : Ev F y g (.int k n)) (hc : g = true → k.wrap (m - n) = c) (hn : Nat.blt d X.n = true) (hk : noKey d F = true) : 
    TL X ops S Q rest ((d, g, .int k c) :: F) L → TL X ops S Q ((⟨some d, .binOp .sub t x y u, ty, pos, af, gd⟩, e) :: rest) F L :=
  tl_pure rfl hg (fun a ha hgt w => by simp [execOp, hx.eval ha hgt, hy.eval ha hgt, eqGuard, binOp, Op.intArith, hc hgt]) hn hk
theorem r_mulw (c : Int) (hg : Gd ops F gd g) (hx : Ev F x g (.int k m)) (hy : Ev F y g (.int k n)) (hc : g = true → k.wrap (m * n) = c) (hn : Nat.blt d X.n = true) (hk : noKey d F = true) : 
    TL X ops S Q rest ((d, g, .int k c) :: F) L → TL X ops S Q ((⟨some d, .binOp .mul t x y u, ty, pos, af, gd⟩, e) :: rest) F L :=
  tl_pure rfl hg (fun a ha hgt w => by simp [execOp, hx.eval ha hgt, hy.eval ha hgt, eqGuard, binOp, Op.intArith, hc hgt]) hn hk
theorem r_add (hg : Gd ops F gd g) (hx : Ev F x g (.int .i64 m)) (hy : Ev F y g (.int .i64 n)) (hr : g = true → -9223372036854775808 ≤ m + n ∧ m + n ≤ 9223372036854775807) (hn : Nat.blt d X.n = true) (hk : noKey d F = true) : 
    TL X ops S Q rest ((d, g, .int .i64 (m + n)) :: F) L → TL X ops S Q ((⟨some d, .binOp .add t x y u, ty, pos, af, gd⟩, e) :: rest) F L :=
  r_addw _ hg hx hy (fun h => IntWalk.i64_in _ (hr h)) hn hk
theorem r_sub (hg : Gd ops F gd g) (hx : Ev F x g (.int .i64 m)) (hy : Ev F y g (.int .i64 n)) (hr : g = true → -9223372036854775808 ≤ m - n ∧ m - n ≤ 9223372036854775807) (hn : Nat.blt d X.n = true) (hk : noKey d F = true) : 
    TL X ops S Q rest ((d, g, .int .i64 (m - n)) :: F) L → TL X ops S Q ((⟨some d, .binOp .sub t x y u, ty, pos, af, gd⟩, e) :: rest) F L :=
  r_subw _ hg hx hy (fun h => IntWalk.i64_in _ (hr h)) hn hk
theorem r_mul (hg : Gd ops F gd g) (hx : Ev F x g (.int .i64 m)) (hy : Ev F y g (.int .i64 n)) (hr : g = true → -9223372036854775808 ≤ m * n ∧ m * n ≤ 9223372036854775807) (hn : Nat.blt d X.n = true) (hk : noKey d F = true) : 
    TL X ops S Q rest ((d, g, .int .i64 (m * n)) :: F) L → TL X ops S Q ((⟨some d, .binOp .mul t x y u, ty, pos, af, gd⟩, e) :: rest) F L :=
  r_mulw _ hg hx hy (fun h => IntWalk.i64_in _ (hr h)) hn hk
theorem r_quow (c : Int) (hg : Gd ops F gd g) (hx : Ev F x g (.int k m)) (hy : Ev F y g (.int k n)) (hz : g = true → n ≠ 0) (hc : g = true → k.wrap (m.tdiv n) = c) (hn : Nat.blt d X.n = true) (hk : noKey d F = true) : 
    TL X ops S Q rest ((d, g, .int k c) :: F) L → TL X ops S Q ((⟨some d, .binOp .quo t x y u, ty, pos, af, gd⟩, e) :: rest) F L :=
  tl_pure rfl hg (fun a ha hgt w => by simp [execOp, hx.eval ha hgt, hy.eval ha hgt, eqGuard, binOp, Op.intDiv, hz hgt, hc hgt]) hn hk
theorem r_quo (hg : Gd ops F gd g) (hx : Ev F x g (.int .i64 m)) (hy : Ev F y g (.int .i64 n)) (hz : g = true → n ≠ 0) (hr : g = true → -9223372036854775808 < m ∧ m ≤ 9223372036854775807) (hn : Nat.blt d X.n = true) (hk : noKey d F = true) : 
    TL X ops S Q rest ((d, g, .int .i64 (m.tdiv n)) :: F) L → TL X ops S Q ((⟨some d, .binOp .quo t x y u, ty, pos, af, gd⟩, e) :: rest) F L :=
  r_quow _ hg hx hy hz (fun h => IntWalk.i64_in _ (by
    obtain ⟨h1, h2⟩ := hr h
    have h3 : (m.tdiv n).natAbs ≤ m.natAbs := by rw [Int.natAbs_tdiv]; exact Nat.div_le_self _ _
    omega)) hn hk
theorem r_rem (hg : Gd ops F gd g) (hx : Ev F x g (.int k m)) (hy : Ev F y g (.int k n)) (hz : g = true → n ≠ 0) (hn : Nat.blt d X.n = true) (hk : noKey d F = true) : 
    TL X ops S Q rest ((d, g, .int k (m.tmod n)) :: F) L → TL X ops S Q ((⟨some d, .binOp .rem t x y u, ty, pos, af, gd⟩, e) :: rest) F L :=
  tl_pure rfl hg (fun a ha hgt w => by simp [execOp, hx.eval ha hgt, hy.eval ha hgt, eqGuard, binOp, Op.intDiv, hz hgt]) hn hk
theorem r_lss (hg : Gd ops F gd g) (hx : Ev F x g (.int k m)) (hy : Ev F y g (.int k n)) (hn : Nat.blt d X.n = true) (hk : noKey d F = true) : 
    TL X ops S Q rest ((d, g, .bool (decide (m < n))) :: F) L → TL X ops S Q ((⟨some d, .binOp .lss t x y u, ty, pos, af, gd⟩, e) :: rest) F L :=
  tl_pure rfl hg (fun a ha hgt w => by simp [execOp, hx.eval ha hgt, hy.eval ha hgt, eqGuard, binOp, Op.intCmp]) hn hk
theorem r_leq (hg : Gd ops F gd g) (hx : Ev F x g (.int k m)) (hy : Ev F y g (.int k n)) (hn : Nat.blt d X.n = true) (hk : noKey d F = true) : 
    TL X ops S Q rest ((d, g, .bool (decide (m ≤ n))) :: F) L → TL X ops S Q ((⟨some d, .binOp .leq t x y u, ty, pos, af, gd⟩, e) :: rest) F L :=
  tl_pure rfl hg (fun a ha hgt w => by simp [execOp, hx.eval ha hgt, hy.eval ha hgt, eqGuard, binOp, Op.intCmp]) hn hk
theorem r_gtr (hg : Gd ops F gd g) (hx : Ev F x g (.int k m)) (hy : Ev F y g (.int k n)) (hn : Nat.blt d X.n = true) (hk : noKey d F = true) : 
    TL X ops S Q rest ((d, g, .bool (decide (n < m))) :: F) L → TL X ops S Q ((⟨some d, .binOp .gtr t x y u, ty, pos, af, gd⟩, e) :: rest) F L :=
  tl_pure rfl hg (fun a ha hgt w => by simp [execOp, hx.eval ha hgt, hy.eval ha hgt, eqGuard, binOp, Op.intCmp]) hn hk
theorem r_geq (hg : Gd ops F gd g) (hx : Ev F x g (.int k m)) (hy : Ev F y g (.int k n)) (hn : Nat.blt d X.n = true) (hk : noKey d F = true) : 
    TL X ops S Q rest ((d, g, .bool (decide (n ≤ m))) :: F) L → TL X ops S Q ((⟨some d, .binOp .geq t x y u, ty, pos, af, gd⟩, e) :: rest) F L :=
  tl_pure rfl hg (fun a ha hgt w => by simp [execOp, hx.eval ha hgt, hy.eval ha hgt, eqGuard, binOp, Op.intCmp]) hn hk
theorem r_eql (hg : Gd ops F gd g) (hx : Ev F x g (.int k m)) (hy : Ev F y g (.int k n)) (hn : Nat.blt d X.n = true) (hk : noKey d F = true) : 
    TL X ops S Q rest ((d, g, .bool (decide (m = n))) :: F) L → TL X ops S Q ((⟨some d, .binOp .eql t x y u, ty, pos, af, gd⟩, e) :: rest) F L :=
  tl_pure rfl hg (fun a ha hgt w => by simp [execOp, hx.eval ha hgt, hy.eval ha hgt, eqGuard, binOp, Op.intCmp]; rfl) hn hk
theorem r_neq (hg : Gd ops F gd g) (hx : Ev F x g (.int k m)) (hy : Ev F y g (.int k n)) (hn : Nat.blt d X.n = true) (hk : noKey d F = true) : 
    TL X ops S Q rest ((d, g, .bool (!decide (m = n))) :: F) L → TL X ops S Q ((⟨some d, .binOp .neq t x y u, ty, pos, af, gd⟩, e) :: rest) F L :=
  tl_pure rfl hg (fun a ha hgt w => by simp [execOp, hx.eval ha hgt, hy.eval ha hgt, eqGuard, binOp, Op.intCmp]; rfl) hn hk
theorem r_bits {op : BinOp} (c : Int) (hop : op = .and ∨ op = .or ∨ op = .xor ∨ op = .andNot) (hg : Gd ops F gd g) (hx : Ev F x g (.int k m)) (hy : Ev F y g (.int k n)) (hc : g = true → bits op k m n = c) (hn : Nat.blt d X.n = true) (hk : noKey d F = true) : 
    TL X ops S Q rest ((d, g, .int k c) :: F) L → TL X ops S Q ((⟨some d, .binOp op t x y u, ty, pos, af, gd⟩, e) :: rest) F L :=
  tl_pure rfl hg (fun a ha hgt w => by
    have := hc hgt
    rcases hop with rfl | rfl | rfl | rfl <;> simp [execOp, hx.eval ha hgt, hy.eval ha hgt, eqGuard, binOp, Op.intBits, ← this, bits]) hn hk
theorem r_shlw {j : IntKind} (c : Int) (hg : Gd ops F gd g) (hx : Ev F x g (.int k m)) (hy : Ev F y g (.int j n)) (hz : g = true → 0 ≤ n) (hc : g = true → k.wrap (m * 2 ^ (min n.toNat k.bits)) = c) (hn : Nat.blt d X.n = true) (hk : noKey d F = true) : 
    TL X ops S Q rest ((d, g, .int k c) :: F) L → TL X ops S Q ((⟨some d, .binOp .shl t x y u, ty, pos, af, gd⟩, e) :: rest) F L :=
  tl_pure rfl hg (fun a ha hgt w => by
    have h1 := hz hgt
    simp [execOp, hx.eval ha hgt, hy.eval ha hgt, eqGuard, binOp, Op.shift, show ¬ n < 0 from by omega, hc hgt]) hn hk
theorem r_shrw {j : IntKind} (c : Int) (hg : Gd ops F gd g) (hx : Ev F x g (.int k m)) (hy : Ev F y g (.int j n)) (hz : g = true → 0 ≤ n) (hc : g = true → m.fdiv (2 ^ (min n.toNat k.bits)) = c) (hn : Nat.blt d X.n = true) (hk : noKey d F = true) : 
    TL X ops S Q rest ((d, g, .int k c) :: F) L → TL X ops S Q ((⟨some d, .binOp .shr t x y u, ty, pos, af, gd⟩, e) :: rest) F L :=
  tl_pure rfl hg (fun a ha hgt w => by
    have h1 := hz hgt
    simp [execOp, hx.eval ha hgt, hy.eval ha hgt, eqGuard, binOp, Op.shift, show ¬ n < 0 from by omega, hc hgt]) hn hk
theorem r_negw (c : Int) (hg : Gd ops F gd g) (hx : Ev F x g (.int k m)) (hc : g = true → k.wrap (0 - m) = c) (hn : Nat.blt d X.n = true) (hk : noKey d F = true) : 
    TL X ops S Q rest ((d, g, .int k c) :: F) L → TL X ops S Q ((⟨some d, .unOp .neg t x, ty, pos, af, gd⟩, e) :: rest) F L :=
  tl_pure rfl hg (fun a ha hgt w => by
    have := hc hgt
    simp [execOp, hx.eval ha hgt, Op.unary, Op.intArith] at this ⊢
    exact this) hn hk
theorem r_neg (hg : Gd ops F gd g) (hx : Ev F x g (.int .i64 m)) (hr : g = true → -9223372036854775808 < m ∧ m ≤ 9223372036854775807) (hn : Nat.blt d X.n = true) (hk : noKey d F = true) : 
    TL X ops S Q rest ((d, g, .int .i64 (-m)) :: F) L → TL X ops S Q ((⟨some d, .unOp .neg t x, ty, pos, af, gd⟩, e) :: rest) F L :=
  r_negw _ hg hx (fun h => by rw [IntWalk.i64_in _ (by have := hr h; omega)]; omega) hn hk
theorem r_not {b : Bool} (hg : Gd ops F gd g) (hx : Ev F x g (.bool b)) (hn : Nat.blt d X.n = true) (hk : noKey d F = true) : 
    TL X ops S Q rest ((d, g, .bool (!b)) :: F) L → TL X ops S Q ((⟨some d, .unOp .not t x, ty, pos, af, gd⟩, e) :: rest) F L :=
  tl_pure rfl hg (fun a ha hgt w => by simp [execOp, hx.eval ha hgt, Op.unary]) hn hk
theorem r_conv {j : IntKind} {td : TypeDesc} (c : Int) (hsrc : X.P.underlying t = some td) (hdst : X.P.underlying u = some (.int k)) (hg : Gd ops F gd g) (hx : Ev F x g (.int j m)) (hc : g = true → k.wrap m = c) (hn : Nat.blt d X.n = true) (hk : noKey d F = true) : 
    TL X ops S Q rest ((d, g, .int k c) :: F) L → TL X ops S Q ((⟨some d, .convert t u x, ty, pos, af, gd⟩, e) :: rest) F L :=
  tl_pure rfl hg (fun a ha hgt w => by
    have := hc hgt
    simp [execOp, hx.eval ha hgt, convert, run_underlying hsrc, run_underlying hdst, Conv.intToInt, this]) hn hk
end
/-! bools, strings -/
theorem r_eqlB {x y : Operand} {t u : TypeId} {b c : Bool} (ht : X.P.underlying t = some .bool) (hg : Gd ops F gd g) (hx : Ev F x g (.bool b)) (hy : Ev F y g (.bool c)) (hn : Nat.blt d X.n = true) (hk : noKey d F = true) : 
    TL X ops S Q rest ((d, g, .bool (b == c)) :: F) L → TL X ops S Q ((⟨some d, .binOp .eql t x y u, ty, pos, af, gd⟩, e) :: rest) F L :=
  tl_pure rfl hg (fun a ha hgt w => by simp [execOp, hx.eval ha hgt, hy.eval ha hgt, eqGuard, binOp, Op.equal, Op.maxDepth, run_equalIn_bool 9999 ht b c]) hn hk
theorem r_neqB {x y : Operand} {t u : TypeId} {b c : Bool} (ht : X.P.underlying t = some .bool) (hg : Gd ops F gd g) (hx : Ev F x g (.bool b)) (hy : Ev F y g (.bool c)) (hn : Nat.blt d X.n = true) (hk : noKey d F = true) : 
    TL X ops S Q rest ((d, g, .bool (!(b == c))) :: F) L → TL X ops S Q ((⟨some d, .binOp .neq t x y u, ty, pos, af, gd⟩, e) :: rest) F L :=
  tl_pure rfl hg (fun a ha hgt w => by simp [execOp, hx.eval ha hgt, hy.eval ha hgt, eqGuard, binOp, Op.equal, Op.maxDepth, run_equalIn_bool 9999 ht b c]) hn hk
theorem r_eqlS {x y : Operand} {t u : TypeId} {b c : ByteArray} (hg : Gd ops F gd g) (hx : Ev F x g (.string b)) (hy : Ev F y g (.string c)) (hn : Nat.blt d X.n = true) (hk : noKey d F = true) : 
    TL X ops S Q rest ((d, g, .bool (b.toList == c.toList)) :: F) L → TL X ops S Q ((⟨some d, .binOp .eql t x y u, ty, pos, af, gd⟩, e) :: rest) F L :=
  tl_pure rfl hg (fun a ha hgt w => by simp [execOp, hx.eval ha hgt, hy.eval ha hgt, eqGuard, binOp, Op.stringOp]) hn hk
theorem r_neqS {x y : Operand} {t u : TypeId} {b c : ByteArray} (hg : Gd ops F gd g) (hx : Ev F x g (.string b)) (hy : Ev F y g (.string c)) (hn : Nat.blt d X.n = true) (hk : noKey d F = true) : 
    TL X ops S Q rest ((d, g, .bool (!(b.toList == c.toList))) :: F) L → TL X ops S Q ((⟨some d, .binOp .neq t x y u, ty, pos, af, gd⟩, e) :: rest) F L :=
  tl_pure rfl hg (fun a ha hgt w => by simp [execOp, hx.eval ha hgt, hy.eval ha hgt, eqGuard, binOp, Op.stringOp]) hn hk
/-! functions, pointers -/
theorem r_makeFunc {f : Fn} {xs : List Operand} {vs : List Value} (hg : Gd ops F gd g) (hx : Evs F g xs vs) (hn : Nat.blt d X.n = true) (hk : noKey d F = true) : 
    TL X ops S Q rest ((d, g, .func f #[] vs.toArray) :: F) L → TL X ops S Q ((⟨some d, .makeFunc f #[] xs.toArray, ty, pos, af, gd⟩, e) :: rest) F L :=
  tl_pure rfl hg (fun a ha hgt w => by simp [execOp, Instr.makeFunc, ← hx.eval ha hgt]) hn hk
theorem r_nilCheckP {x : Operand} {p : Addr} (hg : Gd ops F gd g) (hx : Ev F x g (.pointer (some p))) (hn : Nat.blt d X.n = true) (hk : noKey d F = true) : 
    TL X ops S Q rest ((d, g, .pointer (some p)) :: F) L → TL X ops S Q ((⟨some d, .nilCheck x, ty, pos, af, gd⟩, e) :: rest) F L :=
  tl_pure rfl hg (fun a ha hgt w => by simp [execOp, hx.eval ha hgt]) hn hk
end
end
end Go.Sep
