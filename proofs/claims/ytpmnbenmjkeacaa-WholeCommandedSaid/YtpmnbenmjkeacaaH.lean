/- Whatever the input (numbers of nodes, a term, a slowness, any list of things that happen): cressettop.WholeCommanded returns true, and its arguments read as before. No condition. -/
import Derived.Test.YtpmnbenmjkeacaaRows
import Derived.Test.YtpmnbenmjkeacaaG
import Derived.WalkKit
import Derived.ProofKit
import Derived.OpenShut
import Derived.ShutString
import Derived.ChangeOld
import Derived.Below
import Derived.Deep.Slices
import Derived.Deep.Strs
namespace Go.Proofs.Ytpmnbenmjkeacaa
open Go Go.ChangeShapes Go.WideShapes Go.ChangeAt Go.RowKit Go.Sep
set_option linter.unusedVariables false

theorem own : ownKnob Try.prog.godebug = none := by kernel_rfl
theorem laidOut : laidOutB Try.prog = true := by kernel_rfl
theorem cells43 : Try.prog.cellsOf 43 = 3 := by kernel_rfl
theorem cells5 : Try.prog.cellsOf 5 = 1 := by kernel_rfl

/-- a slice of things that happen, as it came in -/
theorem open_spoken {H : Type} {enc : TypeId × Value → H} {W : World} {a0 : Option Addr} {len cap fuel : Nat} {x : DataW H × List MemPlace} (h : DataW.trod enc Try.prog W 0 (fun _ => true) true fuel 23 [.slice a0 len cap] = some x) :
    ∃ sp : List (Int × Int × Int), (∀ p ∈ sp, (0 ≤ p.1 ∧ p.1 ≤ 255) ∧ (0 ≤ p.2.1 ∧ p.2.1 ≤ 255) ∧ 0 ≤ p.2.2 ∧ p.2.2 ≤ 255) ∧ len ≤ cap ∧ sp.length = len ∧
      (0 < len → In W (slE a0 len cap 3 (sp.map fun p => [Value.int .u8 p.1, Value.int .u8 p.2.1, Value.int .u8 p.2.2]))) := by
  rcases Go.Deep.open_slice Try.underlying23 h with ⟨hcs, _⟩ | ⟨a, l, c, m, n, D, Pl, hcs, _, hl, hm, hmm, hx, hel⟩
  · simp only [List.cons.injEq, Value.slice.injEq, and_true] at hcs
    obtain ⟨rfl, rfl, rfl⟩ := hcs
    exact ⟨[], fun _ h => (by cases h), Nat.le_refl _, rfl, fun h => absurd h (Nat.lt_irrefl 0)⟩
  · simp only [List.cons.injEq, Value.slice.injEq, and_true] at hcs
    obtain ⟨rfl, rfl, rfl⟩ := hcs
    simp only [if_true] at hmm
    subst hmm
    have key : ∀ i, i < m → ∃ p : Int × Int × Int, ((0 ≤ p.1 ∧ p.1 ≤ 255) ∧ (0 ≤ p.2.1 ∧ p.2.1 ≤ 255) ∧ 0 ≤ p.2.2 ∧ p.2.2 ≤ 255) ∧ ∀ j, j < 3 → W.cell? ((a.add (i * 3)).add j) = [Value.int .u8 p.1, Value.int .u8 p.2.1, Value.int .u8 p.2.2][j]? := fun i hi => by
      obtain ⟨cs', h1, h2⟩ := hel i hi
      rw [cells43] at h1
      obtain ⟨_, hlen, hcell⟩ := World.cells?_some h1
      obtain ⟨y0, y1, y2, k, _, _, t0, t1, t2⟩ := Go.Deep.trod_struct3 Try.underlying43 h2
      rw [cells5] at t0 t1 t2
      obtain ⟨b0, e0, _, w0⟩ := DataW.trod_int Try.underlying5 t0
      obtain ⟨b1, e1, _, w1⟩ := DataW.trod_int Try.underlying5 t1
      obtain ⟨b2, e2, _, w2⟩ := DataW.trod_int Try.underlying5 t2
      match cs', hlen with
      | [c0, c1, c2], _ =>
        simp at e0 e1 e2
        subst e0; subst e1; subst e2
        exact ⟨(b0, b1, b2), ⟨bounds_u8 w0, bounds_u8 w1, bounds_u8 w2⟩, fun j hj => hcell j hj⟩
    obtain ⟨f, hf⟩ := Go.Deep.choose_lt key
    refine ⟨(List.range len).map f, fun p hp => ?_, hl, by simp, fun h0 => ?_⟩
    · obtain ⟨i, hi, rfl⟩ := List.mem_map.1 hp
      exact (hf i (by have := List.mem_range.1 hi; omega)).1
    · have hc0 := (hf 0 (by omega)).2 0 (by omega)
      obtain ⟨b, off, spot⟩ := a
      have hs0 : W.cell? (⟨b, off, spot⟩ : Addr) = some (Value.int .u8 (f 0).1) := by simpa [Addr.add] using hc0
      have hspot : spot = none := World.cell?_spot hs0
      subst hspot
      refine ⟨⟨by simp, fun l hl => ?_, hl, hm, .inr ⟨_, rfl, rfl, fun i l hil j u hju => ?_⟩⟩, fun k hk => ?_⟩
      · obtain ⟨p, _, rfl⟩ := List.mem_map.1 hl
        rfl
      · simp only [List.getElem?_map] at hil
        cases hr : (List.range len)[i]? with
        | none => rw [hr] at hil; cases hil
        | some i' =>
          rw [hr] at hil
          obtain ⟨hlt, he⟩ := List.getElem?_eq_some_iff.1 hr
          simp only [List.getElem_range] at he
          subst he
          simp only [Option.map_some, Option.some.injEq] at hil
          subst hil
          have hj : j < 3 := by have := (List.getElem?_eq_some_iff.1 hju).1; simpa using this
          have h1 := (hf i (by simp at hlt; omega)).2 j hj
          rw [hju, Go.Deep.add_add] at h1
          rw [← h1]
          congr 1
          unfold Addr.add
          by_cases hz : i * 3 + j = 0
          · simp [hz]
          · rw [if_neg hz]
      · have : k = b := by simpa [slE, blk] using hk
        subst this
        exact World.block_lt_of_cell? W _ hs0

/-! ### The row's step -/
set_option maxRecDepth 100000 in
theorem lifted (os : Os) (started : os.Started) (H : Type) (enc : TypeId × Value → H) :
    ReturnsInHanded {} Try.checked os 3 .any (Rows.wholeCommandedSpec.pre6 enc Try.prog Try.f3 Rows.wholeCommandedRow.domain false) (Rows.wholeCommandedSpec.post enc Try.prog Try.f3 false true false false) := by
  refine returnsInHanded_of_change (C := Try.checked) own started (by kernel_rfl) Try.func3
    (ChangeSpec.witness6 (enc := enc) (C := Try.checked) false ⟨#[], #[.int .u8 0, .int .u8 0, .int .u16 0, .slice none 0 0], []⟩ 8 (by kernel_rfl) (by kernel_rfl) (by kernel_rfl) (by kernel_rfl)) ?_
  intro W base args ds gs before hval0 hW hcnd _
  have hval : ∀ (j : Nat) t v, Try.f3.params[j]? = some t → args[j]? = some v → Value.okWide Try.prog W .any base t v := hval0
  have hW' := hW
  obtain ⟨p, q, hA0, hV, rfl, hfz, hnd⟩ := hW
  have hA : DataW.TrodAll enc Try.prog W 0 (fun _ => true) true Try.f3.params.toList args.toList ds p := hA0
  rw [Try.params3] at hA hval
  obtain ⟨v0, vs0, d0, ds0, p0, q0, hargs, rfl, rfl, h0, r0⟩ := trodAll_cons hA
  obtain ⟨v1, vs1, d1, ds1, p1, q1, rfl, rfl, rfl, h1, r1⟩ := trodAll_cons r0
  obtain ⟨v2, vs2, d2, ds2, p2, q2, rfl, rfl, rfl, h2, r2⟩ := trodAll_cons r1
  obtain ⟨v3, vs3, d3, ds3, p3, q3, rfl, rfl, rfl, h3, r3⟩ := trodAll_cons r2
  obtain ⟨rfl, rfl, rfl⟩ := trodAll_nil r3
  obtain rfl : args = #[v0, v1, v2, v3] := by cases args; simp_all
  obtain ⟨rfl, rfl⟩ := trodVars_none hV
  obtain ⟨a0, rfl, rfl, rfl, w0⟩ := open_int Try.underlying5 (hval 0 5 v0 rfl rfl) h0
  obtain ⟨a1, rfl, rfl, rfl, w1⟩ := open_int Try.underlying5 (hval 1 5 v1 rfl rfl) h1
  obtain ⟨a2, rfl, rfl, rfl, w2⟩ := open_int Try.underlying22 (hval 2 22 v2 rfl rfl) h2
  obtain ⟨a3, len3, cap3, rfl⟩ := okWide_slice Try.underlying23 (hval 3 23 v3 rfl rfl)
  have k3 := h3
  have lt3 : ∀ x ∈ p3, x.block < W.heap.size := by obtain ⟨m, hm⟩ := k3; exact DataW.trod_lt m _ _ _ hm
  obtain ⟨fuel, hf⟩ := h3
  obtain ⟨sp, s1, s2, s3, s4⟩ := open_spoken (by simpa [Value.cells] using hf)
  clear hA0 hval0
  refine (commanded a0 a1 a2 (bounds_u8 w0) (bounds_u8 w1) (bounds_u16 w2) a3 len3 cap3 sp s1 s2 s3 W s4).mono fun e W' ⟨he, hst⟩ => ?_
  subst he
  have bel : Below W.heap.size W W' := ⟨hst.os, hst.tape, hst.output, hst.size, fun k hk => hst.keep k hk (fun h => h)⟩
  exact ⟨_, rfl, _, _, _, [], _, [], hW', trodAll_mk1 (shut_bool Try.underlying4 _), (trodAll_cons_mk (shut_int Try.underlying5 w0) (trodAll_cons_mk (shut_int Try.underlying5 w1) (trodAll_cons_mk (shut_int Try.underlying22 w2) (trodAll_cons_mk (Below.trod laidOut (by kernel_rfl) (of_decide_eq_true (by kernel_rfl)) k3 bel lt3) trodAll_mk0)))), rfl, bel.frame _, fun h => by cases h⟩

/-- cressettop.WholeCommanded: whatever the input: true; the input reads as it did. -/
theorem x_holds : Rows.WholeCommandedSaid :=
  OpenClaim.holds_of_wide 3 Try.f3 rfl rfl rfl rfl rfl rfl rfl ⟨rfl, rfl, rfl, rfl, rfl⟩ rfl rfl rfl rfl rfl (by kernel_rfl) Try.func3 (by kernel_rfl)
    (of_decide_eq_true (by kernel_rfl)) (by unfold Func.isWrapper; first | (rw [if_pos (by decide +kernel)]; kernel_rfl) | (rw [if_neg (by decide +kernel)]; exact ⟨rfl, rfl⟩))
    (fun os started H enc _ => lifted os started H enc)
#print axioms x_holds
end Go.Proofs.Ytpmnbenmjkeacaa
