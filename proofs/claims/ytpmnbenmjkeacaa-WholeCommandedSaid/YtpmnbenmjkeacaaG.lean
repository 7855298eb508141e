/- A part of the proof of this claim's statement: contracts and walks. -/
import Derived.Test.YtpmnbenmjkeacaaF
set_option linter.unusedVariables false
set_option linter.unusedSimpArgs false
set_option maxHeartbeats 1000000
namespace Go.Proofs.Ytpmnbenmjkeacaa
open Go Go.RowKit Go.Sep
theorem en4 : EntersF Try.prog 4 := Go.Proofs.enters_of Try.func4 (by kernel_rfl) rfl
theorem en6 : EntersF Try.prog 6 := Go.Proofs.enters_of Try.func6 (by kernel_rfl) rfl
theorem en7 : EntersF Try.prog 7 := Go.Proofs.enters_of Try.func7 (by kernel_rfl) rfl
theorem sl31 : SlS Try.prog 31 33 1 := .of (by kernel_rfl)
theorem el33 : ElS Try.prog 33 (.pointer none) 1 8 := ⟨by kernel_rfl, rfl⟩
theorem bd39 : BdS Try.prog 39 [.int .i64 0, .int .i64 0, .int .i64 0, .map none] [(0, 1), (1, 1), (2, 1), (3, 1)] := .of (by kernel_rfl) (by kernel_rfl)
theorem sl32 : SlS Try.prog 32 36 1 := .of (by kernel_rfl)
theorem el36 : ElS Try.prog 36 (.pointer none) 1 8 := ⟨by kernel_rfl, rfl⟩
theorem sl23 : SlS Try.prog 23 43 3 := .of (by kernel_rfl)
theorem ty43 : TyS Try.prog 43 true 3 := .of (by kernel_rfl)
theorem el43 : ElS Try.prog 43 (.agg #[.int .u8 0, .int .u8 0, .int .u8 0]) 3 3 := ⟨by kernel_rfl, rfl⟩
theorem fd43_1 : FdS Try.prog 43 1 false 1 1 := .of (by kernel_rfl)
theorem ty5 : TyS Try.prog 5 false 1 := .of (by kernel_rfl)
theorem ty33 : TyS Try.prog 33 false 1 := .of (by kernel_rfl)
theorem ty36 : TyS Try.prog 36 false 1 := .of (by kernel_rfl)
theorem fd43_0 : FdS Try.prog 43 0 false 0 1 := .of (by kernel_rfl)
theorem fd39_1 : FdS Try.prog 39 1 false 1 1 := .of (by kernel_rfl)
theorem fd39_3 : FdS Try.prog 39 3 false 3 1 := .of (by kernel_rfl)
theorem ty37 : TyS Try.prog 37 false 1 := .of (by kernel_rfl)
theorem fd39_0 : FdS Try.prog 39 0 false 0 1 := .of (by kernel_rfl)
theorem en8 : EntersF Try.prog 8 := Go.Proofs.enters_of Try.func8 (by kernel_rfl) rfl
theorem eqg45 : Try.prog.eqGuardType Try.prog.depth 45 = false := by kernel_rfl
theorem fT45 : fieldsT Try.prog 45 = [(false, 0, some (.int .i64)), (false, 1, some (.int .i64)), (false, 2, some (.int .i64))] := by kernel_rfl
theorem eq45 (a0 b0 : Int) (a1 b1 : Int) (a2 b2 : Int) (w : World) : (Op.equalIn 10000 45 (.agg #[.int .i64 a0, .int .i64 a1, .int .i64 a2]) (.agg #[.int .i64 b0, .int .i64 b1, .int .i64 b2])).run Try.prog w = .ok ((a0 == b0 && (a1 == b1 && (a2 == b2 && true)))) w := run_eqStruct (by kernel_rfl) (by kernel_rfl) fT45 (.cons .int (.cons .int (.cons .int .nil))) w
theorem sl41 : SlS Try.prog 41 45 3 := .of (by kernel_rfl)
theorem fd43_2 : FdS Try.prog 43 2 false 2 1 := .of (by kernel_rfl)
theorem en9 : EntersF Try.prog 9 := Go.Proofs.enters_of Try.func9 (by kernel_rfl) rfl
theorem fd39_2 : FdS Try.prog 39 2 false 2 1 := .of (by kernel_rfl)
theorem en10 : EntersF Try.prog 10 := Go.Proofs.enters_of Try.func10 (by kernel_rfl) rfl
theorem en11 : EntersF Try.prog 11 := Go.Proofs.enters_of Try.func11 (by kernel_rfl) rfl
theorem en12 : EntersF Try.prog 12 := Go.Proofs.enters_of Try.func12 (by kernel_rfl) rfl
theorem en13 : EntersF Try.prog 13 := Go.Proofs.enters_of Try.func13 (by kernel_rfl) rfl
theorem en14 : EntersF Try.prog 14 := Go.Proofs.enters_of Try.func14 (by kernel_rfl) rfl
theorem en15 : EntersF Try.prog 15 := Go.Proofs.enters_of Try.func15 (by kernel_rfl) rfl
theorem en16 : EntersF Try.prog 16 := Go.Proofs.enters_of Try.func16 (by kernel_rfl) rfl
theorem en17 : EntersF Try.prog 17 := Go.Proofs.enters_of Try.func17 (by kernel_rfl) rfl
theorem en18 : EntersF Try.prog 18 := Go.Proofs.enters_of Try.func18 (by kernel_rfl) rfl
theorem en19 : EntersF Try.prog 19 := Go.Proofs.enters_of Try.func19 (by kernel_rfl) rfl
theorem en20 : EntersF Try.prog 20 := Go.Proofs.enters_of Try.func20 (by kernel_rfl) rfl
def unitL (long : Int) (u : Un) : List Ent := [boxE u.bN 70 [.int .i64 u.clock, .bool true, .int .i64 u.id, .int .i64 long, .int .i64 u.en, .int .i64 u.num, .slice u.A u.asks.length u.c], ownE u.A u.asks.length u.c 77 2 (u.asks.map (fun p : Int × Int => [Value.int .i64 p.1, Value.int .i64 p.2])), boxE u.bS 39 [.int .i64 u.clock, .int .i64 u.num, .int .i64 u.en, .map (some u.mb)], mapE (Value.int .i64) u.mb (askM u.asks)]
def unitE (long : Int) (u : Un) : Ent := allE (unitL long u)
theorem without_idem (k : Int) (l : List Int) : Sep.without k (Sep.without k l) = Sep.without k l := by simp [Sep.without, List.filter_filter]
def ptrN (us : List Un) : List (List Value) := us.map fun u => [Value.pointer (some ⟨u.bN, 0, none⟩)]
def ptrS (us : List Un) : List (List Value) := us.map fun u => [Value.pointer (some ⟨u.bS, 0, none⟩)]
def wordC (ws : List (Int × Int × Int)) : List (List Value) := ws.map fun p => [Value.int .i64 p.1, Value.int .i64 p.2.1, Value.int .i64 p.2.2]
def glC (gl : List Int) : List (List Value) := gl.map fun g => [Value.int .i64 g]
theorem ptrN_get {us us0 : List Un} {k : Nat} {u : Un} (hm : us.map Un.bN = us0.map Un.bN) (hu : us[k]? = some u) : (ptrN us0)[k]? = some [Value.pointer (some ⟨u.bN, 0, none⟩)] := by
  have h1 := congrArg (·[k]?) hm
  simp only [List.getElem?_map, hu, Option.map_some] at h1
  unfold ptrN
  rw [List.getElem?_map]
  cases h0 : us0[k]? with
  | none => rw [h0] at h1; cases h1
  | some v => rw [h0] at h1; simp only [Option.map_some, Option.some.injEq] at h1 ⊢; rw [h1]
theorem ptrS_get {us us0 : List Un} {k : Nat} {u : Un} (hm : us.map Un.bS = us0.map Un.bS) (hu : us[k]? = some u) : (ptrS us0)[k]? = some [Value.pointer (some ⟨u.bS, 0, none⟩)] := by
  have h1 := congrArg (·[k]?) hm
  simp only [List.getElem?_map, hu, Option.map_some] at h1
  unfold ptrS
  rw [List.getElem?_map]
  cases h0 : us0[k]? with
  | none => rw [h0] at h1; cases h1
  | some v => rw [h0] at h1; simp only [Option.map_some, Option.some.injEq] at h1 ⊢; rw [h1]
theorem setB {us us0 : List Un} {f : Un → Nat} {k : Nat} {u v : Un} (hm : us.map f = us0.map f) (hu : us[k]? = some u) (hf : f v = f u) : (us.set k v).map f = us0.map f := by
  rw [List.map_set, hf, ← hm]
  apply List.ext_getElem?
  intro j
  rw [List.getElem?_set]
  split
  · rename_i h
    subst h
    have hlt := (List.getElem?_eq_some_iff.1 hu).1
    simp [hlt, hu]
    exact congrArg f (List.getElem?_eq_some_iff.1 hu).2.symm
  · rfl
theorem unit_at {long : Int} {us : List Un} {k : Nat} {u : Un} (hu : us[k]? = some u) : (us.map (unitE long))[k]? = some (allE (unitL long u)) := by simp [hu, unitE]
theorem unit_set {long : Int} {us : List Un} {k : Nat} {v : Un} {L : List Ent} (h : L = unitL long v) : (us.map (unitE long)).set k (allE L) = (us.set k v).map (unitE long) := by rw [List.map_set, h]; rfl
theorem unit_same {long : Int} {us : List Un} {k : Nat} {u : Un} {L : List Ent} (hu : us[k]? = some u) (h : L = unitL long u) : (us.map (unitE long)).set k (allE L) = us.map (unitE long) := by
  rw [unit_set h]
  congr 1
  obtain ⟨hlt, he⟩ := List.getElem?_eq_some_iff.1 hu
  rw [← he]
  exact List.set_getElem_self hlt
def Fresh (us : List Un) : Prop := ∀ (i : Nat) (u : Un), us[i]? = some u → u.clock = 0 ∧ u.num = 0 ∧ u.en = 0 ∧ u.id = (i : Int) + 1 ∧ u.asks = []
theorem Fresh.add {us : List Un} (h : Fresh us) {v : Un} (hv : v.clock = 0 ∧ v.num = 0 ∧ v.en = 0 ∧ v.id = (us.length : Int) + 1 ∧ v.asks = []) : Fresh (us ++ [v]) := fun i u hu => by
  rw [List.getElem?_append] at hu
  split at hu
  · exact h i u hu
  · rename_i hlt
    have : i - us.length = 0 := by
      rcases Nat.eq_zero_or_pos (i - us.length) with h0 | h0
      · exact h0
      · rw [List.getElem?_eq_none (by simp; omega)] at hu; cases hu
    rw [this] at hu
    have hu : v = u := by simpa using hu
    have : i = us.length := by omega
    subst this; subst hu; exact hv
theorem okInit {nn : Nat} {long : Int} (hl : 0 ≤ long) {us : List Un} (hlen : us.length = nn) (hf : Fresh us) : Ok nn long 0 0 ⟨0, 0, 0, 0, 0, List.replicate (nn + 1) 0, us, []⟩ where
  gllen := by simp
  uslen := hlen
  wslen := by simp
  ids := fun i u hu => (hf i u hu).2.2.2.1
  clk := ⟨Int.le_refl _, Int.le_refl _⟩
  snc := ⟨Int.le_refl _, Int.le_refl _⟩
  wnt := ⟨Int.le_refl _, by dsimp only; omega⟩
  lse := ⟨by dsimp only; omega, by dsimp only; omega⟩
  glb := fun i g hg => by
    have := List.eq_of_mem_replicate (List.mem_of_getElem? hg)
    omega
  un := fun i u hu => by
    obtain ⟨h1, h2, h3, _, h5⟩ := hf i u hu
    refine ⟨by omega, by omega, by omega, fun p hp => ?_, ?_, ?_⟩
    · rw [h5] at hp; cases hp
    · rw [h5]; exact .nil
    · rw [h5]; simp
  wok := fun _ _ _ h => by cases h
  wnum := fun _ _ _ h => by cases h
  grants := fun _ _ h => by cases h
  rets := fun _ _ h => by cases h
  hold := ⟨0, fun i u hu e he => by
    obtain ⟨h1, h2, h3, _, h5⟩ := hf i u hu
    rcases he with he | ⟨m, a, ha, _⟩
    · exact .inl (by omega)
    · rw [h5] at ha; cases ha⟩
theorem cnt_succ {us : List Un} {i : Nat} {u : Un} (hu : us[i]? = some u) : ((us.take (i + 1)).filter Un.holds).length = ((us.take i).filter Un.holds).length + (if u.clock < u.en then 1 else 0) := by
  rw [List.take_add_one, hu, List.filter_append, List.length_append]
  congr 1
  by_cases h : u.clock < u.en <;> simp [Un.holds, h]
set_option maxRecDepth 100000 in
theorem commanded (nodes term slow : Int) (h1 : 0 ≤ nodes ∧ nodes ≤ 255) (h2 : 0 ≤ term ∧ term ≤ 255) (h3 : 0 ≤ slow ∧ slow ≤ 65535) (Al : Option Addr) (ln lc : Nat) (sp : List (Int × Int × Int)) (hsp : ∀ p ∈ sp, (0 ≤ p.1 ∧ p.1 ≤ 255) ∧ (0 ≤ p.2.1 ∧ p.2.1 ≤ 255) ∧ 0 ≤ p.2.2 ∧ p.2.2 ≤ 255) (hlc : ln ≤ lc) (hsl : sp.length = ln) (w : World) (hin : 0 < ln → In w (slE Al ln lc 3 (sp.map fun p => [Value.int .u8 p.1, Value.int .u8 p.2.1, Value.int .u8 p.2.2]))) : Calls Try.prog 3 #[.int .u8 nodes, .int .u8 term, .int .u16 slow, .slice Al ln lc] w (Ans w (.bool true)) := by
 have e1 : nodes.tmod 4 = nodes % 4 := Int.tmod_eq_emod_of_nonneg h1.1
 have e2 : term.tmod 40 = term % 40 := Int.tmod_eq_emod_of_nonneg h2.1
 have e3 : slow.tmod 1001 = slow % 1001 := Int.tmod_eq_emod_of_nonneg h3.1
 obtain ⟨nn, hnn, hnn1, hnn4⟩ : ∃ nn : Nat, 1 + nodes.tmod 4 = (nn : Int) ∧ 1 ≤ nn ∧ nn ≤ 4 := ⟨(1 + nodes.tmod 4).toNat, by omega, by omega, by omega⟩
 obtain ⟨long, hlong, hl1⟩ : ∃ long, 1 + term.tmod 40 = long ∧ 1 ≤ long ∧ long ≤ 40 := ⟨_, rfl, by omega⟩
 obtain ⟨late, hlate, hl2⟩ : ∃ late, slow.tmod 1001 = late ∧ 0 ≤ late ∧ late ≤ 1000 := ⟨_, rfl, by omega⟩
 have hp1 : long * 1000 ≤ long * (1000 + late) := Int.mul_le_mul_of_nonneg_left (by omega) (by omega)
 have hp2 : long * (1000 + late) ≤ 40 * (1000 + late) := Int.mul_le_mul_of_nonneg_right (by omega) (by omega)
 obtain ⟨W, hW, hWl, hWu⟩ : ∃ W, (long * (1000 + late) + 1000 - 1) / 1000 + 1 = W ∧ long < W ∧ W ≤ 100000 := ⟨_, rfl, by omega, by omega⟩
 obtain ⟨lim, hlim, hlim2, hlim3⟩ : ∃ lim : Nat, min ln 80 = lim ∧ lim ≤ ln ∧ lim ≤ 80 := ⟨_, rfl, by omega, by omega⟩
 obtain ⟨A2, hA2⟩ : ∃ A2, (if lc - 0 = 0 then Al else Al.map (·.add (0 * 3))) = A2 := ⟨_, rfl⟩
 obtain ⟨c2, hc2⟩ : ∃ c2, lc - 0 = c2 := ⟨_, rfl⟩
 refine calls_args Try.func3 rfl 625 Try.ntmps3 rfl (St.refl _ no) ?_
 refine tr_kp .all ?_
 refine tr_seq ?_
 -- region 0
 refine tr_plain ?_
 refine r_assign .none (.c _ _) rfl rfl ?_
 refine tl_nil ?_
 refine qt_then ?_
 refine tr_seq ?_
 -- region 1
 refine tr_plain ?_
 refine r_move .none (.t m1) rfl rfl ?_
 refine r_rem .none (.t m0) (.c _ _) (fun _ => by omega) rfl rfl ?_
 refine r_conv _ Try.underlying5 Try.underlying3 .none (.t m0) (fun _ => IntWalk.i64_in _ (by omega)) rfl rfl ?_
 refine r_add .none (.c _ _) (.t m0) (fun _ => by omega) rfl rfl ?_
 refine r_move .none (.t m6) rfl rfl ?_
 refine r_rem .none (.t m0) (.c _ _) (fun _ => by omega) rfl rfl ?_
 refine r_conv _ Try.underlying5 Try.underlying3 .none (.t m0) (fun _ => IntWalk.i64_in _ (by omega)) rfl rfl ?_
 refine r_add .none (.c _ _) (.t m0) (fun _ => by omega) rfl rfl ?_
 refine r_move .none (.t m11) rfl rfl ?_
 refine r_rem .none (.t m0) (.c _ _) (fun _ => by omega) rfl rfl ?_
 refine r_conv _ Try.underlying22 Try.underlying3 .none (.t m0) (fun _ => IntWalk.i64_in _ (by omega)) rfl rfl ?_
 refine r_assign .none (.t m7) rfl rfl ?_
 refine tl_valh (v' := .int .i64 (nn : Int)) (by rw [hnn]) ?_
 refine r_assign .none (.t m4) rfl rfl ?_
 refine tl_valh (v' := .int .i64 long) (by rw [hlong]) ?_
 refine r_assign .none (.t m2) rfl rfl ?_
 refine tl_valh (v' := .int .i64 late) (by rw [hlate]) ?_
 refine tl_nil ?_
 refine qt_kp (.k (.k (.k (.d (.d (.d (.d (.d (.d (.d (.d (.d (.d (.d (.k (.d (.d (.d .all)))))))))))))))))) ?_
 refine qt_then ?_
 refine tr_seq ?_
 -- region 2
 refine tr_plain ?_
 refine r_move .none (.t m2) rfl rfl ?_
 refine r_move .none (.t m2) rfl rfl ?_
 refine r_move .none (.t m2) rfl rfl ?_
 refine r_call _ _ _ en4 .none (.f _ _) (.cons (.t m2) (.cons (.t m1) (.cons (.t m0) .nil))) (fun w hw => call_grow (NewCentre_new nn long late ⟨hnn1, by omega⟩ (by omega) w) hw) (fun _ _ _ _ => trivial) rfl rfl ?_
 rintro ⟨b, bg, mb⟩ _; dsimp only
 refine r_move .none (.t m0) rfl rfl ?_
 refine r_extract .none (.t m0) rfl rfl rfl ?_
 refine r_extract .none (.t m1) rfl rfl rfl ?_
 refine r_assign .none (.t m1) rfl rfl ?_
 refine r_assign .none (.t m1) rfl rfl ?_
 refine tl_nil ?_
 refine qt_kp (.k (.k (.d (.d (.d (.d (.d (.d (.d .all))))))))) ?_
 refine qt_eq (y := boxE b 64 [.int .i64 0, .int .i64 0, .int .i64 0, .int .i64 0, .bool true, .int .i64 W, .int .i64 0, .slice (some ⟨bg, 0, none⟩) (nn + 1) (nn + 1), .map (some mb)]) .hd (by rw [hW]) ?_
 refine qt_then ?_
 refine tr_seq ?_
 -- region 3
 refine tr_plain ?_
 refine r_move .none (.t m3) rfl rfl ?_
 refine r_move .none (.t m3) rfl rfl ?_
 refine r_ans en5 .none (.f _ _) (.cons (.t m1) (.cons (.t m0) .nil)) (fun hg w hw => wait_ans long late w (by omega)) (fun _ _ => trivial) rfl rfl ?_
 refine r_move .none (.t m0) rfl rfl ?_
 refine r_extract .none (.t m0) rfl rfl rfl ?_
 refine r_extract .none (.t m1) rfl rfl rfl ?_
 refine r_assign .none (.t m1) rfl rfl ?_
 refine tl_valh (v' := .int .i64 W) (by rw [hW]) ?_
 refine r_assign .none (.t m1) rfl rfl ?_
 refine tl_nil ?_
 refine qt_kp (.k (.k (.d (.d (.d (.d (.d (.d .all)))))))) ?_
 refine qt_then ?_
 refine tr_seq ?_
 -- region 4
 refine tr_plain ?_
 refine r_move .none (.t m5) rfl rfl ?_
 refine r_move .none (.t m5) rfl rfl ?_
 refine r_add .none (.c _ _) (.t m0) (fun _ => by omega) rfl rfl ?_
 refine r_mul .none (.t m2) (.t m0) (fun _ => by omega) rfl rfl ?_
 refine r_ans en6 .none (.f _ _) (.cons (.t m0) (.cons (.c _ _) .nil)) (fun hg w hw => upped_ans _ _ w (by omega) (by omega) (by omega) (by omega)) (fun _ _ => trivial) rfl rfl ?_
 refine r_add .none (.t m0) (.c _ _) (fun _ => by omega) rfl rfl ?_
 refine r_assign .none (.t m0) rfl rfl ?_
 refine tl_valh (v' := .int .i64 W) (by rw [hW]) ?_
 refine tl_nil ?_
 refine qt_kp (.k (.d (.d (.d (.d (.d (.d (.k (.k (.k (.k (.d .all)))))))))))) ?_
 refine qt_then ?_
 refine tr_seq ?_
 refine tr_seq ?_
 -- region 5
 refine tr_plain ?_
 refine r_move .none (.t m3) rfl rfl ?_
 refine r_neq .none (.t m0) (.c _ _) rfl rfl ?_
 refine r_move .none (.t m0) rfl rfl ?_
 refine r_move (.neg rfl m0) (.t m4) rfl rfl ?_
 refine r_neq (.neg rfl m1) (.s m0) (.c _ _) rfl rfl ?_
 refine r_or .none (.t m2) (.s m0) rfl rfl ?_
 refine r_move .none (.t m0) rfl rfl ?_
 refine r_move (.neg rfl m0) (.t m11) rfl rfl ?_
 refine r_eqlNil Try.underlying24 (.neg rfl m1) (.s m0) rfl rfl ?_
 refine r_or .none (.t m2) (.s m0) rfl rfl ?_
 refine r_move .none (.t m0) rfl rfl ?_
 refine r_move (.neg rfl m0) (.t m13) rfl rfl ?_
 refine r_move (.neg rfl m1) (.t m12) rfl rfl ?_
 refine r_neq (.neg rfl m2) (.s m1) (.s m0) rfl rfl ?_
 refine r_or .none (.t m3) (.s m0) rfl rfl ?_
 refine tl_nil ?_
 refine qt_kp (.k (.d (.d (.d (.d (.d (.d (.d (.d (.d (.d (.d (.d (.d (.d (.d .all)))))))))))))))) ?_
 refine qt_then ?_
 -- c0
 refine tr_cond (.t m0) (fun hc0 => ?_) (fun hc0 => ?_)
 · exfalso; first | (simp at hc0; done) | (simp only [Bool.and_eq_true, Bool.or_eq_true, Bool.not_eq_true', Bool.not_eq_false', Bool.and_eq_false_iff, Bool.or_eq_false_iff, decide_eq_true_eq, decide_eq_false_iff_not, beq_iff_eq, Bool.not_eq_true, Bool.not_eq_false] at hc0; omega) | (simp at hc0; omega)
 ·
  try simp only [Bool.and_eq_true, Bool.or_eq_true, Bool.not_eq_true', Bool.not_eq_false', Bool.and_eq_false_iff, Bool.or_eq_false_iff, decide_eq_true_eq, decide_eq_false_iff_not, beq_iff_eq, Bool.not_eq_true, Bool.not_eq_false] at hc0
  refine tr_skip ?_
  refine qt_then ?_
  refine tr_seq ?_
  -- region 7
  refine tr_plain ?_
  refine r_assign .none (.c _ _) rfl rfl ?_
  refine tl_nil ?_
  refine qt_kp (.k (.d .all)) ?_
  refine qt_then ?_
  refine tr_seq ?_
  -- region 8
  refine tr_plain ?_
  refine r_assign .none (.c _ _) rfl rfl ?_
  refine tl_nil ?_
  refine qt_then ?_
  refine tr_seq ?_
  refine tr_seq ?_
  -- region 9
  refine tr_plain ?_
  refine r_move .none (.t m7) rfl rfl ?_
  refine r_move .none (.c _ _) rfl rfl ?_
  refine tl_nil ?_
  refine qt_then ?_
  refine tr_block ?_
  refine tr_ownnil 33 1 ?_
  refine tr_ownnil 36 1 ?_
  refine tr_allnil ?_
  refine tr_loop6 (fun (k : Nat) (us : List Un) (Aa : Option Addr) (As : Option Addr) (ca : Nat) (csx : Nat) => [(8, true, .bool false), (9, true, .int .i64 (nn : Int)), (10, true, .int .i64 long), (3, true, .slice Al ln lc), (12, true, .pointer (some ⟨b, 0, none⟩)), (14, true, .int .i64 W), (17, true, .slice Aa k ca), (18, true, .slice As k csx), (101, true, .int .i64 (nn : Int)), (102, true, .int .i64 (k : Int))]) (fun (k : Nat) (us : List Un) (Aa : Option Addr) (As : Option Addr) (ca : Nat) (csx : Nat) => [boxE b 64 [.int .i64 0, .int .i64 0, .int .i64 0, .int .i64 0, .bool true, .int .i64 W, .int .i64 0, .slice (some ⟨bg, 0, none⟩) (nn + 1) (nn + 1), .map (some mb)], ownE (some ⟨bg, 0, none⟩) (nn + 1) (nn + 1) 3 1 ((glC (List.replicate (nn + 1) 0))), mapE (Value.int .i64) mb [(1, .func (.func 22) #[.pointer (some ⟨b, 0, none⟩)] #[]), (3, .func (.func 23) #[.pointer (some ⟨b, 0, none⟩)] #[])], ownE Aa k ca 33 1 (ptrN us), ownE As k csx 36 1 (ptrS us), allE (us.map (unitE long))]) (fun (k : Nat) (us : List Un) (Aa : Option Addr) (As : Option Addr) (ca : Nat) (csx : Nat) => us.length = k ∧ k ≤ nn ∧ Fresh us) (fun (k : Nat) (us : List Un) (Aa : Option Addr) (As : Option Addr) (ca : Nat) (csx : Nat) => nn - k) 0 [] none none 0 0 (⟨rfl, Nat.zero_le _, fun _ _ h => by cases h⟩) (subCons (mca m10) (subCons (mca m9) (subCons (mca m8) (subCons (mca m11) (subCons (mca m7) (subCons (mca m5) (subCons (mca m3) (subCons (mca m2) (subCons (mca m1) (subCons (mca m0) subNil)))))))))) (Pm.perm (by repeat (first | exact .nil | refine .cons (by repeat (first | exact .hd | apply Take.tl)) ?_))) ?_
  intro k us Aa As ca csx hI
  refine tr_seq ?_
  -- region 10
  refine tr_plain ?_
  refine r_lss .none (.t m9) (.t m8) rfl rfl ?_
  refine tl_nil ?_
  refine qt_then ?_
  refine tr_seq ?_
  -- c1
  refine tr_cond (.t m0) (fun hc1 => ?_) (fun hc1 => ?_)
  ·
   try simp only [Bool.and_eq_true, Bool.or_eq_true, Bool.not_eq_true', Bool.not_eq_false', Bool.and_eq_false_iff, Bool.or_eq_false_iff, decide_eq_true_eq, decide_eq_false_iff_not, beq_iff_eq, Bool.not_eq_true, Bool.not_eq_false] at hc1
   refine tr_skip ?_
   refine qt_then ?_
   refine tr_seq ?_
   refine tr_block ?_
   refine tr_seq ?_
   -- region 11
   refine tr_plain ?_
   refine r_move .none (.t m10) rfl rfl ?_
   refine r_assign .none (.t m0) rfl rfl ?_
   refine tl_nil ?_
   refine qt_then ?_
   refine tr_seq ?_
   -- region 12
   refine tr_plain ?_
   refine r_move .none (.t m0) rfl rfl ?_
   refine r_add .none (.t m0) (.c _ _) (fun _ => by omega) rfl rfl ?_
   refine r_move .none (.t m7) rfl rfl ?_
   refine r_call _ _ _ en7 .none (.f _ _) (.cons (.t m1) (.cons (.t m0) .nil)) (fun w hw => call_grow (NewNode_new ((k : Int) + 1) long (by omega) w) hw) (fun _ _ _ _ => trivial) rfl rfl ?_
   rintro bN _; dsimp only
   refine r_move .none (.t m0) rfl rfl ?_
   refine r_extract .none (.t m0) rfl rfl rfl ?_
   refine r_extract .none (.t m1) rfl rfl rfl ?_
   refine r_assign .none (.t m1) rfl rfl ?_
   refine r_assign .none (.t m1) rfl rfl ?_
   refine tl_nil ?_
   refine qt_then ?_
   refine tr_seq ?_
   refine tr_seq ?_
   -- region 13
   refine tr_plain ?_
   refine r_move .none (.t m0) rfl rfl ?_
   refine r_neq .none (.t m0) (.c _ _) rfl rfl ?_
   refine r_move .none (.t m0) rfl rfl ?_
   refine r_move (.neg rfl m0) (.t m4) rfl rfl ?_
   refine r_eqlNil Try.underlying33 (.neg rfl m1) (.s m0) rfl rfl ?_
   refine r_or .none (.t m2) (.s m0) rfl rfl ?_
   refine tl_nil ?_
   refine qt_then ?_
   -- c2
   refine tr_cond (.t m0) (fun hc2 => ?_) (fun hc2 => ?_)
   · exfalso; first | (simp at hc2; done) | (simp only [Bool.and_eq_true, Bool.or_eq_true, Bool.not_eq_true', Bool.not_eq_false', Bool.and_eq_false_iff, Bool.or_eq_false_iff, decide_eq_true_eq, decide_eq_false_iff_not, beq_iff_eq, Bool.not_eq_true, Bool.not_eq_false] at hc2; omega) | (simp at hc2; omega)
   ·
    try simp only [Bool.and_eq_true, Bool.or_eq_true, Bool.not_eq_true', Bool.not_eq_false', Bool.and_eq_false_iff, Bool.or_eq_false_iff, decide_eq_true_eq, decide_eq_false_iff_not, beq_iff_eq, Bool.not_eq_true, Bool.not_eq_false] at hc2
    refine tr_skip ?_
    refine qt_then ?_
    -- region 15
    refine tr_plain ?_
    refine r_move .none (.t m24) rfl rfl ?_
    refine r_move .none (.t m8) rfl rfl ?_
    refine r_buildSlice [[_]] sl31 el33 rfl rfl .none (.cons (.t m0) .nil) rfl rfl rfl (fun _ _ _ => trivial) rfl rfl (fun b120 => ?_)
    refine r_append sl31 el33 .none (.t m2) (.t m0) (Take.perm (by repeat (first | exact .hd | apply Take.tl))) (fun w hw => ownE_sl (hw.in_ (by repeat (first | exact hd | apply tl)))) rfl (by simp only [maxLen]; omega) (by omega) (fun _ _ _ _ => trivial) rfl rfl (fun A121 c121 => ?_)
    refine r_move .none (.t m29) rfl rfl ?_
    refine r_makeMap (Value.int .i64) .none (fun _ _ _ => trivial) rfl rfl (fun mb123 => ?_)
    refine r_build [_, _, _, _] bd39 .none (.cons (.t m0) .nil) rfl rfl rfl ?_
    refine r_box [_, _, _, _] .none (.t m0) rfl (fun _ _ _ => trivial) rfl rfl (fun b125 => ?_)
    refine r_buildSlice [[_]] sl32 el36 rfl rfl .none (.cons (.t m0) .nil) rfl rfl rfl (fun _ _ _ => trivial) rfl rfl (fun b126 => ?_)
    refine r_append sl32 el36 .none (.t m4) (.t m0) (Take.perm (by repeat (first | exact .hd | apply Take.tl))) (fun w hw => ownE_sl (hw.in_ (by repeat (first | exact hd | apply tl)))) rfl (by simp only [maxLen]; omega) (by omega) (fun _ _ _ _ => trivial) rfl rfl (fun A127 c127 => ?_)
    refine tl_kp (.k (.k (.k (.k (.k (.k (.k (.k (.k (.k (.k (.k (.k (.k (.k (.k (.k (.k (.k (.k (.k (.k (.k (.k (.k (.k (.k (.k (.k (.k (.k (.k (.k (.k (.d .all))))))))))))))))))))))))))))))))))) ?_
    refine r_assign .none (.t m6) rfl rfl ?_
    refine tl_kp (.k (.k (.k (.k (.k (.k (.k (.k (.k (.k (.k (.k (.k (.k (.k (.k (.k (.k (.k (.k (.k (.k (.k (.k (.k (.k (.k (.k (.k (.k (.k (.k (.k (.k (.k (.d .all)))))))))))))))))))))))))))))))))))) ?_
    refine r_assign .none (.t m1) rfl rfl ?_
    refine tl_nil ?_
    refine qt_ownnil 77 2 ?_
    refine qt_push4 (Es' := (us ++ [(⟨0, 0, 0, (k : Int) + 1, [], bN, b125, 0, mb123, none⟩ : Un)]).map (unitE long)) (.cons (.tl (.tl (.tl (.tl (.tl (.tl (.tl .hd))))))) (.cons .hd (.cons (.tl (.tl .hd)) (.cons (.tl (.tl .hd)) (.cons (.tl (.tl (.tl (.tl (.tl (.tl (.tl .hd))))))) .nil))))) (by rw [List.map_append]; rfl) ?_
    refine qt_eq (y := ownE A121 (k + 1) c121 33 1 (ptrN (us ++ [(⟨0, 0, 0, (k : Int) + 1, [], bN, b125, 0, mb123, none⟩ : Un)]))) (.tl (.tl (.tl .hd))) (by simp [ptrN]) ?_
    refine qt_eq (y := ownE A127 (k + 1) c127 36 1 (ptrS (us ++ [(⟨0, 0, 0, (k : Int) + 1, [], bN, b125, 0, mb123, none⟩ : Un)]))) (.tl (.tl .hd)) (by simp [ptrS]) ?_
    refine qt_block ?_
    refine qt_then ?_
    -- region 16
    refine tr_plain ?_
    refine r_add .none (.t m37) (.c _ _) (fun _ => by omega) rfl rfl ?_
    refine tl_kp (.k (.k (.k (.k (.k (.k (.k (.k (.k (.k (.k (.k (.k (.k (.k (.k (.k (.k (.k (.k (.k (.k (.k (.k (.k (.k (.k (.k (.k (.k (.k (.k (.k (.k (.k (.k (.k (.k (.d .all))))))))))))))))))))))))))))))))))))))) ?_
    refine r_move .none (.t m0) rfl rfl ?_
    refine tl_nil ?_
    refine qt_kl (.cons (.tl (.tl (.tl (.tl (.tl .hd))))) (.cons (.tl (.tl (.tl (.tl (.tl .hd))))) (.cons (.tl (.tl (.tl (.tl (.tl .hd))))) (.cons (.tl .hd) (.cons .hd (.cons .hd .nil)))))) ?_
    exact qt_round6 (Fi := fun (k : Nat) (us : List Un) (Aa : Option Addr) (As : Option Addr) (ca : Nat) (csx : Nat) => [(8, true, .bool false), (9, true, .int .i64 (nn : Int)), (10, true, .int .i64 long), (3, true, .slice Al ln lc), (12, true, .pointer (some ⟨b, 0, none⟩)), (14, true, .int .i64 W), (17, true, .slice Aa k ca), (18, true, .slice As k csx), (101, true, .int .i64 (nn : Int)), (102, true, .int .i64 (k : Int))]) (Li := fun (k : Nat) (us : List Un) (Aa : Option Addr) (As : Option Addr) (ca : Nat) (csx : Nat) => [boxE b 64 [.int .i64 0, .int .i64 0, .int .i64 0, .int .i64 0, .bool true, .int .i64 W, .int .i64 0, .slice (some ⟨bg, 0, none⟩) (nn + 1) (nn + 1), .map (some mb)], ownE (some ⟨bg, 0, none⟩) (nn + 1) (nn + 1) 3 1 ((glC (List.replicate (nn + 1) 0))), mapE (Value.int .i64) mb [(1, .func (.func 22) #[.pointer (some ⟨b, 0, none⟩)] #[]), (3, .func (.func 23) #[.pointer (some ⟨b, 0, none⟩)] #[])], ownE Aa k ca 33 1 (ptrN us), ownE As k csx 36 1 (ptrS us), allE (us.map (unitE long))]) (I := fun (k : Nat) (us : List Un) (Aa : Option Addr) (As : Option Addr) (ca : Nat) (csx : Nat) => us.length = k ∧ k ≤ nn ∧ Fresh us) (μ := fun (k : Nat) (us : List Un) (Aa : Option Addr) (As : Option Addr) (ca : Nat) (csx : Nat) => nn - k) (k + 1) (us ++ [(⟨0, 0, 0, (k : Int) + 1, [], bN, b125, 0, mb123, none⟩ : Un)]) A121 A127 c121 c127 ⟨by simp [hI.1], by omega, hI.2.2.add ⟨rfl, rfl, rfl, by rw [hI.1], rfl⟩⟩ (by omega) (subCons (mca m32) (subCons (mca m33) (subCons (mca m34) (subCons (mca m35) (subCons (mca m36) (subCons (mca m37) (subCons (mca m3) (subCons (mca m2) (subCons (mca m38) (subCons (mca m0) subNil)))))))))) (Pm.perm (by repeat (first | exact .nil | refine .cons (by repeat (first | exact .hd | apply Take.tl)) ?_)))
  ·
   try simp only [Bool.and_eq_true, Bool.or_eq_true, Bool.not_eq_true', Bool.not_eq_false', Bool.and_eq_false_iff, Bool.or_eq_false_iff, decide_eq_true_eq, decide_eq_false_iff_not, beq_iff_eq, Bool.not_eq_true, Bool.not_eq_false] at hc1
   have hk : nn = k := by omega
   subst hk
   obtain ⟨hlen, _, hfr⟩ := hI
   refine tr_exit ?_
   refine qt_then_exit ?_
   refine qt_loop_exit ?_
   refine qt_block_hit ?_
   refine qt_then ?_
   refine tr_seq ?_
   -- region 17 draws
   refine tr_ord [(0, false), (1, false), (3, false), (4, false), (2, true), (5, false)] [] _ _ (List.Sublist.refl _) (List.Sublist.refl _) mixedO (by kernel_rfl) ?_
   -- all early
   refine r_move .none (.t m2) rfl rfl ?_
   refine r_add .none (.t m0) (.c _ _) (fun _ => by omega) rfl rfl ?_
   refine r_assign .none (.c _ _) rfl rfl ?_
   refine r_assign .none (.c _ _) rfl rfl ?_
   refine r_makeSlice (n := (nn + 1)) sl40 el3 .none (.t m2) (.t m2) (by omega) (by omega) (by omega) (fun _ => keepC (.cons _ (List.Sublist.refl _))) rfl rfl (fun b131 => ?_)
   refine r_assign .none (.t m0) rfl rfl ?_
   refine tl_nil ?_
   refine qt_late (.cons _ (List.Sublist.refl _)) ?_
   refine tl_nil ?_
   refine qt_kp (.k (.d (.k (.k (.d (.d (.d (.k (.k (.k (.k (.k (.k (.k (.k (.d (.d .all))))))))))))))))) ?_
   refine qt_eq (y := ownE (some ⟨b131, 0, none⟩) (nn + 1) (nn + 1) 3 1 (glC (List.replicate (nn + 1) 0))) .hd (by unfold glC; rw [List.map_replicate]; rfl) ?_
   refine qt_then ?_
   refine tr_seq ?_
   -- region 18
   refine tr_plain ?_
   refine r_assign .none (.c _ _) rfl rfl ?_
   refine r_assign .none (.c _ _) rfl rfl ?_
   refine r_assign .none (.c _ _) rfl rfl ?_
   refine tl_nil ?_
   refine qt_then ?_
   refine tr_seq ?_
   -- region 19
   refine tr_plain ?_
   refine r_assign .none (.c _ _) rfl rfl ?_
   refine tl_nil ?_
   refine qt_then ?_
   refine tr_seq ?_
   refine tr_seq ?_
   -- region 20
   refine tr_plain ?_
   refine r_move .none (.t m10) rfl rfl ?_
   refine r_move .none (.t m11) rfl rfl ?_
   refine r_lenSl Try.underlying23 .none (.t m0) rfl rfl ?_
   refine r_minI .none (.t m0) (.c _ _) rfl rfl ?_
   refine tl_valh (v' := .int .i64 (lim : Int)) (congrArg (Value.int .i64) (by omega)) ?_
   refine r_slice (l := 0) (r := lim) sl23 .none (.t m3) rfl ⟨_, (.t m0)⟩ (fun _ => by omega) (fun _ => by omega) rfl rfl ?_
   refine tl_valh (v' := .slice A2 lim c2) (by rw [hA2, hc2, Nat.sub_zero]) ?_
   refine r_lenSl Try.underlying23 .none (.t m0) rfl rfl ?_
   refine r_move .none (.c _ _) rfl rfl ?_
   refine tl_nil ?_
   refine qt_kp (.k (.k (.k (.d (.d (.d (.d (.k (.k (.k (.k (.k (.k (.k (.k (.k (.k (.d .all)))))))))))))))))) ?_
   refine qt_then ?_
   refine tr_block ?_
   refine tr_ownnil 45 3 ?_
   refine tr_loop4 (fun (j : Nat) (s : Sy) (Aw : Option Addr) (cw : Nat) => [(8, true, .bool false), (9, true, .int .i64 (nn : Int)), (10, true, .int .i64 long), (12, true, .pointer (some ⟨b, 0, none⟩)), (14, true, .int .i64 W), (17, true, .slice Aa nn ca), (18, true, .slice As nn csx), (22, true, .int .i64 s.clock), (23, true, .int .i64 s.wants), (24, true, .slice (some ⟨b131, 0, none⟩) (nn + 1) (nn + 1)), (25, true, .int .i64 s.lease), (26, true, .int .i64 s.of), (27, true, .int .i64 s.since), (28, true, .slice Aw s.ws.length cw), (136, true, .slice A2 lim c2), (137, true, .int .i64 (lim : Int)), (138, true, .int .i64 (j : Int))]) (fun (j : Nat) (s : Sy) (Aw : Option Addr) (cw : Nat) => [boxE b 64 [.int .i64 s.clock, .int .i64 s.lease, .int .i64 s.of, .int .i64 s.since, .bool true, .int .i64 W, .int .i64 s.wants, .slice (some ⟨bg, 0, none⟩) (nn + 1) (nn + 1), .map (some mb)], ownE (some ⟨bg, 0, none⟩) (nn + 1) (nn + 1) 3 1 (glC s.gl), mapE (Value.int .i64) mb [(1, .func (.func 22) #[.pointer (some ⟨b, 0, none⟩)] #[]), (3, .func (.func 23) #[.pointer (some ⟨b, 0, none⟩)] #[])], ownE (some ⟨b131, 0, none⟩) (nn + 1) (nn + 1) 3 1 (glC s.gl), ownE Aw s.ws.length cw 45 3 (wordC s.ws), ownE Aa nn ca 33 1 (ptrN us), ownE As nn csx 36 1 (ptrS us), allE (s.us.map (unitE long))]) (fun (j : Nat) (s : Sy) (Aw : Option Addr) (cw : Nat) => j ≤ lim ∧ Ok nn long (j : Int) (13 * j : Int) s ∧ s.us.map Un.bN = us.map Un.bN ∧ s.us.map Un.bS = us.map Un.bS) (fun (j : Nat) (s : Sy) (Aw : Option Addr) (cw : Nat) => lim - j) 0 (⟨0, 0, 0, 0, 0, List.replicate (nn + 1) 0, us, []⟩) none 0 (⟨Nat.zero_le _, okInit (by omega) hlen hfr, rfl, rfl⟩) (subCons (mca m10) (subCons (mca m11) (subCons (mca m12) (subCons (mca m13) (subCons (mca m14) (subCons (mca m15) (subCons (mca m16) (subCons (mca m9) (subCons (mca m8) (subCons (mca m7) (subCons (mca m6) (subCons (mca m5) (subCons (mca m4) (subCons (mca m3) (subCons (mca m2) (subCons (mca m1) (subCons (mca m0) subNil))))))))))))))))) (Pm.perm (by repeat (first | exact .nil | refine .cons (by repeat (first | exact .hd | apply Take.tl)) ?_))) ?_
   intro j s Aw cw hI
   refine tr_seq ?_
   -- region 21
   refine tr_plain ?_
   refine r_lss .none (.t m16) (.t m15) rfl rfl ?_
   refine tl_nil ?_
   refine qt_then ?_
   refine tr_seq ?_
   -- c3
   refine tr_cond (.t m0) (fun hc3 => ?_) (fun hc3 => ?_)
   ·
    try simp only [Bool.and_eq_true, Bool.or_eq_true, Bool.not_eq_true', Bool.not_eq_false', Bool.and_eq_false_iff, Bool.or_eq_false_iff, decide_eq_true_eq, decide_eq_false_iff_not, beq_iff_eq, Bool.not_eq_true, Bool.not_eq_false] at hc3
    have hpart := slE_part (hin (by omega)) 0 lim (by omega) (by omega)
    rw [hA2, hc2, Nat.sub_zero] at hpart
    have hel2 := hpart.ro
    obtain ⟨hjl, hok, hbN, hbS⟩ := hI
    obtain ⟨⟨d0, k0, w0⟩, hsp0⟩ : ∃ p, sp[j]? = some p := ⟨_, List.getElem?_eq_getElem (by omega)⟩
    obtain ⟨hd0, hk0, hw0⟩ := hsp _ (List.mem_of_getElem? hsp0)
    dsimp only at hd0 hk0 hw0
    have hcl : (((sp.map fun p => [Value.int .u8 p.1, Value.int .u8 p.2.1, Value.int .u8 p.2.2]).take lim).drop 0)[j]? = some [Value.int .u8 d0, Value.int .u8 k0, Value.int .u8 w0] := by rw [List.drop_zero, List.getElem?_take_of_lt (by omega), List.getElem?_map, hsp0]; rfl
    obtain ⟨k, hk, hkn⟩ : ∃ k : Nat, k0.tmod (nn : Int) = (k : Int) ∧ k < nn := by
      have e4 : k0.tmod (nn : Int) = k0 % (nn : Int) := Int.tmod_eq_emod_of_nonneg hk0.1
      have e5 := Int.emod_nonneg k0 (b := (nn : Int)) (by omega)
      have e6 := Int.emod_lt_of_pos k0 (b := (nn : Int)) (by omega)
      exact ⟨(k0 % (nn : Int)).toNat, by omega, by omega⟩
    obtain ⟨u, hu⟩ : ∃ u, s.us[k]? = some u := ⟨_, List.getElem?_eq_getElem (by have := hok.uslen; omega)⟩
    have hptN := ptrN_get hbN hu
    have hptS := ptrS_get hbS hu
    have hun := hok.un k u hu
    have hid := hok.ids k u hu
    obtain ⟨d, hdd, hdb⟩ : ∃ d, d0.tmod 16 = d ∧ 0 ≤ d ∧ d ≤ 15 := ⟨_, rfl, by rw [Int.tmod_eq_emod_of_nonneg hd0.1]; omega, by rw [Int.tmod_eq_emod_of_nonneg hd0.1]; omega⟩
    obtain ⟨hwsl, hclk, hsnc, hwnt, hlse, hgll⟩ := And.intro hok.wslen (And.intro hok.clk (And.intro hok.snc (And.intro hok.wnt (And.intro hok.lse hok.gllen))))
    have hu1 := hun.clk
    have hu2 := hun.num
    have hu3 := hun.en
    have hu4 := hun.len
    refine tr_skip ?_
    refine qt_then ?_
    refine tr_seq ?_
    refine tr_block ?_
    refine tr_seq ?_
    -- region 22
    refine tr_plain ?_
    refine r_indexAddr sl23 (by first | (refine sees_l ?_; (repeat (first | exact hd | apply tl)); done) | (apply sees_own; apply sees_l; (repeat (first | exact hd | apply tl)); done) | exact sees_r (by assumption)) .none (.t m15) (.t m17) (fun _ => by omega) rfl rfl ?_
    refine r_loadEl [_, _, _] ty43 (by first | (refine sees_l ?_; (repeat (first | exact hd | apply tl)); done) | (apply sees_own; apply sees_l; (repeat (first | exact hd | apply tl)); done) | exact sees_r (by assumption)) .none (.t m0) (fun _ => by assumption) rfl rfl (.agg _) rfl rfl ?_
    refine r_alloc [.int .u8 0, .int .u8 0, .int .u8 0] el43 rfl .none (fun _ _ _ => trivial) rfl rfl (fun b30 => ?_)
    refine r_store [_, _, _] ty43 .none (.t m0) (.t m1) (Take.perm (by repeat (first | exact .hd | apply Take.tl))) rfl rfl rfl rfl (fun _ _ => trivial) ?_
    refine tl_nil ?_
    refine qt_then ?_
    refine tr_seq ?_
    -- region 23
    refine tr_plain ?_
    refine r_fieldAddr fd43_1 .none (.t m0) rfl rfl ?_
    refine r_load [_] ty5 .none (.t m0) (by first | (refine sees_l ?_; (repeat (first | exact hd | apply tl)); done) | (apply sees_own; apply sees_l; (repeat (first | exact hd | apply tl)); done) | exact sees_r (by assumption)) rfl rfl (.one _) rfl rfl ?_
    refine r_conv _ Try.underlying5 Try.underlying3 .none (.t m0) (fun _ => IntWalk.i64_in _ (by omega)) rfl rfl ?_
    refine r_move .none (.t m8) rfl rfl ?_
    refine r_rem .none (.t m1) (.t m0) (fun _ => by omega) rfl rfl ?_
    refine r_assign .none (.t m0) rfl rfl ?_
    refine tl_valh (v' := .int .i64 (k : Int)) (by rw [hk]) ?_
    refine tl_nil ?_
    refine qt_then ?_
    refine tr_seq ?_
    -- region 24 draws
    refine tr_ord [(0, false), (1, false), (2, false), (3, false), (4, false), (5, false), (6, false), (7, false), (8, false), (9, false)] [] _ _ (List.Sublist.refl _) (List.Sublist.refl _) mixedO (by kernel_rfl) ?_
    -- all early
    refine r_move .none (.t m15) rfl rfl ?_
    refine r_move .none (.t m1) rfl rfl ?_
    refine r_indexAddr sl31 (by first | (refine sees_c ?_; (repeat (first | exact hd | apply tl)); done) | (apply sees_own; apply sees_c; (repeat (first | exact hd | apply tl)); done) | exact sees_rc (by assumption)) .none (.t m1) (.t m0) (fun _ => by omega) rfl rfl ?_
    refine r_loadEl [_] ty33 (by first | (refine sees_c ?_; (repeat (first | exact hd | apply tl)); done) | (apply sees_own; apply sees_c; (repeat (first | exact hd | apply tl)); done) | exact sees_rc (by assumption)) .none (.t m0) (fun _ => hptN) rfl rfl (.one _) rfl rfl ?_
    refine r_move .none (.t m20) rfl rfl ?_
    refine r_move .none (.t m5) rfl rfl ?_
    refine r_indexAddr sl32 (by first | (refine sees_c ?_; (repeat (first | exact hd | apply tl)); done) | (apply sees_own; apply sees_c; (repeat (first | exact hd | apply tl)); done) | exact sees_rc (by assumption)) .none (.t m1) (.t m0) (fun _ => by omega) rfl rfl ?_
    refine r_loadEl [_] ty36 (by first | (refine sees_c ?_; (repeat (first | exact hd | apply tl)); done) | (apply sees_own; apply sees_c; (repeat (first | exact hd | apply tl)); done) | exact sees_rc (by assumption)) .none (.t m0) (fun _ => hptS) rfl rfl (.one _) rfl rfl ?_
    refine r_assign .none (.t m4) rfl rfl ?_
    refine r_assign .none (.t m1) rfl rfl ?_
    refine tl_nil ?_
    refine qt_late (List.Sublist.refl _) ?_
    refine tl_nil ?_
    refine qt_then ?_
    refine tr_cut3 (fun (s2 : Sy) (Aw2 : Option Addr) (cw2 : Nat) => [(8, true, .bool false), (9, true, .int .i64 (nn : Int)), (10, true, .int .i64 long), (12, true, .pointer (some ⟨b, 0, none⟩)), (14, true, .int .i64 W), (17, true, .slice Aa nn ca), (18, true, .slice As nn csx), (22, true, .int .i64 s2.clock), (23, true, .int .i64 s2.wants), (24, true, .slice (some ⟨b131, 0, none⟩) (nn + 1) (nn + 1)), (25, true, .int .i64 s2.lease), (26, true, .int .i64 s2.of), (27, true, .int .i64 s2.since), (28, true, .slice Aw2 s2.ws.length cw2), (136, true, .slice A2 lim c2), (137, true, .int .i64 (lim : Int)), (138, true, .int .i64 (j : Int))]) (fun (s2 : Sy) (Aw2 : Option Addr) (cw2 : Nat) => [boxE b 64 [.int .i64 s2.clock, .int .i64 s2.lease, .int .i64 s2.of, .int .i64 s2.since, .bool true, .int .i64 W, .int .i64 s2.wants, .slice (some ⟨bg, 0, none⟩) (nn + 1) (nn + 1), .map (some mb)], ownE (some ⟨bg, 0, none⟩) (nn + 1) (nn + 1) 3 1 (glC s2.gl), mapE (Value.int .i64) mb [(1, .func (.func 22) #[.pointer (some ⟨b, 0, none⟩)] #[]), (3, .func (.func 23) #[.pointer (some ⟨b, 0, none⟩)] #[])], ownE (some ⟨b131, 0, none⟩) (nn + 1) (nn + 1) 3 1 (glC s2.gl), ownE Aw2 s2.ws.length cw2 45 3 (wordC s2.ws), ownE Aa nn ca 33 1 (ptrN us), ownE As nn csx 36 1 (ptrS us), allE (s2.us.map (unitE long))]) (fun (s2 : Sy) (Aw2 : Option Addr) (cw2 : Nat) => Ok nn long (j + 1 : Int) (13 * (j + 1) : Int) s2 ∧ s2.us.map Un.bN = us.map Un.bN ∧ s2.us.map Un.bS = us.map Un.bS) ?_ ?_
    ·
     have hcut_b4 := fun {X Q F L} => qt_cut3 (Fi := fun (s2 : Sy) (Aw2 : Option Addr) (cw2 : Nat) => [(8, true, .bool false), (9, true, .int .i64 (nn : Int)), (10, true, .int .i64 long), (12, true, .pointer (some ⟨b, 0, none⟩)), (14, true, .int .i64 W), (17, true, .slice Aa nn ca), (18, true, .slice As nn csx), (22, true, .int .i64 s2.clock), (23, true, .int .i64 s2.wants), (24, true, .slice (some ⟨b131, 0, none⟩) (nn + 1) (nn + 1)), (25, true, .int .i64 s2.lease), (26, true, .int .i64 s2.of), (27, true, .int .i64 s2.since), (28, true, .slice Aw2 s2.ws.length cw2), (136, true, .slice A2 lim c2), (137, true, .int .i64 (lim : Int)), (138, true, .int .i64 (j : Int))]) (Li := fun (s2 : Sy) (Aw2 : Option Addr) (cw2 : Nat) => [boxE b 64 [.int .i64 s2.clock, .int .i64 s2.lease, .int .i64 s2.of, .int .i64 s2.since, .bool true, .int .i64 W, .int .i64 s2.wants, .slice (some ⟨bg, 0, none⟩) (nn + 1) (nn + 1), .map (some mb)], ownE (some ⟨bg, 0, none⟩) (nn + 1) (nn + 1) 3 1 (glC s2.gl), mapE (Value.int .i64) mb [(1, .func (.func 22) #[.pointer (some ⟨b, 0, none⟩)] #[]), (3, .func (.func 23) #[.pointer (some ⟨b, 0, none⟩)] #[])], ownE (some ⟨b131, 0, none⟩) (nn + 1) (nn + 1) 3 1 (glC s2.gl), ownE Aw2 s2.ws.length cw2 45 3 (wordC s2.ws), ownE Aa nn ca 33 1 (ptrN us), ownE As nn csx 36 1 (ptrS us), allE (s2.us.map (unitE long))]) (I := fun (s2 : Sy) (Aw2 : Option Addr) (cw2 : Nat) => Ok nn long (j + 1 : Int) (13 * (j + 1) : Int) s2 ∧ s2.us.map Un.bN = us.map Un.bN ∧ s2.us.map Un.bS = us.map Un.bS) (X := X) (Q := Q) (F := F) (L := L)
     refine tr_seq ?_
     -- region 25
     refine tr_plain ?_
     refine r_fieldAddr fd43_0 .none (.t m16) rfl rfl ?_
     refine r_load [_] ty5 .none (.t m0) (by first | (refine sees_l ?_; (repeat (first | exact hd | apply tl)); done) | (apply sees_own; apply sees_l; (repeat (first | exact hd | apply tl)); done) | exact sees_r (by assumption)) rfl rfl (.one _) rfl rfl ?_
     refine r_rem .none (.t m0) (.c _ _) (fun _ => by omega) rfl rfl ?_
     refine tl_valh (v' := .int .u8 d) (by rw [hdd]) ?_
     refine tl_nil ?_
     refine qt_then ?_
     refine tr_block ?_
     refine tr_cut0 (fun (_ : Unit) => [(8, true, .bool false), (9, true, .int .i64 (nn : Int)), (10, true, .int .i64 long), (12, true, .pointer (some ⟨b, 0, none⟩)), (14, true, .int .i64 W), (17, true, .slice Aa nn ca), (18, true, .slice As nn csx), (22, true, .int .i64 s.clock), (23, true, .int .i64 s.wants), (24, true, .slice (some ⟨b131, 0, none⟩) (nn + 1) (nn + 1)), (25, true, .int .i64 s.lease), (26, true, .int .i64 s.of), (27, true, .int .i64 s.since), (28, true, .slice Aw s.ws.length cw), (136, true, .slice A2 lim c2), (137, true, .int .i64 (lim : Int)), (138, true, .int .i64 (j : Int)), (30, true, .pointer (some ⟨b30, 0, none⟩)), (31, true, .int .i64 (k : Int)), (32, true, .pointer (some ⟨u.bN, 0, none⟩)), (33, true, .pointer (some ⟨u.bS, 0, none⟩)), (157, true, .int .u8 d), (162, true, .bool (decide (0 ≤ d ∧ d ≤ 1)))]) (fun (_ : Unit) => [boxE b 64 [.int .i64 s.clock, .int .i64 s.lease, .int .i64 s.of, .int .i64 s.since, .bool true, .int .i64 W, .int .i64 s.wants, .slice (some ⟨bg, 0, none⟩) (nn + 1) (nn + 1), .map (some mb)], ownE (some ⟨bg, 0, none⟩) (nn + 1) (nn + 1) 3 1 (glC s.gl), mapE (Value.int .i64) mb [(1, .func (.func 22) #[.pointer (some ⟨b, 0, none⟩)] #[]), (3, .func (.func 23) #[.pointer (some ⟨b, 0, none⟩)] #[])], ownE (some ⟨b131, 0, none⟩) (nn + 1) (nn + 1) 3 1 (glC s.gl), ownE Aw s.ws.length cw 45 3 (wordC s.ws), ownE Aa nn ca 33 1 (ptrN us), ownE As nn csx 36 1 (ptrS us), allE (s.us.map (unitE long)), boxE b30 43 [.int .u8 d0, .int .u8 k0, .int .u8 w0]]) (fun (_ : Unit) => True) ?_ ?_
     ·
      have hcut_c4 := fun {X Q F L} => qt_cut0 (Fi := fun (_ : Unit) => [(8, true, .bool false), (9, true, .int .i64 (nn : Int)), (10, true, .int .i64 long), (12, true, .pointer (some ⟨b, 0, none⟩)), (14, true, .int .i64 W), (17, true, .slice Aa nn ca), (18, true, .slice As nn csx), (22, true, .int .i64 s.clock), (23, true, .int .i64 s.wants), (24, true, .slice (some ⟨b131, 0, none⟩) (nn + 1) (nn + 1)), (25, true, .int .i64 s.lease), (26, true, .int .i64 s.of), (27, true, .int .i64 s.since), (28, true, .slice Aw s.ws.length cw), (136, true, .slice A2 lim c2), (137, true, .int .i64 (lim : Int)), (138, true, .int .i64 (j : Int)), (30, true, .pointer (some ⟨b30, 0, none⟩)), (31, true, .int .i64 (k : Int)), (32, true, .pointer (some ⟨u.bN, 0, none⟩)), (33, true, .pointer (some ⟨u.bS, 0, none⟩)), (157, true, .int .u8 d), (162, true, .bool (decide (0 ≤ d ∧ d ≤ 1)))]) (Li := fun (_ : Unit) => [boxE b 64 [.int .i64 s.clock, .int .i64 s.lease, .int .i64 s.of, .int .i64 s.since, .bool true, .int .i64 W, .int .i64 s.wants, .slice (some ⟨bg, 0, none⟩) (nn + 1) (nn + 1), .map (some mb)], ownE (some ⟨bg, 0, none⟩) (nn + 1) (nn + 1) 3 1 (glC s.gl), mapE (Value.int .i64) mb [(1, .func (.func 22) #[.pointer (some ⟨b, 0, none⟩)] #[]), (3, .func (.func 23) #[.pointer (some ⟨b, 0, none⟩)] #[])], ownE (some ⟨b131, 0, none⟩) (nn + 1) (nn + 1) 3 1 (glC s.gl), ownE Aw s.ws.length cw 45 3 (wordC s.ws), ownE Aa nn ca 33 1 (ptrN us), ownE As nn csx 36 1 (ptrS us), allE (s.us.map (unitE long)), boxE b30 43 [.int .u8 d0, .int .u8 k0, .int .u8 w0]]) (I := fun (_ : Unit) => True) (X := X) (Q := Q) (F := F) (L := L)
      refine tr_seq ?_
      -- region 29
      refine tr_plain ?_
      refine r_eql .none (.t m0) (.c _ _) rfl rfl ?_
      refine r_assign .none (.t m0) rfl rfl ?_
      refine tl_nil ?_
      refine qt_then ?_
      -- c4
      refine tr_cond (.t m0) (fun hc4 => ?_) (fun hc4 => ?_)
      ·
       try simp only [Bool.and_eq_true, Bool.or_eq_true, Bool.not_eq_true', Bool.not_eq_false', Bool.and_eq_false_iff, Bool.or_eq_false_iff, decide_eq_true_eq, decide_eq_false_iff_not, beq_iff_eq, Bool.not_eq_true, Bool.not_eq_false] at hc4
       refine tr_skip ?_
       exact hcut_c4 trivial (subCons (mca m25) (subCons (mca m26) (subCons (mca m27) (subCons (mca m28) (subCons (mca m29) (subCons (mca m30) (subCons (mca m31) (subCons (mca m32) (subCons (mca m33) (subCons (mca m34) (subCons (mca m35) (subCons (mca m36) (subCons (mca m37) (subCons (mca m38) (subCons (mca m39) (subCons (mca m40) (subCons (mca m41) (subCons (mca m21) (subCons (mca m15) (subCons (mca m6) (subCons (mca m5) (subCons (mca m2) (subCons (mcast m0 (congrArg Value.bool (decide_eq_decide.2 (by omega)))) subNil))))))))))))))))))))))) (Pm.perm (by repeat (first | exact .nil | refine .cons (by repeat (first | exact .hd | apply Take.tl)) ?_)))
      ·
       try simp only [Bool.and_eq_true, Bool.or_eq_true, Bool.not_eq_true', Bool.not_eq_false', Bool.and_eq_false_iff, Bool.or_eq_false_iff, decide_eq_true_eq, decide_eq_false_iff_not, beq_iff_eq, Bool.not_eq_true, Bool.not_eq_false] at hc4
       -- region 30
       refine tr_plain ?_
       refine r_eql .none (.t m2) (.c _ _) rfl rfl ?_
       refine tl_kp (.k (.d .all)) ?_
       refine r_assign .none (.t m0) rfl rfl ?_
       refine tl_nil ?_
       exact hcut_c4 trivial (subCons (mca m26) (subCons (mca m27) (subCons (mca m28) (subCons (mca m29) (subCons (mca m30) (subCons (mca m31) (subCons (mca m32) (subCons (mca m33) (subCons (mca m34) (subCons (mca m35) (subCons (mca m36) (subCons (mca m37) (subCons (mca m38) (subCons (mca m39) (subCons (mca m40) (subCons (mca m41) (subCons (mca m42) (subCons (mca m22) (subCons (mca m16) (subCons (mca m7) (subCons (mca m6) (subCons (mca m3) (subCons (mcast m0 (congrArg Value.bool (decide_eq_decide.2 (by omega)))) subNil))))))))))))))))))))))) (Pm.perm (by repeat (first | exact .nil | refine .cons (by repeat (first | exact .hd | apply Take.tl)) ?_)))
     ·
      intro _ hI
      -- c5
      refine tr_cond (.t m22) (fun hc5 => ?_) (fun hc5 => ?_)
      ·
       try simp only [Bool.and_eq_true, Bool.or_eq_true, Bool.not_eq_true', Bool.not_eq_false', Bool.and_eq_false_iff, Bool.or_eq_false_iff, decide_eq_true_eq, decide_eq_false_iff_not, beq_iff_eq, Bool.not_eq_true, Bool.not_eq_false] at hc5
       refine tr_seq ?_
       -- region 31
       refine tr_open4 (.tl (.tl (.tl (.tl (.tl (.tl (.tl .hd))))))) (unit_at hu) ?_
       refine tr_plain ?_
       refine r_move .none (.t m20) rfl rfl ?_
       refine r_nilCheckP .none (.t m0) rfl rfl ?_
       refine r_fieldAddr fd39_1 .none (.t m0) rfl rfl ?_
       refine r_load [_] ty3 .none (.t m0) (by first | (refine sees_l ?_; (repeat (first | exact hd | apply tl)); done) | (apply sees_own; apply sees_l; (repeat (first | exact hd | apply tl)); done) | exact sees_r (by assumption)) rfl rfl (.one _) rfl rfl ?_
       refine r_add .none (.t m0) (.c _ _) (fun _ => by omega) rfl rfl ?_
       refine r_nilCheckP .none (.t m4) rfl rfl ?_
       refine r_fieldAddr fd39_1 .none (.t m0) rfl rfl ?_
       refine r_store [_, _, _, _] ty3 .none (.t m0) (.t m2) (Take.perm (by repeat (first | exact .hd | apply Take.tl))) rfl rfl rfl rfl (fun _ _ => trivial) ?_
       refine tl_nil ?_
       refine qt_then ?_
       refine tr_seq ?_
       -- region 32 draws
       refine tr_ord [(0, false), (1, false), (2, false), (3, false), (4, false), (5, false), (6, false), (7, false), (8, false), (9, false), (10, false), (11, false)] [(12, true)] _ _ (List.Sublist.refl _) (.cons_cons _ (.cons_cons _ (.cons_cons _ (.cons _ (List.Sublist.refl _))))) mixedO (by kernel_rfl) ?_
       refine r_move .none (.t m27) rfl rfl ?_
       refine r_nilCheckP .none (.t m0) rfl rfl ?_
       refine r_fieldAddr fd39_3 .none (.t m0) rfl rfl ?_
       refine r_load [_] ty37 .none (.t m0) (by first | (refine sees_c ?_; (repeat (first | exact hd | apply tl)); done) | (apply sees_own; apply sees_c; (repeat (first | exact hd | apply tl)); done) | exact sees_rc (by assumption)) rfl rfl (.one _) rfl rfl ?_
       refine r_move .none (.t m31) rfl rfl ?_
       refine r_nilCheckP .none (.t m0) rfl rfl ?_
       refine r_fieldAddr fd39_1 .none (.t m0) rfl rfl ?_
       refine r_load [_] ty3 .none (.t m0) (by first | (refine sees_c ?_; (repeat (first | exact hd | apply tl)); done) | (apply sees_own; apply sees_c; (repeat (first | exact hd | apply tl)); done) | exact sees_rc (by assumption)) rfl rfl (.one _) rfl rfl ?_
       refine r_move .none (.t m35) rfl rfl ?_
       refine r_nilCheckP .none (.t m0) rfl rfl ?_
       refine r_fieldAddr fd39_0 .none (.t m0) rfl rfl ?_
       refine r_load [_] ty3 .none (.t m0) (by first | (refine sees_c ?_; (repeat (first | exact hd | apply tl)); done) | (apply sees_own; apply sees_c; (repeat (first | exact hd | apply tl)); done) | exact sees_rc (by assumption)) rfl rfl (.one _) rfl rfl ?_
       refine tl_nil ?_
       refine qt_late (.cons_cons _ (.cons_cons _ (.cons_cons _ (.cons _ (List.Sublist.refl _))))) ?_
       refine r_mapUpdate Try.underlying37 ke3 .none (.t m8) (.t m4) (.t m0) (by repeat (first | exact .hd | apply Take.tl)) (keepC (.cons _ (List.Sublist.refl _))) ?_
       refine tl_nil ?_
       refine qt_then ?_
       refine tr_seq ?_
       -- region 33
       refine tr_plain ?_
       refine r_move .none (.t m37) rfl rfl ?_
       refine r_add .none (.t m0) (.c _ _) (fun _ => by omega) rfl rfl ?_
       refine r_move .none (.t m41) rfl rfl ?_
       refine r_nilCheckP .none (.t m0) rfl rfl ?_
       refine r_fieldAddr fd39_1 .none (.t m0) rfl rfl ?_
       refine r_load [_] ty3 .none (.t m0) (by first | (refine sees_l ?_; (repeat (first | exact hd | apply tl)); done) | (apply sees_own; apply sees_l; (repeat (first | exact hd | apply tl)); done) | exact sees_r (by assumption)) rfl rfl (.one _) rfl rfl ?_
       refine r_build [_, _, _] bd45 .none (.cons (.c _ _) (.cons (.t m4) (.cons (.t m0) .nil))) rfl rfl rfl ?_
       refine r_alloc [.int .i64 0, .int .i64 0, .int .i64 0] el45 rfl .none (fun _ _ _ => trivial) rfl rfl (fun b34 => ?_)
       refine r_store [_, _, _] ty45 .none (.t m0) (.t m1) (Take.perm (by repeat (first | exact .hd | apply Take.tl))) rfl rfl rfl rfl (fun _ _ => trivial) ?_
       refine tl_nil ?_
       refine qt_then ?_
       refine tr_seq ?_
       refine tr_seq ?_
       -- region 34
       refine tr_plain ?_
       refine r_move .none (.t m46) rfl rfl ?_
       refine r_call _ _ _ en8 .none (.f _ _) (.cons (.t m0) .nil) (fun w hw => callL (.cons (.tl (.tl (.tl .hd))) (.cons (.tl (.tl (.tl .hd))) .nil)) hw (fun h => Ask_turn _ _ _ _ _ _ _ _ _ _ (by omega) (by omega) w h)) (fun _ _ _ _ => trivial) rfl rfl ?_
       rintro ⟨A15, c15⟩ _; dsimp only
       refine r_move .none (.t m0) rfl rfl ?_
       refine r_extract .none (.t m0) rfl rfl rfl ?_
       refine r_extract .none (.t m1) rfl rfl rfl ?_
       refine r_alloc [.int .i64 0, .int .i64 0, .int .i64 0] el45 rfl .none (fun _ _ _ => trivial) rfl rfl (fun b35 => ?_)
       refine r_store [_, _, _] ty45 .none (.t m0) (.t m2) (Take.perm (by repeat (first | exact .hd | apply Take.tl))) rfl rfl rfl rfl (fun _ _ => trivial) ?_
       refine r_assign .none (.t m1) rfl rfl ?_
       refine tl_nil ?_
       refine qt_shut4 (.cons (.tl .hd) (.cons (.tl .hd) (.cons (.tl (.tl (.tl .hd))) (.cons (.tl (.tl .hd)) (.cons (.tl (.tl .hd)) .nil))))) (by simpa using (List.getElem?_eq_some_iff.1 hu).1) (unit_set (v := ({ u with num := u.num + 1, asks := u.asks ++ [(u.num + 1, u.clock)], A := A15, c := c15 } : Un)) (by simp only [unitL, List.length_append, List.length_cons, List.length_nil, List.map_append, List.map_cons, List.map_nil, put_ask (fun p hp => show p.1 < u.num + 1 by have := hun.asks p hp; omega)])) ?_
       refine qt_then ?_
       refine tr_seq ?_
       -- region 35
       refine tr_plain ?_
       refine r_move .none (.t m0) rfl rfl ?_
       refine r_neq .none (.t m0) (.c _ _) rfl rfl ?_
       refine r_move .none (.t m0) rfl rfl ?_
       refine r_load [_, _, _] ty45 (.neg rfl m0) (.t m4) (by first | (refine sees_l ?_; (repeat (first | exact hd | apply tl)); done) | (apply sees_own; apply sees_l; (repeat (first | exact hd | apply tl)); done) | exact sees_r (by assumption)) rfl rfl (.agg _) rfl rfl ?_
       refine r_load [_, _, _] ty45 (.neg rfl m1) (.t m11) (by first | (refine sees_l ?_; (repeat (first | exact hd | apply tl)); done) | (apply sees_own; apply sees_l; (repeat (first | exact hd | apply tl)); done) | exact sees_r (by assumption)) rfl rfl (.agg _) rfl rfl ?_
       refine r_neqG eqg45 (.neg rfl m2) (.s m1) (.s m0) (eq45 _ _ _ _ _ _) rfl rfl ?_
       refine r_or .none (.t m3) (.s m0) rfl rfl ?_
       refine tl_nil ?_
       refine qt_then ?_
       -- c6
       refine tr_cond (.t m0) (fun hc6 => ?_) (fun hc6 => ?_)
       · exfalso; simp [hid] at hc6
       ·
        try simp only [Bool.and_eq_true, Bool.or_eq_true, Bool.not_eq_true', Bool.not_eq_false', Bool.and_eq_false_iff, Bool.or_eq_false_iff, decide_eq_true_eq, decide_eq_false_iff_not, beq_iff_eq, Bool.not_eq_true, Bool.not_eq_false] at hc6
        refine tr_skip ?_
        refine qt_then ?_
        -- region 37
        refine tr_plain ?_
        refine r_move .none (.t m54) rfl rfl ?_
        refine r_load [_, _, _] ty45 .none (.t m15) (by first | (refine sees_l ?_; (repeat (first | exact hd | apply tl)); done) | (apply sees_own; apply sees_l; (repeat (first | exact hd | apply tl)); done) | exact sees_r (by assumption)) rfl rfl (.agg _) rfl rfl ?_
        refine r_buildSlice [[_, _, _]] sl41 el45 rfl rfl .none (.cons (.t m0) .nil) rfl rfl rfl (fun _ _ _ => trivial) rfl rfl (fun b205 => ?_)
        refine r_append sl41 el45 .none (.t m2) (.t m0) (Take.perm (by repeat (first | exact .hd | apply Take.tl))) (fun w hw => ownE_sl (hw.in_ (by repeat (first | exact hd | apply tl)))) rfl (by simp only [maxLen]; omega) (by omega) (fun _ _ _ _ => trivial) rfl rfl (fun A206 c206 => ?_)
        refine tl_kp (.k (.k (.k (.k (.k (.k (.k (.k (.k (.k (.k (.k (.k (.k (.k (.k (.k (.k (.k (.k (.k (.k (.k (.k (.k (.k (.k (.k (.k (.k (.k (.k (.k (.k (.k (.k (.k (.k (.k (.k (.k (.k (.k (.k (.k (.k (.k (.k (.k (.k (.k (.k (.k (.k (.k (.k (.k (.k (.d .all))))))))))))))))))))))))))))))))))))))))))))))))))))))))))) ?_
        refine r_assign .none (.t m0) rfl rfl ?_
        refine tl_nil ?_
        refine qt_block ?_
        refine qt_eq (y := ownE A206 (s.ws ++ [(1, u.id, u.num + 1)]).length c206 45 3 (wordC (s.ws ++ [(1, u.id, u.num + 1)]))) .hd (by simp [wordC, hid]) ?_
        refine qt_kl (.cons (.tl (.tl (.tl (.tl (.tl .hd))))) (.cons (.tl (.tl (.tl (.tl (.tl .hd))))) (.cons (.tl (.tl (.tl (.tl (.tl .hd))))) (.cons (.tl (.tl (.tl (.tl (.tl .hd))))) (.cons .hd (.cons (.tl (.tl (.tl (.tl .hd)))) (.cons (.tl (.tl (.tl (.tl .hd)))) (.cons (.tl .hd) .nil)))))))) ?_
        exact hcut_b4 ({ s with us := s.us.set k ({ u with num := u.num + 1, asks := u.asks ++ [(u.num + 1, u.clock)], A := A15, c := c15 } : Un), ws := s.ws ++ [(1, u.id, u.num + 1)] } : Sy) A206 c206 ⟨(hok.ask hu A15 c15 (by omega)).mono (by omega) (by omega), setB hbN hu rfl, setB hbS hu rfl⟩ (subCons (mca m46) (subCons (mca m47) (subCons (mca m48) (subCons (mca m49) (subCons (mca m50) (subCons (mca m51) (subCons (mca m52) (subCons (mca m53) (subCons (mca m54) (subCons (mca m55) (subCons (mca m56) (subCons (mca m57) (subCons (mca m58) (subCons (mca m0) (subCons (mca m59) (subCons (mca (tl (m59))) (subCons (mca (tl (tl (m59)))) subNil))))))))))))))))) (Pm.perm (by repeat (first | exact .nil | refine .cons (by repeat (first | exact .hd | apply Take.tl)) ?_)))
      ·
       try simp only [Bool.and_eq_true, Bool.or_eq_true, Bool.not_eq_true', Bool.not_eq_false', Bool.and_eq_false_iff, Bool.or_eq_false_iff, decide_eq_true_eq, decide_eq_false_iff_not, beq_iff_eq, Bool.not_eq_true, Bool.not_eq_false] at hc5
       refine tr_cut0 (fun (_ : Unit) => [(8, true, .bool false), (9, true, .int .i64 (nn : Int)), (10, true, .int .i64 long), (12, true, .pointer (some ⟨b, 0, none⟩)), (14, true, .int .i64 W), (17, true, .slice Aa nn ca), (18, true, .slice As nn csx), (22, true, .int .i64 s.clock), (23, true, .int .i64 s.wants), (24, true, .slice (some ⟨b131, 0, none⟩) (nn + 1) (nn + 1)), (25, true, .int .i64 s.lease), (26, true, .int .i64 s.of), (27, true, .int .i64 s.since), (28, true, .slice Aw s.ws.length cw), (136, true, .slice A2 lim c2), (137, true, .int .i64 (lim : Int)), (138, true, .int .i64 (j : Int)), (30, true, .pointer (some ⟨b30, 0, none⟩)), (31, true, .int .i64 (k : Int)), (32, true, .pointer (some ⟨u.bN, 0, none⟩)), (33, true, .pointer (some ⟨u.bS, 0, none⟩)), (157, true, .int .u8 d), (207, true, .bool (decide (2 ≤ d ∧ d ≤ 7)))]) (fun (_ : Unit) => [boxE b 64 [.int .i64 s.clock, .int .i64 s.lease, .int .i64 s.of, .int .i64 s.since, .bool true, .int .i64 W, .int .i64 s.wants, .slice (some ⟨bg, 0, none⟩) (nn + 1) (nn + 1), .map (some mb)], ownE (some ⟨bg, 0, none⟩) (nn + 1) (nn + 1) 3 1 (glC s.gl), mapE (Value.int .i64) mb [(1, .func (.func 22) #[.pointer (some ⟨b, 0, none⟩)] #[]), (3, .func (.func 23) #[.pointer (some ⟨b, 0, none⟩)] #[])], ownE (some ⟨b131, 0, none⟩) (nn + 1) (nn + 1) 3 1 (glC s.gl), ownE Aw s.ws.length cw 45 3 (wordC s.ws), ownE Aa nn ca 33 1 (ptrN us), ownE As nn csx 36 1 (ptrS us), allE (s.us.map (unitE long)), boxE b30 43 [.int .u8 d0, .int .u8 k0, .int .u8 w0]]) (fun (_ : Unit) => True) ?_ ?_
       ·
        have hcut_c7 := fun {X Q F L} => qt_cut0 (Fi := fun (_ : Unit) => [(8, true, .bool false), (9, true, .int .i64 (nn : Int)), (10, true, .int .i64 long), (12, true, .pointer (some ⟨b, 0, none⟩)), (14, true, .int .i64 W), (17, true, .slice Aa nn ca), (18, true, .slice As nn csx), (22, true, .int .i64 s.clock), (23, true, .int .i64 s.wants), (24, true, .slice (some ⟨b131, 0, none⟩) (nn + 1) (nn + 1)), (25, true, .int .i64 s.lease), (26, true, .int .i64 s.of), (27, true, .int .i64 s.since), (28, true, .slice Aw s.ws.length cw), (136, true, .slice A2 lim c2), (137, true, .int .i64 (lim : Int)), (138, true, .int .i64 (j : Int)), (30, true, .pointer (some ⟨b30, 0, none⟩)), (31, true, .int .i64 (k : Int)), (32, true, .pointer (some ⟨u.bN, 0, none⟩)), (33, true, .pointer (some ⟨u.bS, 0, none⟩)), (157, true, .int .u8 d), (207, true, .bool (decide (2 ≤ d ∧ d ≤ 7)))]) (Li := fun (_ : Unit) => [boxE b 64 [.int .i64 s.clock, .int .i64 s.lease, .int .i64 s.of, .int .i64 s.since, .bool true, .int .i64 W, .int .i64 s.wants, .slice (some ⟨bg, 0, none⟩) (nn + 1) (nn + 1), .map (some mb)], ownE (some ⟨bg, 0, none⟩) (nn + 1) (nn + 1) 3 1 (glC s.gl), mapE (Value.int .i64) mb [(1, .func (.func 22) #[.pointer (some ⟨b, 0, none⟩)] #[]), (3, .func (.func 23) #[.pointer (some ⟨b, 0, none⟩)] #[])], ownE (some ⟨b131, 0, none⟩) (nn + 1) (nn + 1) 3 1 (glC s.gl), ownE Aw s.ws.length cw 45 3 (wordC s.ws), ownE Aa nn ca 33 1 (ptrN us), ownE As nn csx 36 1 (ptrS us), allE (s.us.map (unitE long)), boxE b30 43 [.int .u8 d0, .int .u8 k0, .int .u8 w0]]) (I := fun (_ : Unit) => True) (X := X) (Q := Q) (F := F) (L := L)
        refine tr_seq ?_
        -- region 38
        refine tr_plain ?_
        refine r_eql .none (.t m21) (.c _ _) rfl rfl ?_
        refine r_assign .none (.t m0) rfl rfl ?_
        refine tl_nil ?_
        refine qt_then ?_
        -- c7
        refine tr_cond (.t m0) (fun hc7 => ?_) (fun hc7 => ?_)
        ·
         try simp only [Bool.and_eq_true, Bool.or_eq_true, Bool.not_eq_true', Bool.not_eq_false', Bool.and_eq_false_iff, Bool.or_eq_false_iff, decide_eq_true_eq, decide_eq_false_iff_not, beq_iff_eq, Bool.not_eq_true, Bool.not_eq_false] at hc7
         refine tr_skip ?_
         exact hcut_c7 trivial (subCons (mca m2) (subCons (mca m3) (subCons (mca m4) (subCons (mca m5) (subCons (mca m6) (subCons (mca m7) (subCons (mca m8) (subCons (mca m9) (subCons (mca m10) (subCons (mca m11) (subCons (mca m12) (subCons (mca m13) (subCons (mca m14) (subCons (mca m15) (subCons (mca m16) (subCons (mca m17) (subCons (mca m18) (subCons (mca m19) (subCons (mca m20) (subCons (mca m21) (subCons (mca m22) (subCons (mca m23) (subCons (mcast m0 (congrArg Value.bool (decide_eq_decide.2 (by omega)))) subNil))))))))))))))))))))))) (Pm.perm (by repeat (first | exact .nil | refine .cons (by repeat (first | exact .hd | apply Take.tl)) ?_)))
        ·
         try simp only [Bool.and_eq_true, Bool.or_eq_true, Bool.not_eq_true', Bool.not_eq_false', Bool.and_eq_false_iff, Bool.or_eq_false_iff, decide_eq_true_eq, decide_eq_false_iff_not, beq_iff_eq, Bool.not_eq_true, Bool.not_eq_false] at hc7
         refine tr_seq ?_
         -- region 39
         refine tr_plain ?_
         refine r_eql .none (.t m23) (.c _ _) rfl rfl ?_
         refine tl_kp (.k (.d .all)) ?_
         refine r_assign .none (.t m0) rfl rfl ?_
         refine tl_nil ?_
         refine qt_then ?_
         -- c8
         refine tr_cond (.t m0) (fun hc8 => ?_) (fun hc8 => ?_)
         ·
          try simp only [Bool.and_eq_true, Bool.or_eq_true, Bool.not_eq_true', Bool.not_eq_false', Bool.and_eq_false_iff, Bool.or_eq_false_iff, decide_eq_true_eq, decide_eq_false_iff_not, beq_iff_eq, Bool.not_eq_true, Bool.not_eq_false] at hc8
          refine tr_skip ?_
          exact hcut_c7 trivial (subCons (mca m3) (subCons (mca m4) (subCons (mca m5) (subCons (mca m6) (subCons (mca m7) (subCons (mca m8) (subCons (mca m9) (subCons (mca m10) (subCons (mca m11) (subCons (mca m12) (subCons (mca m13) (subCons (mca m14) (subCons (mca m15) (subCons (mca m16) (subCons (mca m17) (subCons (mca m18) (subCons (mca m19) (subCons (mca m20) (subCons (mca m21) (subCons (mca m22) (subCons (mca m23) (subCons (mca m24) (subCons (mcast m0 (congrArg Value.bool (decide_eq_decide.2 (by omega)))) subNil))))))))))))))))))))))) (Pm.perm (by repeat (first | exact .nil | refine .cons (by repeat (first | exact .hd | apply Take.tl)) ?_)))
         ·
          try simp only [Bool.and_eq_true, Bool.or_eq_true, Bool.not_eq_true', Bool.not_eq_false', Bool.and_eq_false_iff, Bool.or_eq_false_iff, decide_eq_true_eq, decide_eq_false_iff_not, beq_iff_eq, Bool.not_eq_true, Bool.not_eq_false] at hc8
          refine tr_seq ?_
          -- region 40
          refine tr_plain ?_
          refine r_eql .none (.t m24) (.c _ _) rfl rfl ?_
          refine tl_kp (.k (.d .all)) ?_
          refine r_assign .none (.t m0) rfl rfl ?_
          refine tl_nil ?_
          refine qt_then ?_
          -- c9
          refine tr_cond (.t m0) (fun hc9 => ?_) (fun hc9 => ?_)
          ·
           try simp only [Bool.and_eq_true, Bool.or_eq_true, Bool.not_eq_true', Bool.not_eq_false', Bool.and_eq_false_iff, Bool.or_eq_false_iff, decide_eq_true_eq, decide_eq_false_iff_not, beq_iff_eq, Bool.not_eq_true, Bool.not_eq_false] at hc9
           refine tr_skip ?_
           exact hcut_c7 trivial (subCons (mca m4) (subCons (mca m5) (subCons (mca m6) (subCons (mca m7) (subCons (mca m8) (subCons (mca m9) (subCons (mca m10) (subCons (mca m11) (subCons (mca m12) (subCons (mca m13) (subCons (mca m14) (subCons (mca m15) (subCons (mca m16) (subCons (mca m17) (subCons (mca m18) (subCons (mca m19) (subCons (mca m20) (subCons (mca m21) (subCons (mca m22) (subCons (mca m23) (subCons (mca m24) (subCons (mca m25) (subCons (mcast m0 (congrArg Value.bool (decide_eq_decide.2 (by omega)))) subNil))))))))))))))))))))))) (Pm.perm (by repeat (first | exact .nil | refine .cons (by repeat (first | exact .hd | apply Take.tl)) ?_)))
          ·
           try simp only [Bool.and_eq_true, Bool.or_eq_true, Bool.not_eq_true', Bool.not_eq_false', Bool.and_eq_false_iff, Bool.or_eq_false_iff, decide_eq_true_eq, decide_eq_false_iff_not, beq_iff_eq, Bool.not_eq_true, Bool.not_eq_false] at hc9
           refine tr_seq ?_
           -- region 41
           refine tr_plain ?_
           refine r_eql .none (.t m25) (.c _ _) rfl rfl ?_
           refine tl_kp (.k (.d .all)) ?_
           refine r_assign .none (.t m0) rfl rfl ?_
           refine tl_nil ?_
           refine qt_then ?_
           -- c10
           refine tr_cond (.t m0) (fun hc10 => ?_) (fun hc10 => ?_)
           ·
            try simp only [Bool.and_eq_true, Bool.or_eq_true, Bool.not_eq_true', Bool.not_eq_false', Bool.and_eq_false_iff, Bool.or_eq_false_iff, decide_eq_true_eq, decide_eq_false_iff_not, beq_iff_eq, Bool.not_eq_true, Bool.not_eq_false] at hc10
            refine tr_skip ?_
            exact hcut_c7 trivial (subCons (mca m5) (subCons (mca m6) (subCons (mca m7) (subCons (mca m8) (subCons (mca m9) (subCons (mca m10) (subCons (mca m11) (subCons (mca m12) (subCons (mca m13) (subCons (mca m14) (subCons (mca m15) (subCons (mca m16) (subCons (mca m17) (subCons (mca m18) (subCons (mca m19) (subCons (mca m20) (subCons (mca m21) (subCons (mca m22) (subCons (mca m23) (subCons (mca m24) (subCons (mca m25) (subCons (mca m26) (subCons (mcast m0 (congrArg Value.bool (decide_eq_decide.2 (by omega)))) subNil))))))))))))))))))))))) (Pm.perm (by repeat (first | exact .nil | refine .cons (by repeat (first | exact .hd | apply Take.tl)) ?_)))
           ·
            try simp only [Bool.and_eq_true, Bool.or_eq_true, Bool.not_eq_true', Bool.not_eq_false', Bool.and_eq_false_iff, Bool.or_eq_false_iff, decide_eq_true_eq, decide_eq_false_iff_not, beq_iff_eq, Bool.not_eq_true, Bool.not_eq_false] at hc10
            refine tr_seq ?_
            -- region 42
            refine tr_plain ?_
            refine r_eql .none (.t m26) (.c _ _) rfl rfl ?_
            refine tl_kp (.k (.d .all)) ?_
            refine r_assign .none (.t m0) rfl rfl ?_
            refine tl_nil ?_
            refine qt_then ?_
            -- c11
            refine tr_cond (.t m0) (fun hc11 => ?_) (fun hc11 => ?_)
            ·
             try simp only [Bool.and_eq_true, Bool.or_eq_true, Bool.not_eq_true', Bool.not_eq_false', Bool.and_eq_false_iff, Bool.or_eq_false_iff, decide_eq_true_eq, decide_eq_false_iff_not, beq_iff_eq, Bool.not_eq_true, Bool.not_eq_false] at hc11
             refine tr_skip ?_
             exact hcut_c7 trivial (subCons (mca m6) (subCons (mca m7) (subCons (mca m8) (subCons (mca m9) (subCons (mca m10) (subCons (mca m11) (subCons (mca m12) (subCons (mca m13) (subCons (mca m14) (subCons (mca m15) (subCons (mca m16) (subCons (mca m17) (subCons (mca m18) (subCons (mca m19) (subCons (mca m20) (subCons (mca m21) (subCons (mca m22) (subCons (mca m23) (subCons (mca m24) (subCons (mca m25) (subCons (mca m26) (subCons (mca m27) (subCons (mcast m0 (congrArg Value.bool (decide_eq_decide.2 (by omega)))) subNil))))))))))))))))))))))) (Pm.perm (by repeat (first | exact .nil | refine .cons (by repeat (first | exact .hd | apply Take.tl)) ?_)))
            ·
             try simp only [Bool.and_eq_true, Bool.or_eq_true, Bool.not_eq_true', Bool.not_eq_false', Bool.and_eq_false_iff, Bool.or_eq_false_iff, decide_eq_true_eq, decide_eq_false_iff_not, beq_iff_eq, Bool.not_eq_true, Bool.not_eq_false] at hc11
             -- region 43
             refine tr_plain ?_
             refine r_eql .none (.t m27) (.c _ _) rfl rfl ?_
             refine tl_kp (.k (.d .all)) ?_
             refine r_assign .none (.t m0) rfl rfl ?_
             refine tl_nil ?_
             exact hcut_c7 trivial (subCons (mca m7) (subCons (mca m8) (subCons (mca m9) (subCons (mca m10) (subCons (mca m11) (subCons (mca m12) (subCons (mca m13) (subCons (mca m14) (subCons (mca m15) (subCons (mca m16) (subCons (mca m17) (subCons (mca m18) (subCons (mca m19) (subCons (mca m20) (subCons (mca m21) (subCons (mca m22) (subCons (mca m23) (subCons (mca m24) (subCons (mca m25) (subCons (mca m26) (subCons (mca m27) (subCons (mca m28) (subCons (mcast m0 (congrArg Value.bool (decide_eq_decide.2 (by omega)))) subNil))))))))))))))))))))))) (Pm.perm (by repeat (first | exact .nil | refine .cons (by repeat (first | exact .hd | apply Take.tl)) ?_)))
       ·
        intro _ hI
        -- c12
        refine tr_cond (.t m22) (fun hc12 => ?_) (fun hc12 => ?_)
        ·
         try simp only [Bool.and_eq_true, Bool.or_eq_true, Bool.not_eq_true', Bool.not_eq_false', Bool.and_eq_false_iff, Bool.or_eq_false_iff, decide_eq_true_eq, decide_eq_false_iff_not, beq_iff_eq, Bool.not_eq_true, Bool.not_eq_false] at hc12
         refine tr_seq ?_
         refine tr_seq ?_
         -- region 44
         refine tr_plain ?_
         refine r_move .none (.t m13) rfl rfl ?_
         refine r_lenSl Try.underlying41 .none (.t m0) rfl rfl ?_
         refine r_eql .none (.t m0) (.c _ _) rfl rfl ?_
         refine tl_nil ?_
         refine qt_then ?_
         -- c13
         refine tr_cond (.t m0) (fun hc13 => ?_) (fun hc13 => ?_)
         ·
          try simp only [Bool.and_eq_true, Bool.or_eq_true, Bool.not_eq_true', Bool.not_eq_false', Bool.and_eq_false_iff, Bool.or_eq_false_iff, decide_eq_true_eq, decide_eq_false_iff_not, beq_iff_eq, Bool.not_eq_true, Bool.not_eq_false] at hc13
          refine tr_exit ?_
          refine qt_then_exit ?_
          refine qt_block_miss rfl ?_
          refine qt_cut_exit ?_
          refine qt_block_hit ?_
          refine qt_then ?_
          -- region 130
          refine tr_plain ?_
          refine r_add .none (.t m19) (.c _ _) (fun _ => by omega) rfl rfl ?_
          refine tl_kp (.k (.k (.k (.k (.k (.k (.k (.k (.k (.k (.k (.k (.k (.k (.k (.k (.k (.k (.k (.k (.d .all))))))))))))))))))))) ?_
          refine r_move .none (.t m0) rfl rfl ?_
          refine tl_nil ?_
          refine qt_kl (.cons .hd (.cons .hd (.cons .hd (.cons .hd (.cons .hd (.cons .hd (.cons .hd (.cons .hd .nil)))))))) ?_
          exact qt_round4 (Fi := fun (j : Nat) (s : Sy) (Aw : Option Addr) (cw : Nat) => [(8, true, .bool false), (9, true, .int .i64 (nn : Int)), (10, true, .int .i64 long), (12, true, .pointer (some ⟨b, 0, none⟩)), (14, true, .int .i64 W), (17, true, .slice Aa nn ca), (18, true, .slice As nn csx), (22, true, .int .i64 s.clock), (23, true, .int .i64 s.wants), (24, true, .slice (some ⟨b131, 0, none⟩) (nn + 1) (nn + 1)), (25, true, .int .i64 s.lease), (26, true, .int .i64 s.of), (27, true, .int .i64 s.since), (28, true, .slice Aw s.ws.length cw), (136, true, .slice A2 lim c2), (137, true, .int .i64 (lim : Int)), (138, true, .int .i64 (j : Int))]) (Li := fun (j : Nat) (s : Sy) (Aw : Option Addr) (cw : Nat) => [boxE b 64 [.int .i64 s.clock, .int .i64 s.lease, .int .i64 s.of, .int .i64 s.since, .bool true, .int .i64 W, .int .i64 s.wants, .slice (some ⟨bg, 0, none⟩) (nn + 1) (nn + 1), .map (some mb)], ownE (some ⟨bg, 0, none⟩) (nn + 1) (nn + 1) 3 1 (glC s.gl), mapE (Value.int .i64) mb [(1, .func (.func 22) #[.pointer (some ⟨b, 0, none⟩)] #[]), (3, .func (.func 23) #[.pointer (some ⟨b, 0, none⟩)] #[])], ownE (some ⟨b131, 0, none⟩) (nn + 1) (nn + 1) 3 1 (glC s.gl), ownE Aw s.ws.length cw 45 3 (wordC s.ws), ownE Aa nn ca 33 1 (ptrN us), ownE As nn csx 36 1 (ptrS us), allE (s.us.map (unitE long))]) (I := fun (j : Nat) (s : Sy) (Aw : Option Addr) (cw : Nat) => j ≤ lim ∧ Ok nn long (j : Int) (13 * j : Int) s ∧ s.us.map Un.bN = us.map Un.bN ∧ s.us.map Un.bS = us.map Un.bS) (μ := fun (j : Nat) (s : Sy) (Aw : Option Addr) (cw : Nat) => lim - j) (j + 1) s Aw cw ⟨by omega, hok.mono (by omega) (by omega), hbN, hbS⟩ (by omega) (subCons (mca m5) (subCons (mca m6) (subCons (mca m7) (subCons (mca m8) (subCons (mca m9) (subCons (mca m10) (subCons (mca m11) (subCons (mca m12) (subCons (mca m13) (subCons (mca m14) (subCons (mca m15) (subCons (mca m16) (subCons (mca m17) (subCons (mca m18) (subCons (mca m19) (subCons (mca m20) (subCons (mca m0) subNil))))))))))))))))) (Pm.perm (by repeat (first | exact .nil | refine .cons (by repeat (first | exact .hd | apply Take.tl)) ?_)))
         ·
          try simp only [Bool.and_eq_true, Bool.or_eq_true, Bool.not_eq_true', Bool.not_eq_false', Bool.and_eq_false_iff, Bool.or_eq_false_iff, decide_eq_true_eq, decide_eq_false_iff_not, beq_iff_eq, Bool.not_eq_true, Bool.not_eq_false] at hc13
          obtain ⟨wi, hwi, hwin⟩ : ∃ wi : Nat, w0.tmod (s.ws.length : Int) = (wi : Int) ∧ wi < s.ws.length := by
            have e4 : w0.tmod (s.ws.length : Int) = w0 % (s.ws.length : Int) := Int.tmod_eq_emod_of_nonneg hw0.1
            have e5 := Int.emod_nonneg w0 (b := (s.ws.length : Int)) (by omega)
            have e6 := Int.emod_lt_of_pos w0 (b := (s.ws.length : Int)) (by omega)
            exact ⟨(w0 % (s.ws.length : Int)).toNat, by omega, by omega⟩
          obtain ⟨⟨wk, x, m⟩, hwE0⟩ : ∃ p, s.ws[wi]? = some p := ⟨_, List.getElem?_eq_getElem hwin⟩
          have hwm := List.mem_of_getElem? hwE0
          have hwok := hok.wok wk x m hwm
          obtain ⟨xn, rfl⟩ : ∃ xn : Nat, x = (xn : Int) := ⟨x.toNat, by omega⟩
          have hwE : (wordC s.ws)[wi]? = some [Value.int .i64 wk, Value.int .i64 (xn : Int), Value.int .i64 m] := by simp [wordC, hwE0]
          obtain ⟨v, hv⟩ : ∃ v, s.us[xn - 1]? = some v := ⟨_, List.getElem?_eq_getElem (by have := hok.uslen; omega)⟩
          have hvid : (xn : Int) = v.id := by have := hok.ids _ v hv; omega
          have hvN := ptrN_get hbN hv
          have hvS := ptrS_get hbS hv
          have hvun := hok.un _ v hv
          have hv1 := hvun.clk
          have hv2 := hvun.num
          have hv3 := hvun.en
          have hv4 := hvun.len
          obtain ⟨g, hg⟩ : ∃ g, s.gl[xn]? = some g := ⟨_, List.getElem?_eq_getElem (by omega)⟩
          have hgE : (glC s.gl)[xn]? = some [Value.int .i64 g] := by simp [glC, hg]
          have hglb := hok.glb xn g hg
          refine tr_skip ?_
          refine qt_then ?_
          refine tr_seq ?_
          -- region 45
          refine tr_plain ?_
          refine r_move .none (.t m16) rfl rfl ?_
          refine r_fieldAddr fd43_2 .none (.t m21) rfl rfl ?_
          refine r_load [_] ty5 .none (.t m0) (by first | (refine sees_l ?_; (repeat (first | exact hd | apply tl)); done) | (apply sees_own; apply sees_l; (repeat (first | exact hd | apply tl)); done) | exact sees_r (by assumption)) rfl rfl (.one _) rfl rfl ?_
          refine r_conv _ Try.underlying5 Try.underlying3 .none (.t m0) (fun _ => IntWalk.i64_in _ (by omega)) rfl rfl ?_
          refine r_move .none (.t m20) rfl rfl ?_
          refine r_lenSl Try.underlying41 .none (.t m0) rfl rfl ?_
          refine r_rem .none (.t m2) (.t m0) (fun _ => by omega) rfl rfl ?_
          refine tl_valh (v' := .int .i64 (wi : Int)) (by rw [hwi]) ?_
          refine r_indexAddr sl41 (by first | (refine sees_l ?_; (repeat (first | exact hd | apply tl)); done) | (apply sees_own; apply sees_l; (repeat (first | exact hd | apply tl)); done) | exact sees_r (by assumption)) .none (.t m6) (.t m0) (fun _ => by omega) rfl rfl ?_
          refine r_loadEl [_, _, _] ty45 (by first | (refine sees_l ?_; (repeat (first | exact hd | apply tl)); done) | (apply sees_own; apply sees_l; (repeat (first | exact hd | apply tl)); done) | exact sees_r (by assumption)) .none (.t m0) (fun _ => hwE) rfl rfl (.agg _) rfl rfl ?_
          refine r_alloc [.int .i64 0, .int .i64 0, .int .i64 0] el45 rfl .none (fun _ _ _ => trivial) rfl rfl (fun b37 => ?_)
          refine r_store [_, _, _] ty45 .none (.t m0) (.t m1) (Take.perm (by repeat (first | exact .hd | apply Take.tl))) rfl rfl rfl rfl (fun _ _ => trivial) ?_
          refine tl_nil ?_
          refine qt_then ?_
          refine tr_seq ?_
          refine tr_seq ?_
          -- region 46
          refine tr_plain ?_
          refine r_fieldAddr fd45_0 .none (.t m0) rfl rfl ?_
          refine r_load [_] ty3 .none (.t m0) (by first | (refine sees_l ?_; (repeat (first | exact hd | apply tl)); done) | (apply sees_own; apply sees_l; (repeat (first | exact hd | apply tl)); done) | exact sees_r (by assumption)) rfl rfl (.one _) rfl rfl ?_
          refine r_eql .none (.t m0) (.c _ _) rfl rfl ?_
          refine tl_nil ?_
          refine qt_then ?_
          -- c14
          refine tr_cond (.t m0) (fun hc14 => ?_) (fun hc14 => ?_)
          ·
           try simp only [Bool.and_eq_true, Bool.or_eq_true, Bool.not_eq_true', Bool.not_eq_false', Bool.and_eq_false_iff, Bool.or_eq_false_iff, decide_eq_true_eq, decide_eq_false_iff_not, beq_iff_eq, Bool.not_eq_true, Bool.not_eq_false] at hc14
           refine tr_seq ?_
           -- region 47
           refine tr_plain ?_
           refine r_move .none (.t m22) rfl rfl ?_
           refine r_fieldAddr fd45_1 .none (.t m4) rfl rfl ?_
           refine r_load [_] ty3 .none (.t m0) (by first | (refine sees_l ?_; (repeat (first | exact hd | apply tl)); done) | (apply sees_own; apply sees_l; (repeat (first | exact hd | apply tl)); done) | exact sees_r (by assumption)) rfl rfl (.one _) rfl rfl ?_
           refine r_sub .none (.t m0) (.c _ _) (fun _ => by omega) rfl rfl ?_
           refine tl_valh (v' := .int .i64 ((xn - 1 : Nat) : Int)) (congrArg (Value.int .i64) (by omega)) ?_
           refine r_indexAddr sl32 (by first | (refine sees_l ?_; (repeat (first | exact hd | apply tl)); done) | (apply sees_own; apply sees_l; (repeat (first | exact hd | apply tl)); done) | exact sees_r (by assumption)) .none (.t m3) (.t m0) (fun _ => by omega) rfl rfl ?_
           refine r_loadEl [_] ty36 (by first | (refine sees_l ?_; (repeat (first | exact hd | apply tl)); done) | (apply sees_own; apply sees_l; (repeat (first | exact hd | apply tl)); done) | exact sees_r (by assumption)) .none (.t m0) (fun _ => hvS) rfl rfl (.one _) rfl rfl ?_
           refine r_assign .none (.t m0) rfl rfl ?_
           refine tl_nil ?_
           refine qt_then ?_
           refine tr_seq ?_
           refine tr_seq ?_
           -- region 48 draws
           obtain rfl : wk = 2 := hc14
           rcases hp : pickA m v.asks with _ | q
           ·
            -- region 48 draws
            refine tr_open4 (.tl (.tl (.tl (.tl (.tl (.tl (.tl (.tl .hd)))))))) (unit_at hv) ?_
            refine tr_ord [(0, false), (1, false), (2, false), (3, false), (4, false), (5, false), (6, false), (7, false), (8, false), (9, false), (10, false), (11, false)] [] _ _ (List.Sublist.refl _) (List.Sublist.refl _) mixedO (by kernel_rfl) ?_
            -- all early
            refine r_move .none (.t m0) rfl rfl ?_
            refine r_nilCheckP .none (.t m0) rfl rfl ?_
            refine r_fieldAddr fd39_3 .none (.t m0) rfl rfl ?_
            refine r_load [_] ty37 .none (.t m0) (by first | (refine sees_c ?_; (repeat (first | exact hd | apply tl)); done) | (apply sees_own; apply sees_c; (repeat (first | exact hd | apply tl)); done) | exact sees_rc (by assumption)) rfl rfl (.one _) rfl rfl ?_
            refine r_fieldAddr fd45_2 .none (.t m14) rfl rfl ?_
            refine r_load [_] ty3 .none (.t m0) (by first | (refine sees_c ?_; (repeat (first | exact hd | apply tl)); done) | (apply sees_own; apply sees_c; (repeat (first | exact hd | apply tl)); done) | exact sees_rc (by assumption)) rfl rfl (.one _) rfl rfl ?_
            refine r_lookupOk Try.underlying37 ke3 el3 (by first | (refine sees_c ?_; (repeat (first | exact hd | apply tl)); done) | (apply sees_own; apply sees_c; (repeat (first | exact hd | apply tl)); done) | exact sees_rc (by assumption)) .none (.t m2) (.t m0) rfl rfl ?_
            refine tl_valh (v' := .tuple #[.int .i64 0, .bool false]) (by rw [look_ask, hp]; rfl) ?_
            refine r_move .none (.t m0) rfl rfl ?_
            refine r_extract .none (.t m0) rfl rfl rfl ?_
            refine r_extract .none (.t m1) rfl rfl rfl ?_
            refine r_assign .none (.t m1) rfl rfl ?_
            refine r_assign .none (.t m1) rfl rfl ?_
            refine tl_nil ?_
            refine qt_late (List.Sublist.refl _) ?_
            refine tl_nil ?_
            refine qt_then ?_
            refine tr_seq ?_
            -- region 49
            refine tr_plain ?_
            refine r_move .none (.t m0) rfl rfl ?_
            refine tl_nil ?_
            refine qt_then ?_
            -- c15
            refine tr_cond (.t m0) (fun hc15 => ?_) (fun hc15 => ?_)
            · exfalso; first | (simp at hc15; done) | (simp only [Bool.and_eq_true, Bool.or_eq_true, Bool.not_eq_true', Bool.not_eq_false', Bool.and_eq_false_iff, Bool.or_eq_false_iff, decide_eq_true_eq, decide_eq_false_iff_not, beq_iff_eq, Bool.not_eq_true, Bool.not_eq_false] at hc15; omega) | (simp at hc15; omega)
            ·
             try simp only [Bool.and_eq_true, Bool.or_eq_true, Bool.not_eq_true', Bool.not_eq_false', Bool.and_eq_false_iff, Bool.or_eq_false_iff, decide_eq_true_eq, decide_eq_false_iff_not, beq_iff_eq, Bool.not_eq_true, Bool.not_eq_false] at hc15
             refine tr_skip ?_
             refine qt_then ?_
             refine tr_seq ?_
             refine tr_seq ?_
             -- region 56 draws
             refine tr_ord [(0, false), (1, false), (2, false), (3, false), (4, false), (5, false), (6, false)] [(7, true), (8, false)] _ _ (List.Sublist.refl _) (.cons _ (.cons _ (List.Sublist.refl _))) mixedO (by kernel_rfl) ?_
             refine r_move .none (.t m41) rfl rfl ?_
             refine r_fieldAddr fd45_1 .none (.t m24) rfl rfl ?_
             refine r_load [_] ty3 .none (.t m0) (by first | (refine sees_c ?_; (repeat (first | exact hd | apply tl)); done) | (apply sees_own; apply sees_c; (repeat (first | exact hd | apply tl)); done) | exact sees_rc (by assumption)) rfl rfl (.one _) rfl rfl ?_
             refine r_sub .none (.t m0) (.c _ _) (fun _ => by omega) rfl rfl ?_
             refine tl_valh (v' := .int .i64 ((xn - 1 : Nat) : Int)) (congrArg (Value.int .i64) (by omega)) ?_
             refine r_indexAddr sl31 (by first | (refine sees_c ?_; (repeat (first | exact hd | apply tl)); done) | (apply sees_own; apply sees_c; (repeat (first | exact hd | apply tl)); done) | exact sees_rc (by assumption)) .none (.t m3) (.t m0) (fun _ => by omega) rfl rfl ?_
             refine r_loadEl [_] ty33 (by first | (refine sees_c ?_; (repeat (first | exact hd | apply tl)); done) | (apply sees_own; apply sees_c; (repeat (first | exact hd | apply tl)); done) | exact sees_rc (by assumption)) .none (.t m0) (fun _ => hvN) rfl rfl (.one _) rfl rfl ?_
             refine r_load [_, _, _] ty45 .none (.t m29) (by first | (refine sees_c ?_; (repeat (first | exact hd | apply tl)); done) | (apply sees_own; apply sees_c; (repeat (first | exact hd | apply tl)); done) | exact sees_rc (by assumption)) rfl rfl (.agg _) rfl rfl ?_
             refine tl_valh (v' := .agg #[.int .i64 2, .int .i64 v.id, .int .i64 m]) (by rw [hvid]) ?_
             refine tl_nil ?_
             refine qt_late (.cons _ (.cons _ (List.Sublist.refl _))) ?_
             refine r_call _ _ _ en9 .none (.f _ _) (.cons (.t m1) (.cons (.t m0) .nil)) (fun w hw => callL (.cons .hd (.cons .hd .nil)) hw (fun h => Hear_none _ _ _ _ _ _ _ _ _ v.asks m (by omega) (by omega) (by omega) hp w h)) (fun _ _ _ => keepC (.cons _ (.cons _ (List.Sublist.refl _))) _) rfl rfl ?_
             rintro ⟨⟩ _
             refine r_neq .none (.t m0) (.c _ _) rfl rfl ?_
             refine tl_nil ?_
             refine qt_shut4 (.cons .hd (.cons .hd (.cons .hd (.cons .hd (.cons .hd .nil))))) (by simpa using (List.getElem?_eq_some_iff.1 hv).1) (unit_same hv rfl) ?_
             refine qt_then ?_
             -- c18
             refine tr_cond (.t m0) (fun hc18 => ?_) (fun hc18 => ?_)
             · exfalso; first | (simp at hc18; done) | (simp only [Bool.and_eq_true, Bool.or_eq_true, Bool.not_eq_true', Bool.not_eq_false', Bool.and_eq_false_iff, Bool.or_eq_false_iff, decide_eq_true_eq, decide_eq_false_iff_not, beq_iff_eq, Bool.not_eq_true, Bool.not_eq_false] at hc18; omega) | (simp at hc18; omega)
             ·
              try simp only [Bool.and_eq_true, Bool.or_eq_true, Bool.not_eq_true', Bool.not_eq_false', Bool.and_eq_false_iff, Bool.or_eq_false_iff, decide_eq_true_eq, decide_eq_false_iff_not, beq_iff_eq, Bool.not_eq_true, Bool.not_eq_false] at hc18
              refine tr_skip ?_
              refine qt_then ?_
              refine tr_exit ?_
              refine qt_then_exit ?_
              refine qt_block_hit ?_
              refine qt_kl (.cons (.tl (.tl .hd)) (.cons (.tl (.tl .hd)) (.cons (.tl (.tl .hd)) (.cons (.tl (.tl .hd)) (.cons (.tl (.tl .hd)) (.cons (.tl (.tl .hd)) (.cons (.tl (.tl .hd)) (.cons .hd .nil)))))))) ?_
              exact hcut_b4 s Aw cw ⟨hok.mono (by omega) (by omega), hbN, hbS⟩ (subCons (mca m45) (subCons (mca m46) (subCons (mca m47) (subCons (mca m48) (subCons (mca m49) (subCons (mca m50) (subCons (mca m51) (subCons (mca m52) (subCons (mca m53) (subCons (mca m54) (subCons (mca m55) (subCons (mca m56) (subCons (mca m57) (subCons (mca m58) (subCons (mca m59) (subCons (mca (tl (m59))) (subCons (mca (tl (tl (m59)))) subNil))))))))))))))))) (Pm.perm (by repeat (first | exact .nil | refine .cons (by repeat (first | exact .hd | apply Take.tl)) ?_)))
           ·
            have hqm := List.mem_of_getElem? (pickA_mem hp)
            have hqa := hvun.asks _ hqm
            dsimp only at hqa
            -- region 48 draws
            refine tr_open4 (.tl (.tl (.tl (.tl (.tl (.tl (.tl (.tl .hd)))))))) (unit_at hv) ?_
            refine tr_ord [(0, false), (1, false), (2, false), (3, false), (4, false), (5, false), (6, false), (7, false), (8, false), (9, false), (10, false), (11, false)] [] _ _ (List.Sublist.refl _) (List.Sublist.refl _) mixedO (by kernel_rfl) ?_
            -- all early
            refine r_move .none (.t m0) rfl rfl ?_
            refine r_nilCheckP .none (.t m0) rfl rfl ?_
            refine r_fieldAddr fd39_3 .none (.t m0) rfl rfl ?_
            refine r_load [_] ty37 .none (.t m0) (by first | (refine sees_c ?_; (repeat (first | exact hd | apply tl)); done) | (apply sees_own; apply sees_c; (repeat (first | exact hd | apply tl)); done) | exact sees_rc (by assumption)) rfl rfl (.one _) rfl rfl ?_
            refine r_fieldAddr fd45_2 .none (.t m14) rfl rfl ?_
            refine r_load [_] ty3 .none (.t m0) (by first | (refine sees_c ?_; (repeat (first | exact hd | apply tl)); done) | (apply sees_own; apply sees_c; (repeat (first | exact hd | apply tl)); done) | exact sees_rc (by assumption)) rfl rfl (.one _) rfl rfl ?_
            refine r_lookupOk Try.underlying37 ke3 el3 (by first | (refine sees_c ?_; (repeat (first | exact hd | apply tl)); done) | (apply sees_own; apply sees_c; (repeat (first | exact hd | apply tl)); done) | exact sees_rc (by assumption)) .none (.t m2) (.t m0) rfl rfl ?_
            refine tl_valh (v' := .tuple #[.int .i64 q.2, .bool true]) (by rw [look_ask, hp]; rfl) ?_
            refine r_move .none (.t m0) rfl rfl ?_
            refine r_extract .none (.t m0) rfl rfl rfl ?_
            refine r_extract .none (.t m1) rfl rfl rfl ?_
            refine r_assign .none (.t m1) rfl rfl ?_
            refine r_assign .none (.t m1) rfl rfl ?_
            refine tl_nil ?_
            refine qt_late (List.Sublist.refl _) ?_
            refine tl_nil ?_
            refine qt_then ?_
            refine tr_seq ?_
            -- region 49
            refine tr_plain ?_
            refine r_move .none (.t m0) rfl rfl ?_
            refine tl_nil ?_
            refine qt_then ?_
            -- c15
            refine tr_cond (.t m0) (fun hc15 => ?_) (fun hc15 => ?_)
            ·
             try simp only [Bool.and_eq_true, Bool.or_eq_true, Bool.not_eq_true', Bool.not_eq_false', Bool.and_eq_false_iff, Bool.or_eq_false_iff, decide_eq_true_eq, decide_eq_false_iff_not, beq_iff_eq, Bool.not_eq_true, Bool.not_eq_false] at hc15
             refine tr_seq ?_
             -- region 50
             refine tr_plain ?_
             refine r_move .none (.t m13) rfl rfl ?_
             refine r_move .none (.t m14) rfl rfl ?_
             refine r_nilCheckP .none (.t m0) rfl rfl ?_
             refine r_fieldAddr fd39_2 .none (.t m0) rfl rfl ?_
             refine r_load [_] ty3 .none (.t m0) (by first | (refine sees_l ?_; (repeat (first | exact hd | apply tl)); done) | (apply sees_own; apply sees_l; (repeat (first | exact hd | apply tl)); done) | exact sees_r (by assumption)) rfl rfl (.one _) rfl rfl ?_
             refine r_move .none (.t m7) rfl rfl ?_
             refine r_move .none (.t m44) rfl rfl ?_
             refine r_add .none (.t m1) (.t m0) (fun _ => by omega) rfl rfl ?_
             refine r_maxI .none (.t m3) (.t m0) rfl rfl ?_
             refine r_nilCheckP .none (.t m8) rfl rfl ?_
             refine r_fieldAddr fd39_2 .none (.t m0) rfl rfl ?_
             refine r_store [_, _, _, _] ty3 .none (.t m0) (.t m2) (Take.perm (by repeat (first | exact .hd | apply Take.tl))) rfl rfl rfl rfl (fun _ _ => trivial) ?_
             refine tl_nil ?_
             refine qt_then ?_
             refine tr_seq ?_
             -- region 51
             refine tr_plain ?_
             refine r_move .none (.t m24) rfl rfl ?_
             refine r_nilCheckP .none (.t m0) rfl rfl ?_
             refine r_fieldAddr fd39_3 .none (.t m0) rfl rfl ?_
             refine r_load [_] ty37 .none (.t m0) (by first | (refine sees_l ?_; (repeat (first | exact hd | apply tl)); done) | (apply sees_own; apply sees_l; (repeat (first | exact hd | apply tl)); done) | exact sees_r (by assumption)) rfl rfl (.one _) rfl rfl ?_
             refine r_range Try.underlying37 ke3 .none (.t m0) (by repeat (first | exact .hd | apply Take.tl)) (fun _ _ _ _ => trivial) rfl rfl (fun it261 hne261 => ?_)
             refine tl_nil ?_
             refine qt_then ?_
             refine tr_block ?_
             refine tr_eq (y := rngE (Value.int .i64) v.mb it261 (keepM m (v.asks.map Prod.fst) v.asks) (v.asks.map Prod.fst) none) .hd (by rw [keepM_all]; simp [askM, Function.comp_def]) ?_
             refine tr_kl (.cons (.tl (.tl (.tl (.tl (.tl (.tl .hd)))))) (.cons (.tl (.tl (.tl (.tl (.tl (.tl .hd)))))) (.cons (.tl (.tl (.tl (.tl (.tl (.tl .hd)))))) (.cons (.tl (.tl (.tl (.tl (.tl (.tl .hd)))))) (.cons (.tl (.tl (.tl (.tl (.tl (.tl .hd)))))) (.cons (.tl (.tl (.tl (.tl (.tl (.tl .hd)))))) (.cons (.tl (.tl (.tl (.tl (.tl (.tl .hd)))))) (.cons (.tl (.tl .hd)) (.cons (.tl (.tl .hd)) (.cons (.tl .hd) (.cons .hd (.cons .hd (.cons .hd .nil))))))))))))) ?_
             refine tr_loop2 (fun (left : List Int) (cur : Option Int) => [(8, true, .bool false), (9, true, .int .i64 (nn : Int)), (10, true, .int .i64 long), (12, true, .pointer (some ⟨b, 0, none⟩)), (14, true, .int .i64 W), (17, true, .slice Aa nn ca), (18, true, .slice As nn csx), (22, true, .int .i64 s.clock), (23, true, .int .i64 s.wants), (24, true, .slice (some ⟨b131, 0, none⟩) (nn + 1) (nn + 1)), (25, true, .int .i64 s.lease), (26, true, .int .i64 s.of), (27, true, .int .i64 s.since), (28, true, .slice Aw s.ws.length cw), (136, true, .slice A2 lim c2), (137, true, .int .i64 (lim : Int)), (138, true, .int .i64 (j : Int)), (37, true, .pointer (some ⟨b37, 0, none⟩)), (38, true, .pointer (some ⟨v.bS, 0, none⟩)), (261, true, .pointer (some ⟨it261, 0, none⟩))]) (fun (left : List Int) (cur : Option Int) => [boxE b 64 [.int .i64 s.clock, .int .i64 s.lease, .int .i64 s.of, .int .i64 s.since, .bool true, .int .i64 W, .int .i64 s.wants, .slice (some ⟨bg, 0, none⟩) (nn + 1) (nn + 1), .map (some mb)], ownE (some ⟨bg, 0, none⟩) (nn + 1) (nn + 1) 3 1 (glC s.gl), mapE (Value.int .i64) mb [(1, .func (.func 22) #[.pointer (some ⟨b, 0, none⟩)] #[]), (3, .func (.func 23) #[.pointer (some ⟨b, 0, none⟩)] #[])], ownE (some ⟨b131, 0, none⟩) (nn + 1) (nn + 1) 3 1 (glC s.gl), ownE Aw s.ws.length cw 45 3 (wordC s.ws), ownE Aa nn ca 33 1 (ptrN us), ownE As nn csx 36 1 (ptrS us), boxE v.bN 70 [.int .i64 v.clock, .bool true, .int .i64 v.id, .int .i64 long, .int .i64 v.en, .int .i64 v.num, .slice v.A v.asks.length v.c], ownE v.A v.asks.length v.c 77 2 (v.asks.map (fun p : Int × Int => [Value.int .i64 p.1, Value.int .i64 p.2])), boxE v.bS 39 [.int .i64 v.clock, .int .i64 v.num, .int .i64 (max v.en (q.2 + long)), .map (some v.mb)], rngE (Value.int .i64) v.mb it261 (keepM m left v.asks) left cur, allE ((s.us.map (unitE long)).eraseIdx (xn - 1)), boxE b37 45 [.int .i64 2, .int .i64 (xn : Int), .int .i64 m]]) (fun (left : List Int) (cur : Option Int) => True) (fun (left : List Int) (cur : Option Int) => left.length) (v.asks.map Prod.fst) none (trivial) (subCons (mca m52) (subCons (mca m53) (subCons (mca m54) (subCons (mca m55) (subCons (mca m56) (subCons (mca m57) (subCons (mca m58) (subCons (mca m59) (subCons (mca (tl (m59))) (subCons (mca (tl (tl (m59)))) (subCons (mca (tl (tl (tl (m59))))) (subCons (mca (tl (tl (tl (tl (m59)))))) (subCons (mca (tl (tl (tl (tl (tl (m59))))))) (subCons (mca (tl (tl (tl (tl (tl (tl (m59)))))))) (subCons (mca (tl (tl (tl (tl (tl (tl (tl (m59))))))))) (subCons (mca (tl (tl (tl (tl (tl (tl (tl (tl (m59)))))))))) (subCons (mca (tl (tl (tl (tl (tl (tl (tl (tl (tl (m59))))))))))) (subCons (mca m39) (subCons (mca m29) (subCons (mca m0) subNil)))))))))))))))))))) (Pm.perm (by repeat (first | exact .nil | refine .cons (by repeat (first | exact .hd | apply Take.tl)) ?_))) ?_
             intro left cur hI
             refine tr_seq ?_
             -- region 52
             refine tr_plain ?_
             refine r_next ke3 (by assumption) .none (.t m19) (by repeat (first | exact .hd | apply Take.tl)) (fun _ _ => trivial) (fun _ _ _ => trivial) rfl rfl (fun hnx => ?_) (fun kk vv hkk hvv => ?_)
             ·
              refine r_extract .none (.t m0) rfl rfl rfl ?_
              refine tl_nil ?_
              refine qt_then ?_
              refine tr_seq ?_
              -- c16
              refine tr_cond (.t m0) (fun hc16 => ?_) (fun hc16 => ?_)
              · cases hc16
              ·
               refine tr_exit ?_
               refine qt_then_exit ?_
               refine qt_loop_exit ?_
               refine qt_block_hit ?_
               refine qt_then ?_
               refine tr_seq ?_
               refine tr_seq ?_
               -- region 56 draws
               subst hnx
               refine tr_less .hd rng_map.1 (fun w h => rng_map.2 w h) ?_
               refine tr_eq (y := mapE (Value.int .i64) v.mb (askM (v.asks.drop (q.1 + 1)))) .hd (by rw [keepM_nil, drop_ask hvun.up hp]) ?_
               refine tr_ord [(0, false), (1, false), (2, false), (3, false), (4, false), (5, false), (6, false)] [(7, true), (8, false)] _ _ (List.Sublist.refl _) (.cons_cons _ (.cons_cons _ (.cons_cons _ (.cons_cons _ (.cons_cons _ (.cons_cons _ (.cons_cons _ (.cons_cons _ (.cons _ (.cons _ (List.Sublist.refl _))))))))))) mixedO (by kernel_rfl) ?_
               refine r_move .none (.t m7) rfl rfl ?_
               refine r_fieldAddr fd45_1 .none (.t m20) rfl rfl ?_
               refine r_load [_] ty3 .none (.t m0) (by first | (refine sees_c ?_; (repeat (first | exact hd | apply tl)); done) | (apply sees_own; apply sees_c; (repeat (first | exact hd | apply tl)); done) | exact sees_rc (by assumption)) rfl rfl (.one _) rfl rfl ?_
               refine r_sub .none (.t m0) (.c _ _) (fun _ => by omega) rfl rfl ?_
               refine tl_valh (v' := .int .i64 ((xn - 1 : Nat) : Int)) (congrArg (Value.int .i64) (by omega)) ?_
               refine r_indexAddr sl31 (by first | (refine sees_c ?_; (repeat (first | exact hd | apply tl)); done) | (apply sees_own; apply sees_c; (repeat (first | exact hd | apply tl)); done) | exact sees_rc (by assumption)) .none (.t m3) (.t m0) (fun _ => by omega) rfl rfl ?_
               refine r_loadEl [_] ty33 (by first | (refine sees_c ?_; (repeat (first | exact hd | apply tl)); done) | (apply sees_own; apply sees_c; (repeat (first | exact hd | apply tl)); done) | exact sees_rc (by assumption)) .none (.t m0) (fun _ => hvN) rfl rfl (.one _) rfl rfl ?_
               refine r_load [_, _, _] ty45 .none (.t m25) (by first | (refine sees_c ?_; (repeat (first | exact hd | apply tl)); done) | (apply sees_own; apply sees_c; (repeat (first | exact hd | apply tl)); done) | exact sees_rc (by assumption)) rfl rfl (.agg _) rfl rfl ?_
               refine tl_valh (v' := .agg #[.int .i64 2, .int .i64 v.id, .int .i64 m]) (by rw [hvid]) ?_
               refine tl_nil ?_
               refine qt_late (.cons_cons _ (.cons_cons _ (.cons_cons _ (.cons_cons _ (.cons_cons _ (.cons_cons _ (.cons_cons _ (.cons_cons _ (.cons _ (.cons _ (List.Sublist.refl _))))))))))) ?_
               refine r_call _ _ _ en9 .none (.f _ _) (.cons (.t m1) (.cons (.t m0) .nil)) (fun w hw => callL (.cons (.tl (.tl (.tl (.tl (.tl (.tl (.tl (.tl .hd)))))))) (.cons (.tl (.tl (.tl (.tl (.tl (.tl (.tl (.tl .hd)))))))) .nil)) hw (fun h => Hear_some _ _ _ _ _ _ _ _ _ v.asks m (by omega) (by omega) (by omega) q hp (by omega) (by omega) w h)) (fun _ _ _ => keepC (.cons _ (.cons _ (List.Sublist.refl _))) _) rfl rfl ?_
               rintro ⟨⟩ _
               refine r_neq .none (.t m0) (.c _ _) rfl rfl ?_
               refine tl_nil ?_
               refine qt_shut4 (.cons .hd (.cons .hd (.cons (.tl (.tl (.tl (.tl (.tl (.tl (.tl (.tl .hd)))))))) (.cons .hd (.cons (.tl (.tl (.tl (.tl (.tl (.tl (.tl .hd))))))) .nil))))) (by simpa using (List.getElem?_eq_some_iff.1 hv).1) (unit_set (v := ({ v with en := max v.en (q.2 + long), asks := v.asks.drop (q.1 + 1), A := fromA v.A v.c (q.1 + 1) 2, c := v.c - (q.1 + 1) } : Un)) (by simp [unitL, List.length_drop, List.map_drop])) ?_
               refine qt_then ?_
               -- c18
               refine tr_cond (.t m0) (fun hc18 => ?_) (fun hc18 => ?_)
               · exfalso; first | (simp at hc18; done) | (simp only [Bool.and_eq_true, Bool.or_eq_true, Bool.not_eq_true', Bool.not_eq_false', Bool.and_eq_false_iff, Bool.or_eq_false_iff, decide_eq_true_eq, decide_eq_false_iff_not, beq_iff_eq, Bool.not_eq_true, Bool.not_eq_false] at hc18; omega) | (simp at hc18; omega)
               ·
                try simp only [Bool.and_eq_true, Bool.or_eq_true, Bool.not_eq_true', Bool.not_eq_false', Bool.and_eq_false_iff, Bool.or_eq_false_iff, decide_eq_true_eq, decide_eq_false_iff_not, beq_iff_eq, Bool.not_eq_true, Bool.not_eq_false] at hc18
                refine tr_skip ?_
                refine qt_then ?_
                refine tr_exit ?_
                refine qt_then_exit ?_
                refine qt_block_hit ?_
                refine qt_kl (.cons (.tl .hd) (.cons (.tl .hd) (.cons (.tl .hd) (.cons (.tl .hd) (.cons (.tl .hd) (.cons (.tl .hd) (.cons (.tl .hd) (.cons .hd .nil)))))))) ?_
                exact hcut_b4 ({ s with us := s.us.set (xn - 1) ({ v with en := max v.en (q.2 + long), asks := v.asks.drop (q.1 + 1), A := fromA v.A v.c (q.1 + 1) 2, c := v.c - (q.1 + 1) } : Un) } : Sy) Aw cw ⟨(hok.grant hv (by rw [← hvid]; exact hwm) hqm _ (List.drop_sublist _ _) _ _ (by omega)).mono (by omega) (by omega), setB hbN hv rfl, setB hbS hv rfl⟩ (subCons (mca m11) (subCons (mca m12) (subCons (mca m13) (subCons (mca m14) (subCons (mca m15) (subCons (mca m16) (subCons (mca m17) (subCons (mca m18) (subCons (mca m19) (subCons (mca m20) (subCons (mca m21) (subCons (mca m22) (subCons (mca m23) (subCons (mca m24) (subCons (mca m25) (subCons (mca m26) (subCons (mca m27) subNil))))))))))))))))) (Pm.perm (by repeat (first | exact .nil | refine .cons (by repeat (first | exact .hd | apply Take.tl)) ?_)))
             ·
              refine r_extract .none (.t m0) rfl rfl rfl ?_
              refine tl_nil ?_
              refine qt_then ?_
              refine tr_seq ?_
              -- c16
              refine tr_cond (.t m0) (fun hc16 => ?_) (fun hc16 => ?_)
              ·
               refine tr_skip ?_
               refine qt_then ?_
               refine tr_block ?_
               refine tr_seq ?_
               -- region 53
               refine tr_plain ?_
               refine r_entry ke3 (by first | (refine sees_l ?_; (repeat (first | exact hd | apply tl)); done) | (apply sees_own; apply sees_l; (repeat (first | exact hd | apply tl)); done) | exact sees_r (by assumption)) .none (.t m21) rfl rfl ?_
               refine r_extract .none (.t m0) rfl rfl rfl ?_
               refine r_assign .none (.t m0) rfl rfl ?_
               refine tl_nil ?_
               refine qt_then ?_
               refine tr_seq ?_
               -- region 54
               refine tr_plain ?_
               refine r_move .none (.t m0) rfl rfl ?_
               refine r_fieldAddr fd45_2 .none (.t m23) rfl rfl ?_
               refine r_load [_] ty3 .none (.t m0) (by first | (refine sees_l ?_; (repeat (first | exact hd | apply tl)); done) | (apply sees_own; apply sees_l; (repeat (first | exact hd | apply tl)); done) | exact sees_r (by assumption)) rfl rfl (.one _) rfl rfl ?_
               refine r_leq .none (.t m2) (.t m0) rfl rfl ?_
               refine tl_nil ?_
               refine qt_then ?_
               -- c17
               refine tr_cond (.t m0) (fun hc17 => ?_) (fun hc17 => ?_)
               ·
                try simp only [Bool.and_eq_true, Bool.or_eq_true, Bool.not_eq_true', Bool.not_eq_false', Bool.and_eq_false_iff, Bool.or_eq_false_iff, decide_eq_true_eq, decide_eq_false_iff_not, beq_iff_eq, Bool.not_eq_true, Bool.not_eq_false] at hc17
                -- region 55
                refine tr_plain ?_
                refine r_move .none (.t m27) rfl rfl ?_
                refine r_nilCheckP .none (.t m0) rfl rfl ?_
                refine r_fieldAddr fd39_3 .none (.t m0) rfl rfl ?_
                refine r_load [_] ty37 .none (.t m0) (by first | (refine sees_l ?_; (repeat (first | exact hd | apply tl)); done) | (apply sees_own; apply sees_l; (repeat (first | exact hd | apply tl)); done) | exact sees_r (by assumption)) rfl rfl (.one _) rfl rfl ?_
                refine r_move .none (.t m8) rfl rfl ?_
                refine r_rngDelete Try.underlying37 ke3 (by assumption) .none (.t m1) (.t m0) (by repeat (first | exact .hd | apply Take.tl)) (fun _ _ => trivial) ?_
                refine tl_nil ?_
                refine qt_block ?_
                first
                  | (refine qt_eq (y := rngE (Value.int .i64) v.mb it261 (keepM m (Sep.without kk left) v.asks) (Sep.without kk left) none) .hd (by rw [keepM_del hc17, without_idem]) ?_; exact qt_round2 (Fi := fun (left : List Int) (cur : Option Int) => [(8, true, .bool false), (9, true, .int .i64 (nn : Int)), (10, true, .int .i64 long), (12, true, .pointer (some ⟨b, 0, none⟩)), (14, true, .int .i64 W), (17, true, .slice Aa nn ca), (18, true, .slice As nn csx), (22, true, .int .i64 s.clock), (23, true, .int .i64 s.wants), (24, true, .slice (some ⟨b131, 0, none⟩) (nn + 1) (nn + 1)), (25, true, .int .i64 s.lease), (26, true, .int .i64 s.of), (27, true, .int .i64 s.since), (28, true, .slice Aw s.ws.length cw), (136, true, .slice A2 lim c2), (137, true, .int .i64 (lim : Int)), (138, true, .int .i64 (j : Int)), (37, true, .pointer (some ⟨b37, 0, none⟩)), (38, true, .pointer (some ⟨v.bS, 0, none⟩)), (261, true, .pointer (some ⟨it261, 0, none⟩))]) (Li := fun (left : List Int) (cur : Option Int) => [boxE b 64 [.int .i64 s.clock, .int .i64 s.lease, .int .i64 s.of, .int .i64 s.since, .bool true, .int .i64 W, .int .i64 s.wants, .slice (some ⟨bg, 0, none⟩) (nn + 1) (nn + 1), .map (some mb)], ownE (some ⟨bg, 0, none⟩) (nn + 1) (nn + 1) 3 1 (glC s.gl), mapE (Value.int .i64) mb [(1, .func (.func 22) #[.pointer (some ⟨b, 0, none⟩)] #[]), (3, .func (.func 23) #[.pointer (some ⟨b, 0, none⟩)] #[])], ownE (some ⟨b131, 0, none⟩) (nn + 1) (nn + 1) 3 1 (glC s.gl), ownE Aw s.ws.length cw 45 3 (wordC s.ws), ownE Aa nn ca 33 1 (ptrN us), ownE As nn csx 36 1 (ptrS us), boxE v.bN 70 [.int .i64 v.clock, .bool true, .int .i64 v.id, .int .i64 long, .int .i64 v.en, .int .i64 v.num, .slice v.A v.asks.length v.c], ownE v.A v.asks.length v.c 77 2 (v.asks.map (fun p : Int × Int => [Value.int .i64 p.1, Value.int .i64 p.2])), boxE v.bS 39 [.int .i64 v.clock, .int .i64 v.num, .int .i64 (max v.en (q.2 + long)), .map (some v.mb)], rngE (Value.int .i64) v.mb it261 (keepM m left v.asks) left cur, allE ((s.us.map (unitE long)).eraseIdx (xn - 1)), boxE b37 45 [.int .i64 2, .int .i64 (xn : Int), .int .i64 m]]) (I := fun (left : List Int) (cur : Option Int) => True) (μ := fun (left : List Int) (cur : Option Int) => left.length) (Sep.without kk left) none trivial (without_lt hkk) (subCons (mca m14) (subCons (mca m15) (subCons (mca m16) (subCons (mca m17) (subCons (mca m18) (subCons (mca m19) (subCons (mca m20) (subCons (mca m21) (subCons (mca m22) (subCons (mca m23) (subCons (mca m24) (subCons (mca m25) (subCons (mca m26) (subCons (mca m27) (subCons (mca m28) (subCons (mca m29) (subCons (mca m30) (subCons (mca m31) (subCons (mca m32) (subCons (mca m33) subNil)))))))))))))))))))) (Pm.perm (by repeat (first | exact .nil | refine .cons (by repeat (first | exact .hd | apply Take.tl)) ?_))))
                  | (refine qt_eq (y := rngE (Value.int .i64) v.mb it261 (keepM m (Sep.without kk left) v.asks) (Sep.without kk left) (some kk)) .hd (by rw [keepM_go (by omega)]) ?_; exact qt_round2 (Fi := fun (left : List Int) (cur : Option Int) => [(8, true, .bool false), (9, true, .int .i64 (nn : Int)), (10, true, .int .i64 long), (12, true, .pointer (some ⟨b, 0, none⟩)), (14, true, .int .i64 W), (17, true, .slice Aa nn ca), (18, true, .slice As nn csx), (22, true, .int .i64 s.clock), (23, true, .int .i64 s.wants), (24, true, .slice (some ⟨b131, 0, none⟩) (nn + 1) (nn + 1)), (25, true, .int .i64 s.lease), (26, true, .int .i64 s.of), (27, true, .int .i64 s.since), (28, true, .slice Aw s.ws.length cw), (136, true, .slice A2 lim c2), (137, true, .int .i64 (lim : Int)), (138, true, .int .i64 (j : Int)), (37, true, .pointer (some ⟨b37, 0, none⟩)), (38, true, .pointer (some ⟨v.bS, 0, none⟩)), (261, true, .pointer (some ⟨it261, 0, none⟩))]) (Li := fun (left : List Int) (cur : Option Int) => [boxE b 64 [.int .i64 s.clock, .int .i64 s.lease, .int .i64 s.of, .int .i64 s.since, .bool true, .int .i64 W, .int .i64 s.wants, .slice (some ⟨bg, 0, none⟩) (nn + 1) (nn + 1), .map (some mb)], ownE (some ⟨bg, 0, none⟩) (nn + 1) (nn + 1) 3 1 (glC s.gl), mapE (Value.int .i64) mb [(1, .func (.func 22) #[.pointer (some ⟨b, 0, none⟩)] #[]), (3, .func (.func 23) #[.pointer (some ⟨b, 0, none⟩)] #[])], ownE (some ⟨b131, 0, none⟩) (nn + 1) (nn + 1) 3 1 (glC s.gl), ownE Aw s.ws.length cw 45 3 (wordC s.ws), ownE Aa nn ca 33 1 (ptrN us), ownE As nn csx 36 1 (ptrS us), boxE v.bN 70 [.int .i64 v.clock, .bool true, .int .i64 v.id, .int .i64 long, .int .i64 v.en, .int .i64 v.num, .slice v.A v.asks.length v.c], ownE v.A v.asks.length v.c 77 2 (v.asks.map (fun p : Int × Int => [Value.int .i64 p.1, Value.int .i64 p.2])), boxE v.bS 39 [.int .i64 v.clock, .int .i64 v.num, .int .i64 (max v.en (q.2 + long)), .map (some v.mb)], rngE (Value.int .i64) v.mb it261 (keepM m left v.asks) left cur, allE ((s.us.map (unitE long)).eraseIdx (xn - 1)), boxE b37 45 [.int .i64 2, .int .i64 (xn : Int), .int .i64 m]]) (I := fun (left : List Int) (cur : Option Int) => True) (μ := fun (left : List Int) (cur : Option Int) => left.length) (Sep.without kk left) (some kk) trivial (without_lt hkk) (subCons (mca m14) (subCons (mca m15) (subCons (mca m16) (subCons (mca m17) (subCons (mca m18) (subCons (mca m19) (subCons (mca m20) (subCons (mca m21) (subCons (mca m22) (subCons (mca m23) (subCons (mca m24) (subCons (mca m25) (subCons (mca m26) (subCons (mca m27) (subCons (mca m28) (subCons (mca m29) (subCons (mca m30) (subCons (mca m31) (subCons (mca m32) (subCons (mca m33) subNil)))))))))))))))))))) (Pm.perm (by repeat (first | exact .nil | refine .cons (by repeat (first | exact .hd | apply Take.tl)) ?_))))
               ·
                try simp only [Bool.and_eq_true, Bool.or_eq_true, Bool.not_eq_true', Bool.not_eq_false', Bool.and_eq_false_iff, Bool.or_eq_false_iff, decide_eq_true_eq, decide_eq_false_iff_not, beq_iff_eq, Bool.not_eq_true, Bool.not_eq_false] at hc17
                refine tr_skip ?_
                refine qt_block ?_
                first
                  | (refine qt_eq (y := rngE (Value.int .i64) v.mb it261 (keepM m (Sep.without kk left) v.asks) (Sep.without kk left) none) .hd (by rw [keepM_del hc17, without_idem]) ?_; exact qt_round2 (Fi := fun (left : List Int) (cur : Option Int) => [(8, true, .bool false), (9, true, .int .i64 (nn : Int)), (10, true, .int .i64 long), (12, true, .pointer (some ⟨b, 0, none⟩)), (14, true, .int .i64 W), (17, true, .slice Aa nn ca), (18, true, .slice As nn csx), (22, true, .int .i64 s.clock), (23, true, .int .i64 s.wants), (24, true, .slice (some ⟨b131, 0, none⟩) (nn + 1) (nn + 1)), (25, true, .int .i64 s.lease), (26, true, .int .i64 s.of), (27, true, .int .i64 s.since), (28, true, .slice Aw s.ws.length cw), (136, true, .slice A2 lim c2), (137, true, .int .i64 (lim : Int)), (138, true, .int .i64 (j : Int)), (37, true, .pointer (some ⟨b37, 0, none⟩)), (38, true, .pointer (some ⟨v.bS, 0, none⟩)), (261, true, .pointer (some ⟨it261, 0, none⟩))]) (Li := fun (left : List Int) (cur : Option Int) => [boxE b 64 [.int .i64 s.clock, .int .i64 s.lease, .int .i64 s.of, .int .i64 s.since, .bool true, .int .i64 W, .int .i64 s.wants, .slice (some ⟨bg, 0, none⟩) (nn + 1) (nn + 1), .map (some mb)], ownE (some ⟨bg, 0, none⟩) (nn + 1) (nn + 1) 3 1 (glC s.gl), mapE (Value.int .i64) mb [(1, .func (.func 22) #[.pointer (some ⟨b, 0, none⟩)] #[]), (3, .func (.func 23) #[.pointer (some ⟨b, 0, none⟩)] #[])], ownE (some ⟨b131, 0, none⟩) (nn + 1) (nn + 1) 3 1 (glC s.gl), ownE Aw s.ws.length cw 45 3 (wordC s.ws), ownE Aa nn ca 33 1 (ptrN us), ownE As nn csx 36 1 (ptrS us), boxE v.bN 70 [.int .i64 v.clock, .bool true, .int .i64 v.id, .int .i64 long, .int .i64 v.en, .int .i64 v.num, .slice v.A v.asks.length v.c], ownE v.A v.asks.length v.c 77 2 (v.asks.map (fun p : Int × Int => [Value.int .i64 p.1, Value.int .i64 p.2])), boxE v.bS 39 [.int .i64 v.clock, .int .i64 v.num, .int .i64 (max v.en (q.2 + long)), .map (some v.mb)], rngE (Value.int .i64) v.mb it261 (keepM m left v.asks) left cur, allE ((s.us.map (unitE long)).eraseIdx (xn - 1)), boxE b37 45 [.int .i64 2, .int .i64 (xn : Int), .int .i64 m]]) (I := fun (left : List Int) (cur : Option Int) => True) (μ := fun (left : List Int) (cur : Option Int) => left.length) (Sep.without kk left) none trivial (without_lt hkk) (subCons (mca m9) (subCons (mca m10) (subCons (mca m11) (subCons (mca m12) (subCons (mca m13) (subCons (mca m14) (subCons (mca m15) (subCons (mca m16) (subCons (mca m17) (subCons (mca m18) (subCons (mca m19) (subCons (mca m20) (subCons (mca m21) (subCons (mca m22) (subCons (mca m23) (subCons (mca m24) (subCons (mca m25) (subCons (mca m26) (subCons (mca m27) (subCons (mca m28) subNil)))))))))))))))))))) (Pm.perm (by repeat (first | exact .nil | refine .cons (by repeat (first | exact .hd | apply Take.tl)) ?_))))
                  | (refine qt_eq (y := rngE (Value.int .i64) v.mb it261 (keepM m (Sep.without kk left) v.asks) (Sep.without kk left) (some kk)) .hd (by rw [keepM_go (by omega)]) ?_; exact qt_round2 (Fi := fun (left : List Int) (cur : Option Int) => [(8, true, .bool false), (9, true, .int .i64 (nn : Int)), (10, true, .int .i64 long), (12, true, .pointer (some ⟨b, 0, none⟩)), (14, true, .int .i64 W), (17, true, .slice Aa nn ca), (18, true, .slice As nn csx), (22, true, .int .i64 s.clock), (23, true, .int .i64 s.wants), (24, true, .slice (some ⟨b131, 0, none⟩) (nn + 1) (nn + 1)), (25, true, .int .i64 s.lease), (26, true, .int .i64 s.of), (27, true, .int .i64 s.since), (28, true, .slice Aw s.ws.length cw), (136, true, .slice A2 lim c2), (137, true, .int .i64 (lim : Int)), (138, true, .int .i64 (j : Int)), (37, true, .pointer (some ⟨b37, 0, none⟩)), (38, true, .pointer (some ⟨v.bS, 0, none⟩)), (261, true, .pointer (some ⟨it261, 0, none⟩))]) (Li := fun (left : List Int) (cur : Option Int) => [boxE b 64 [.int .i64 s.clock, .int .i64 s.lease, .int .i64 s.of, .int .i64 s.since, .bool true, .int .i64 W, .int .i64 s.wants, .slice (some ⟨bg, 0, none⟩) (nn + 1) (nn + 1), .map (some mb)], ownE (some ⟨bg, 0, none⟩) (nn + 1) (nn + 1) 3 1 (glC s.gl), mapE (Value.int .i64) mb [(1, .func (.func 22) #[.pointer (some ⟨b, 0, none⟩)] #[]), (3, .func (.func 23) #[.pointer (some ⟨b, 0, none⟩)] #[])], ownE (some ⟨b131, 0, none⟩) (nn + 1) (nn + 1) 3 1 (glC s.gl), ownE Aw s.ws.length cw 45 3 (wordC s.ws), ownE Aa nn ca 33 1 (ptrN us), ownE As nn csx 36 1 (ptrS us), boxE v.bN 70 [.int .i64 v.clock, .bool true, .int .i64 v.id, .int .i64 long, .int .i64 v.en, .int .i64 v.num, .slice v.A v.asks.length v.c], ownE v.A v.asks.length v.c 77 2 (v.asks.map (fun p : Int × Int => [Value.int .i64 p.1, Value.int .i64 p.2])), boxE v.bS 39 [.int .i64 v.clock, .int .i64 v.num, .int .i64 (max v.en (q.2 + long)), .map (some v.mb)], rngE (Value.int .i64) v.mb it261 (keepM m left v.asks) left cur, allE ((s.us.map (unitE long)).eraseIdx (xn - 1)), boxE b37 45 [.int .i64 2, .int .i64 (xn : Int), .int .i64 m]]) (I := fun (left : List Int) (cur : Option Int) => True) (μ := fun (left : List Int) (cur : Option Int) => left.length) (Sep.without kk left) (some kk) trivial (without_lt hkk) (subCons (mca m9) (subCons (mca m10) (subCons (mca m11) (subCons (mca m12) (subCons (mca m13) (subCons (mca m14) (subCons (mca m15) (subCons (mca m16) (subCons (mca m17) (subCons (mca m18) (subCons (mca m19) (subCons (mca m20) (subCons (mca m21) (subCons (mca m22) (subCons (mca m23) (subCons (mca m24) (subCons (mca m25) (subCons (mca m26) (subCons (mca m27) (subCons (mca m28) subNil)))))))))))))))))))) (Pm.perm (by repeat (first | exact .nil | refine .cons (by repeat (first | exact .hd | apply Take.tl)) ?_))))
              · cases hc16
            · exfalso; first | (simp at hc15; done) | (simp only [Bool.and_eq_true, Bool.or_eq_true, Bool.not_eq_true', Bool.not_eq_false', Bool.and_eq_false_iff, Bool.or_eq_false_iff, decide_eq_true_eq, decide_eq_false_iff_not, beq_iff_eq, Bool.not_eq_true, Bool.not_eq_false] at hc15; omega) | (simp at hc15; omega)
          ·
           try simp only [Bool.and_eq_true, Bool.or_eq_true, Bool.not_eq_true', Bool.not_eq_false', Bool.and_eq_false_iff, Bool.or_eq_false_iff, decide_eq_true_eq, decide_eq_false_iff_not, beq_iff_eq, Bool.not_eq_true, Bool.not_eq_false] at hc14
           refine tr_skip ?_
           refine qt_then ?_
           refine tr_seq ?_
           -- region 58
           refine tr_plain ?_
           refine r_alloc [.int .i64 0, .int .i64 0, .int .i64 0] el45 rfl .none (fun _ _ _ => trivial) rfl rfl (fun b42 => ?_)
           refine tl_nil ?_
           refine qt_then ?_
           refine tr_seq ?_
           refine tr_block ?_
           refine tr_seq ?_
           -- region 59 draws
           refine tr_ord [(0, false), (1, false), (2, false), (3, false), (4, false), (5, false), (6, false), (7, false), (8, false), (9, false), (10, false), (11, false), (12, false), (13, false)] [] _ _ (List.Sublist.refl _) (List.Sublist.refl _) mixedO (by kernel_rfl) ?_
           -- all early
           refine r_fieldAddr fd45_0 .none (.t m4) rfl rfl ?_
           refine r_load [_] ty3 .none (.t m0) (by first | (refine sees_c ?_; (repeat (first | exact hd | apply tl)); done) | (apply sees_own; apply sees_c; (repeat (first | exact hd | apply tl)); done) | exact sees_rc (by assumption)) rfl rfl (.one _) rfl rfl ?_
           refine r_eql .none (.t m0) (.c _ _) rfl rfl ?_
           refine r_move .none (.t m0) rfl rfl ?_
           refine r_fieldAddr fd45_2 (.pos rfl m0) (.t m8) rfl rfl ?_
           refine r_load [_] ty3 (.pos rfl m1) (.s m0) (by first | (refine sees_c ?_; (repeat (first | exact hd | apply tl)); done) | (apply sees_own; apply sees_c; (repeat (first | exact hd | apply tl)); done) | exact sees_rc (by assumption)) rfl rfl (.one _) rfl rfl ?_
           refine r_move (.pos rfl m2) (.t m32) rfl rfl ?_
           refine r_fieldAddr fd45_1 (.pos rfl m3) (.t m11) rfl rfl ?_
           refine r_load [_] ty3 (.pos rfl m4) (.s m0) (by first | (refine sees_c ?_; (repeat (first | exact hd | apply tl)); done) | (apply sees_own; apply sees_c; (repeat (first | exact hd | apply tl)); done) | exact sees_rc (by assumption)) rfl rfl (.one _) rfl rfl ?_
           refine r_indexAddr sl40 (by first | (refine sees_c ?_; (repeat (first | exact hd | apply tl)); done) | (apply sees_own; apply sees_c; (repeat (first | exact hd | apply tl)); done) | exact sees_rc (by assumption)) (.pos rfl m5) (.s m2) (.s m0) (fun hg => by simp only [Bool.and_eq_true, Bool.or_eq_true, Bool.not_eq_true', Bool.not_eq_false', Bool.and_eq_false_iff, Bool.or_eq_false_iff, decide_eq_true_eq, decide_eq_false_iff_not, beq_iff_eq, Bool.not_eq_true, Bool.not_eq_false] at hg; omega) rfl rfl ?_
           refine r_loadEl [_] ty3 (by first | (refine sees_c ?_; (repeat (first | exact hd | apply tl)); done) | (apply sees_own; apply sees_c; (repeat (first | exact hd | apply tl)); done) | exact sees_rc (by assumption)) (.pos rfl m6) (.s m0) (fun _ => hgE) rfl rfl (.one _) rfl rfl ?_
           refine r_gtr (.pos rfl m7) (.s m5) (.s m0) rfl rfl ?_
           refine r_and .none (.t m8) (.s m0) rfl rfl ?_
           refine r_assign .none (.t m0) rfl rfl ?_
           refine tl_nil ?_
           refine qt_late (List.Sublist.refl _) ?_
           refine tl_nil ?_
           refine qt_then ?_
           -- c19
           refine tr_cond (.t m0) (fun hc19 => ?_) (fun hc19 => ?_)
           ·
            try simp only [Bool.and_eq_true, Bool.or_eq_true, Bool.not_eq_true', Bool.not_eq_false', Bool.and_eq_false_iff, Bool.or_eq_false_iff, decide_eq_true_eq, decide_eq_false_iff_not, beq_iff_eq, Bool.not_eq_true, Bool.not_eq_false] at hc19
            obtain ⟨hwk1, hmg⟩ := hc19
            subst hwk1
            refine tr_seq ?_
            -- region 60
            refine tr_plain ?_
            refine r_move .none (.t m40) rfl rfl ?_
            refine r_fieldAddr fd45_1 .none (.t m19) rfl rfl ?_
            refine r_load [_] ty3 .none (.t m0) (by first | (refine sees_l ?_; (repeat (first | exact hd | apply tl)); done) | (apply sees_own; apply sees_l; (repeat (first | exact hd | apply tl)); done) | exact sees_r (by assumption)) rfl rfl (.one _) rfl rfl ?_
            refine r_fieldAddr fd45_2 .none (.t m21) rfl rfl ?_
            refine r_load [_] ty3 .none (.t m0) (by first | (refine sees_l ?_; (repeat (first | exact hd | apply tl)); done) | (apply sees_own; apply sees_l; (repeat (first | exact hd | apply tl)); done) | exact sees_r (by assumption)) rfl rfl (.one _) rfl rfl ?_
            refine r_indexAddr sl40 (by first | (refine sees_l ?_; (repeat (first | exact hd | apply tl)); done) | (apply sees_own; apply sees_l; (repeat (first | exact hd | apply tl)); done) | exact sees_r (by assumption)) .none (.t m4) (.t m2) (fun _ => by omega) rfl rfl ?_
            refine r_storeEl [_] ty3 (by decide) .none (.t m0) (.t m1) (by repeat (first | exact .hd | apply Take.tl)) hgE rfl rfl (by decide) rfl (fun _ _ => trivial) ?_
            refine tl_nil ?_
            refine qt_eq (y := ownE (some ⟨b131, 0, none⟩) (nn + 1) (nn + 1) 3 1 (glC (s.gl.set xn m))) .hd (by simp [glC, List.map_set]) ?_
            refine qt_then ?_
            refine tr_seq ?_
            -- region 61
            refine tr_plain ?_
            refine r_fieldAddr fd45_1 .none (.t m24) rfl rfl ?_
            refine r_load [_] ty3 .none (.t m0) (by first | (refine sees_l ?_; (repeat (first | exact hd | apply tl)); done) | (apply sees_own; apply sees_l; (repeat (first | exact hd | apply tl)); done) | exact sees_r (by assumption)) rfl rfl (.one _) rfl rfl ?_
            refine r_move .none (.t m47) rfl rfl ?_
            refine r_eql .none (.t m1) (.t m0) rfl rfl ?_
            refine r_move .none (.t m0) rfl rfl ?_
            refine r_move (.pos rfl m0) (.t m52) rfl rfl ?_
            refine r_eql (.pos rfl m1) (.s m0) (.c _ _) rfl rfl ?_
            refine r_move (.pos rfl m2) (.s m0) rfl rfl ?_
            refine r_move (.neg2 rfl m0) (.t m55) rfl rfl ?_
            refine r_fieldAddr fd45_1 (.neg2 rfl m1) (.t m33) rfl rfl ?_
            refine r_load [_] ty3 (.neg2 rfl m2) (.s m0) (by first | (refine sees_l ?_; (repeat (first | exact hd | apply tl)); done) | (apply sees_own; apply sees_l; (repeat (first | exact hd | apply tl)); done) | exact sees_r (by assumption)) rfl rfl (.one _) rfl rfl ?_
            refine r_eql (.neg2 rfl m3) (.s m2) (.s m0) rfl rfl ?_
            refine r_or (.pos rfl m7) (.s m4) (.s m0) rfl rfl ?_
            refine r_and .none (.t m8) (.s m0) rfl rfl ?_
            refine tl_nil ?_
            refine qt_then ?_
            -- c20
            refine tr_cond (.t m0) (fun hc20 => ?_) (fun hc20 => ?_)
            ·
             try simp only [Bool.and_eq_true, Bool.or_eq_true, Bool.not_eq_true', Bool.not_eq_false', Bool.and_eq_false_iff, Bool.or_eq_false_iff, decide_eq_true_eq, decide_eq_false_iff_not, beq_iff_eq, Bool.not_eq_true, Bool.not_eq_false] at hc20
             refine tr_seq ?_
             -- region 62 draws
             refine tr_ord [(0, false), (1, false), (2, false), (3, false), (4, false), (5, false), (6, false), (7, false)] [] _ _ (List.Sublist.refl _) (List.Sublist.refl _) mixedO (by kernel_rfl) ?_
             -- all early
             refine r_fieldAddr fd45_1 .none (.t m38) rfl rfl ?_
             refine r_load [_] ty3 .none (.t m0) (by first | (refine sees_c ?_; (repeat (first | exact hd | apply tl)); done) | (apply sees_own; apply sees_c; (repeat (first | exact hd | apply tl)); done) | exact sees_rc (by assumption)) rfl rfl (.one _) rfl rfl ?_
             refine r_fieldAddr fd45_2 .none (.t m40) rfl rfl ?_
             refine r_load [_] ty3 .none (.t m0) (by first | (refine sees_c ?_; (repeat (first | exact hd | apply tl)); done) | (apply sees_own; apply sees_c; (repeat (first | exact hd | apply tl)); done) | exact sees_rc (by assumption)) rfl rfl (.one _) rfl rfl ?_
             refine r_move .none (.t (tl (tl (tl (m59))))) rfl rfl ?_
             refine tl_kp (.k (.k (.k (.k (.k (.k (.k (.k (.k (.k (.k (.k (.k (.k (.k (.k (.k (.k (.k (.k (.k (.k (.k (.k (.k (.k (.k (.k (.k (.k (.k (.k (.k (.k (.k (.k (.k (.k (.k (.k (.k (.k (.k (.k (.k (.k (.k (.k (.k (.k (.k (.k (.k (.k (.k (.k (.k (.k (.k (.k (.k (.k (.k (.k (.k (.k (.d .all))))))))))))))))))))))))))))))))))))))))))))))))))))))))))))))))))) ?_
             refine r_assign .none (.t m3) rfl rfl ?_
             refine tl_kp (.k (.k (.k (.k (.k (.k (.k (.k (.k (.k (.k (.k (.k (.k (.k (.k (.k (.k (.k (.k (.k (.k (.k (.k (.k (.k (.k (.k (.k (.k (.k (.k (.k (.k (.k (.k (.k (.k (.k (.k (.k (.k (.k (.k (.k (.k (.k (.k (.k (.k (.k (.k (.k (.k (.k (.k (.k (.k (.k (.k (.k (.k (.k (.k (.k (.k (.k (.d .all)))))))))))))))))))))))))))))))))))))))))))))))))))))))))))))))))))) ?_
             refine r_assign .none (.t m2) rfl rfl ?_
             refine tl_kp (.k (.k (.k (.k (.k (.k (.k (.k (.k (.k (.k (.k (.k (.k (.k (.k (.k (.k (.k (.k (.k (.k (.k (.k (.k (.k (.k (.k (.k (.k (.k (.k (.k (.k (.k (.k (.k (.k (.k (.k (.k (.k (.k (.k (.k (.k (.k (.k (.k (.k (.k (.k (.k (.k (.k (.k (.k (.k (.k (.k (.k (.k (.k (.k (.k (.k (.k (.k (.d .all))))))))))))))))))))))))))))))))))))))))))))))))))))))))))))))))))))) ?_
             refine r_assign .none (.t m2) rfl rfl ?_
             refine tl_nil ?_
             refine qt_late (List.Sublist.refl _) ?_
             refine tl_nil ?_
             refine qt_then ?_
             -- region 63
             refine tr_plain ?_
             refine r_fieldAddr fd45_1 .none (.t m46) rfl rfl ?_
             refine r_load [_] ty3 .none (.t m0) (by first | (refine sees_l ?_; (repeat (first | exact hd | apply tl)); done) | (apply sees_own; apply sees_l; (repeat (first | exact hd | apply tl)); done) | exact sees_r (by assumption)) rfl rfl (.one _) rfl rfl ?_
             refine r_fieldAddr fd45_2 .none (.t m48) rfl rfl ?_
             refine r_load [_] ty3 .none (.t m0) (by first | (refine sees_l ?_; (repeat (first | exact hd | apply tl)); done) | (apply sees_own; apply sees_l; (repeat (first | exact hd | apply tl)); done) | exact sees_r (by assumption)) rfl rfl (.one _) rfl rfl ?_
             refine r_build [_, _, _] bd45 .none (.cons (.c _ _) (.cons (.t m2) (.cons (.t m0) .nil))) rfl rfl rfl ?_
             refine r_store [_, _, _] ty45 .none (.t m47) (.t m0) (Take.perm (by repeat (first | exact .hd | apply Take.tl))) rfl rfl rfl rfl (fun _ _ => trivial) ?_
             refine tl_nil ?_
             refine qt_block ?_
             refine qt_then ?_
             refine tr_seq ?_
             refine tr_seq ?_
             -- region 68
             refine tr_plain ?_
             refine r_move .none (.t (tl (tl (tl (tl (tl (tl (tl (tl (m59)))))))))) rfl rfl ?_
             refine r_load [_, _, _] ty45 .none (.t m52) (by first | (refine sees_l ?_; (repeat (first | exact hd | apply tl)); done) | (apply sees_own; apply sees_l; (repeat (first | exact hd | apply tl)); done) | exact sees_r (by assumption)) rfl rfl (.agg _) rfl rfl ?_
             refine r_call _ _ _ en10 .none (.f _ _) (.cons (.t m1) (.cons (.t m0) .nil)) (fun w hw => callL (.cons (.tl (.tl (.tl .hd))) (.cons (.tl (.tl (.tl .hd))) .nil)) hw (fun h => CHearAsk _ _ _ _ _ _ _ _ _ _ _ s.gl xn m (by omega) (by omega) (by omega) _ _ _ _ _ (fun w h => ask_yes _ _ _ _ _ _ _ _ _ _ _ s.gl xn m g hg (by omega) (by omega) w h) w h (hw.besideL (.cons (.tl (.tl (.tl .hd))) (.cons (.tl (.tl (.tl .hd))) .nil)) m3))) (fun _ _ _ _ => trivial) rfl rfl ?_
             rintro ⟨⟩ _
             refine r_move .none (.t m0) rfl rfl ?_
             refine r_extract .none (.t m0) rfl rfl rfl ?_
             refine r_extract .none (.t m1) rfl rfl rfl ?_
             refine r_alloc [.int .i64 0, .int .i64 0, .int .i64 0] el45 rfl .none (fun _ _ _ => trivial) rfl rfl (fun b43 => ?_)
             refine r_store [_, _, _] ty45 .none (.t m0) (.t m2) (Take.perm (by repeat (first | exact .hd | apply Take.tl))) rfl rfl rfl rfl (fun _ _ => trivial) ?_
             refine r_assign .none (.t m1) rfl rfl ?_
             refine tl_nil ?_
             refine qt_then ?_
             refine tr_seq ?_
             -- region 69
             refine tr_plain ?_
             refine r_move .none (.t m0) rfl rfl ?_
             refine r_neq .none (.t m0) (.c _ _) rfl rfl ?_
             refine r_move .none (.t m0) rfl rfl ?_
             refine r_load [_, _, _] ty45 (.neg rfl m0) (.t m4) (by first | (refine sees_l ?_; (repeat (first | exact hd | apply tl)); done) | (apply sees_own; apply sees_l; (repeat (first | exact hd | apply tl)); done) | exact sees_r (by assumption)) rfl rfl (.agg _) rfl rfl ?_
             refine r_load [_, _, _] ty45 (.neg rfl m1) (.t m59) (by first | (refine sees_l ?_; (repeat (first | exact hd | apply tl)); done) | (apply sees_own; apply sees_l; (repeat (first | exact hd | apply tl)); done) | exact sees_r (by assumption)) rfl rfl (.agg _) rfl rfl ?_
             refine r_neqG eqg45 (.neg rfl m2) (.s m1) (.s m0) (eq45 _ _ _ _ _ _) rfl rfl ?_
             refine r_or .none (.t m3) (.s m0) rfl rfl ?_
             refine tl_nil ?_
             refine qt_then ?_
             -- c23
             refine tr_cond (.t m0) (fun hc23 => ?_) (fun hc23 => ?_)
             · exfalso; first | (simp at hc23; done) | (simp only [Bool.and_eq_true, Bool.or_eq_true, Bool.not_eq_true', Bool.not_eq_false', Bool.and_eq_false_iff, Bool.or_eq_false_iff, decide_eq_true_eq, decide_eq_false_iff_not, beq_iff_eq, Bool.not_eq_true, Bool.not_eq_false] at hc23; omega) | (simp at hc23; omega)
             ·
              try simp only [Bool.and_eq_true, Bool.or_eq_true, Bool.not_eq_true', Bool.not_eq_false', Bool.and_eq_false_iff, Bool.or_eq_false_iff, decide_eq_true_eq, decide_eq_false_iff_not, beq_iff_eq, Bool.not_eq_true, Bool.not_eq_false] at hc23
              refine tr_skip ?_
              refine qt_then ?_
              refine tr_seq ?_
              -- region 71
              refine tr_plain ?_
              refine r_fieldAddr fd45_0 .none (.t (tl (tl (tl (m59))))) rfl rfl ?_
              refine r_load [_] ty3 .none (.t m0) (by first | (refine sees_l ?_; (repeat (first | exact hd | apply tl)); done) | (apply sees_own; apply sees_l; (repeat (first | exact hd | apply tl)); done) | exact sees_r (by assumption)) rfl rfl (.one _) rfl rfl ?_
              refine r_neq .none (.t m0) (.c _ _) rfl rfl ?_
              refine tl_nil ?_
              refine qt_then ?_
              -- c24
              refine tr_cond (.t m0) (fun hc24 => ?_) (fun hc24 => ?_)
              ·
               try simp only [Bool.and_eq_true, Bool.or_eq_true, Bool.not_eq_true', Bool.not_eq_false', Bool.and_eq_false_iff, Bool.or_eq_false_iff, decide_eq_true_eq, decide_eq_false_iff_not, beq_iff_eq, Bool.not_eq_true, Bool.not_eq_false] at hc24
               -- region 72
               refine tr_plain ?_
               refine r_move .none (.t (tl (tl (tl (tl (tl (tl (tl (tl (tl (tl (tl (tl (tl (tl (tl (tl (tl (tl (tl (tl (tl (tl (tl (tl (tl (tl (tl (tl (tl (tl (tl (tl (tl (m59))))))))))))))))))))))))))))))))))) rfl rfl ?_
               refine r_load [_, _, _] ty45 .none (.t (tl (tl (tl (tl (tl (tl (tl (m59))))))))) (by first | (refine sees_l ?_; (repeat (first | exact hd | apply tl)); done) | (apply sees_own; apply sees_l; (repeat (first | exact hd | apply tl)); done) | exact sees_r (by assumption)) rfl rfl (.agg _) rfl rfl ?_
               refine r_buildSlice [[_, _, _]] sl41 el45 rfl rfl .none (.cons (.t m0) .nil) rfl rfl rfl (fun _ _ _ => trivial) rfl rfl (fun b372 => ?_)
               refine r_append sl41 el45 .none (.t m2) (.t m0) (Take.perm (by repeat (first | exact .hd | apply Take.tl))) (fun w hw => ownE_sl (hw.in_ (by repeat (first | exact hd | apply tl)))) rfl (by simp only [maxLen]; omega) (by omega) (fun _ _ _ _ => trivial) rfl rfl (fun A373 c373 => ?_)
               refine tl_kp (.k (.k (.k (.k (.k (.k (.k (.k (.k (.k (.k (.k (.k (.k (.k (.k (.k (.k (.k (.k (.k (.k (.k (.k (.k (.k (.k (.k (.k (.k (.k (.k (.k (.k (.k (.k (.k (.k (.k (.k (.k (.k (.k (.k (.k (.k (.k (.k (.k (.k (.k (.k (.k (.k (.k (.k (.k (.k (.k (.k (.k (.k (.k (.k (.k (.k (.k (.k (.k (.k (.k (.k (.k (.k (.k (.k (.k (.k (.k (.k (.k (.k (.k (.k (.k (.k (.k (.k (.k (.k (.k (.k (.k (.k (.k (.k (.d .all))))))))))))))))))))))))))))))))))))))))))))))))))))))))))))))))))))))))))))))))))))))))))))))))) ?_
               refine r_assign .none (.t m0) rfl rfl ?_
               refine tl_nil ?_
               refine qt_block ?_
               refine qt_eq (y := ownE A373 (s.ws ++ [(2, (xn : Int), m)]).length c373 45 3 (wordC (s.ws ++ [(2, (xn : Int), m)]))) .hd (by simp [wordC]) ?_
               refine qt_kl (.cons (.tl (.tl (.tl .hd))) (.cons (.tl (.tl (.tl .hd))) (.cons (.tl (.tl (.tl (.tl (.tl (.tl .hd)))))) (.cons (.tl (.tl (.tl (.tl .hd)))) (.cons .hd (.cons (.tl (.tl (.tl (.tl .hd)))) (.cons (.tl (.tl (.tl (.tl .hd)))) (.cons (.tl (.tl (.tl (.tl .hd)))) .nil)))))))) ?_
               exact hcut_b4 ({ s with gl := s.gl.set xn m, lease := (xn : Int), of := m, since := s.clock, ws := s.ws ++ [(2, (xn : Int), m)] } : Sy) A373 c373 ⟨(hok.give hg hwm (by omega) (by omega) (by omega)).mono (by omega) (by omega), hbN, hbS⟩ (subCons (mca (tl (tl (tl (tl (tl (tl (tl (tl (tl (tl (tl (tl (tl (tl (tl (tl (tl (tl (tl (tl (tl (tl (tl (tl (tl (tl (tl (tl (m59)))))))))))))))))))))))))))))) (subCons (mca (tl (tl (tl (tl (tl (tl (tl (tl (tl (tl (tl (tl (tl (tl (tl (tl (tl (tl (tl (tl (tl (tl (tl (tl (tl (tl (tl (tl (tl (m59))))))))))))))))))))))))))))))) (subCons (mca (tl (tl (tl (tl (tl (tl (tl (tl (tl (tl (tl (tl (tl (tl (tl (tl (tl (tl (tl (tl (tl (tl (tl (tl (tl (tl (tl (tl (tl (tl (m59)))))))))))))))))))))))))))))))) (subCons (mca (tl (tl (tl (tl (tl (tl (tl (tl (tl (tl (tl (tl (tl (tl (tl (tl (tl (tl (tl (tl (tl (tl (tl (tl (tl (tl (tl (tl (tl (tl (tl (m59))))))))))))))))))))))))))))))))) (subCons (mca (tl (tl (tl (tl (tl (tl (tl (tl (tl (tl (tl (tl (tl (tl (tl (tl (tl (tl (tl (tl (tl (tl (tl (tl (tl (tl (tl (tl (tl (tl (tl (tl (m59)))))))))))))))))))))))))))))))))) (subCons (mca (tl (tl (tl (tl (tl (tl (tl (tl (tl (tl (tl (tl (tl (tl (tl (tl (tl (tl (tl (tl (tl (tl (tl (tl (tl (tl (tl (tl (tl (tl (tl (tl (tl (m59))))))))))))))))))))))))))))))))))) (subCons (mca (tl (tl (tl (tl (tl (tl (tl (tl (tl (tl (tl (tl (tl (tl (tl (tl (tl (tl (tl (tl (tl (tl (tl (tl (tl (tl (tl (tl (tl (tl (tl (tl (tl (tl (m59)))))))))))))))))))))))))))))))))))) (subCons (mca (tl (tl (tl (tl (tl (tl (tl (tl (tl (tl (tl (tl (tl (tl (tl (tl (tl (tl (tl (tl (tl (tl (tl (tl (tl (tl (tl (tl (tl (tl (tl (tl (tl (tl (tl (m59))))))))))))))))))))))))))))))))))))) (subCons (mca (tl (tl (tl (tl (tl (tl (tl (tl (tl (tl (tl (tl (tl (tl (tl (tl (tl (tl (tl (tl (tl (tl (tl (tl (tl (tl (tl (tl (tl (tl (tl (tl (tl (tl (tl (tl (m59)))))))))))))))))))))))))))))))))))))) (subCons (mca (tl (tl (tl (tl (tl (tl (tl (tl (tl (tl (tl (tl (tl (tl (tl (tl (tl (tl (tl (tl (tl (tl (tl (tl (tl (tl (tl (tl (tl (tl (tl (tl (tl (tl (tl (tl (tl (m59))))))))))))))))))))))))))))))))))))))) (subCons (mca m30) (subCons (mca m29) (subCons (mca m28) (subCons (mca m0) (subCons (mca (tl (tl (tl (tl (tl (tl (tl (tl (tl (tl (tl (tl (tl (tl (tl (tl (tl (tl (tl (tl (tl (tl (tl (tl (tl (tl (tl (tl (tl (tl (tl (tl (tl (tl (tl (tl (tl (tl (m59)))))))))))))))))))))))))))))))))))))))) (subCons (mca (tl (tl (tl (tl (tl (tl (tl (tl (tl (tl (tl (tl (tl (tl (tl (tl (tl (tl (tl (tl (tl (tl (tl (tl (tl (tl (tl (tl (tl (tl (tl (tl (tl (tl (tl (tl (tl (tl (tl (m59))))))))))))))))))))))))))))))))))))))))) (subCons (mca (tl (tl (tl (tl (tl (tl (tl (tl (tl (tl (tl (tl (tl (tl (tl (tl (tl (tl (tl (tl (tl (tl (tl (tl (tl (tl (tl (tl (tl (tl (tl (tl (tl (tl (tl (tl (tl (tl (tl (tl (m59)))))))))))))))))))))))))))))))))))))))))) subNil))))))))))))))))) (Pm.perm (by repeat (first | exact .nil | refine .cons (by repeat (first | exact .hd | apply Take.tl)) ?_)))
              · exfalso; first | (simp at hc24; done) | (simp only [Bool.and_eq_true, Bool.or_eq_true, Bool.not_eq_true', Bool.not_eq_false', Bool.and_eq_false_iff, Bool.or_eq_false_iff, decide_eq_true_eq, decide_eq_false_iff_not, beq_iff_eq, Bool.not_eq_true, Bool.not_eq_false] at hc24; omega) | (simp at hc24; omega)
            ·
             try simp only [Bool.and_eq_true, Bool.or_eq_true, Bool.not_eq_true', Bool.not_eq_false', Bool.and_eq_false_iff, Bool.or_eq_false_iff, decide_eq_true_eq, decide_eq_false_iff_not, beq_iff_eq, Bool.not_eq_true, Bool.not_eq_false] at hc20
             refine tr_skip ?_
             refine qt_block ?_
             refine qt_then ?_
             refine tr_seq ?_
             refine tr_seq ?_
             -- region 68
             refine tr_plain ?_
             refine r_move .none (.t m54) rfl rfl ?_
             refine r_load [_, _, _] ty45 .none (.t m39) (by first | (refine sees_l ?_; (repeat (first | exact hd | apply tl)); done) | (apply sees_own; apply sees_l; (repeat (first | exact hd | apply tl)); done) | exact sees_r (by assumption)) rfl rfl (.agg _) rfl rfl ?_
             refine r_call _ _ _ en10 .none (.f _ _) (.cons (.t m1) (.cons (.t m0) .nil)) (fun w hw => callL (.cons (.tl (.tl (.tl .hd))) (.cons (.tl (.tl (.tl .hd))) .nil)) hw (fun h => CHearAsk _ _ _ _ _ _ _ _ _ _ _ s.gl xn m (by omega) (by omega) (by omega) _ _ _ _ _ (fun w h => ask_no _ _ _ _ _ _ _ _ _ _ _ s.gl xn m g hg (by omega) (by omega) w h) w h (hw.besideL (.cons (.tl (.tl (.tl .hd))) (.cons (.tl (.tl (.tl .hd))) .nil)) m3))) (fun _ _ _ _ => trivial) rfl rfl ?_
             rintro ⟨⟩ _
             refine r_move .none (.t m0) rfl rfl ?_
             refine r_extract .none (.t m0) rfl rfl rfl ?_
             refine r_extract .none (.t m1) rfl rfl rfl ?_
             refine r_alloc [.int .i64 0, .int .i64 0, .int .i64 0] el45 rfl .none (fun _ _ _ => trivial) rfl rfl (fun b43 => ?_)
             refine r_store [_, _, _] ty45 .none (.t m0) (.t m2) (Take.perm (by repeat (first | exact .hd | apply Take.tl))) rfl rfl rfl rfl (fun _ _ => trivial) ?_
             refine r_assign .none (.t m1) rfl rfl ?_
             refine tl_nil ?_
             refine qt_then ?_
             refine tr_seq ?_
             -- region 69
             refine tr_plain ?_
             refine r_move .none (.t m0) rfl rfl ?_
             refine r_neq .none (.t m0) (.c _ _) rfl rfl ?_
             refine r_move .none (.t m0) rfl rfl ?_
             refine r_load [_, _, _] ty45 (.neg rfl m0) (.t m4) (by first | (refine sees_l ?_; (repeat (first | exact hd | apply tl)); done) | (apply sees_own; apply sees_l; (repeat (first | exact hd | apply tl)); done) | exact sees_r (by assumption)) rfl rfl (.agg _) rfl rfl ?_
             refine r_load [_, _, _] ty45 (.neg rfl m1) (.t m46) (by first | (refine sees_l ?_; (repeat (first | exact hd | apply tl)); done) | (apply sees_own; apply sees_l; (repeat (first | exact hd | apply tl)); done) | exact sees_r (by assumption)) rfl rfl (.agg _) rfl rfl ?_
             refine r_neqG eqg45 (.neg rfl m2) (.s m1) (.s m0) (eq45 _ _ _ _ _ _) rfl rfl ?_
             refine r_or .none (.t m3) (.s m0) rfl rfl ?_
             refine tl_nil ?_
             refine qt_then ?_
             -- c23
             refine tr_cond (.t m0) (fun hc23 => ?_) (fun hc23 => ?_)
             · exfalso; first | (simp at hc23; done) | (simp only [Bool.and_eq_true, Bool.or_eq_true, Bool.not_eq_true', Bool.not_eq_false', Bool.and_eq_false_iff, Bool.or_eq_false_iff, decide_eq_true_eq, decide_eq_false_iff_not, beq_iff_eq, Bool.not_eq_true, Bool.not_eq_false] at hc23; omega) | (simp at hc23; omega)
             ·
              try simp only [Bool.and_eq_true, Bool.or_eq_true, Bool.not_eq_true', Bool.not_eq_false', Bool.and_eq_false_iff, Bool.or_eq_false_iff, decide_eq_true_eq, decide_eq_false_iff_not, beq_iff_eq, Bool.not_eq_true, Bool.not_eq_false] at hc23
              refine tr_skip ?_
              refine qt_then ?_
              refine tr_seq ?_
              -- region 71
              refine tr_plain ?_
              refine r_fieldAddr fd45_0 .none (.t m49) rfl rfl ?_
              refine r_load [_] ty3 .none (.t m0) (by first | (refine sees_l ?_; (repeat (first | exact hd | apply tl)); done) | (apply sees_own; apply sees_l; (repeat (first | exact hd | apply tl)); done) | exact sees_r (by assumption)) rfl rfl (.one _) rfl rfl ?_
              refine r_neq .none (.t m0) (.c _ _) rfl rfl ?_
              refine tl_nil ?_
              refine qt_then ?_
              -- c24
              refine tr_cond (.t m0) (fun hc24 => ?_) (fun hc24 => ?_)
              · exfalso; first | (simp at hc24; done) | (simp only [Bool.and_eq_true, Bool.or_eq_true, Bool.not_eq_true', Bool.not_eq_false', Bool.and_eq_false_iff, Bool.or_eq_false_iff, decide_eq_true_eq, decide_eq_false_iff_not, beq_iff_eq, Bool.not_eq_true, Bool.not_eq_false] at hc24; omega) | (simp at hc24; omega)
              ·
               try simp only [Bool.and_eq_true, Bool.or_eq_true, Bool.not_eq_true', Bool.not_eq_false', Bool.and_eq_false_iff, Bool.or_eq_false_iff, decide_eq_true_eq, decide_eq_false_iff_not, beq_iff_eq, Bool.not_eq_true, Bool.not_eq_false] at hc24
               refine tr_skip ?_
               refine qt_block ?_
               refine qt_kl (.cons (.tl .hd) (.cons (.tl .hd) (.cons (.tl (.tl (.tl (.tl .hd)))) (.cons (.tl .hd) (.cons (.tl (.tl (.tl .hd))) (.cons (.tl (.tl (.tl .hd))) (.cons (.tl (.tl (.tl .hd))) (.cons (.tl (.tl (.tl .hd))) .nil)))))))) ?_
               exact hcut_b4 ({ s with gl := s.gl.set xn m } : Sy) Aw cw ⟨(hok.glset hg ⟨by omega, by omega⟩).mono (by omega) (by omega), hbN, hbS⟩ (subCons (mca (tl (tl (tl (tl (tl (tl (tl (tl (tl (tl (m59)))))))))))) (subCons (mca (tl (tl (tl (tl (tl (tl (tl (tl (tl (tl (tl (m59))))))))))))) (subCons (mca (tl (tl (tl (tl (tl (tl (tl (tl (tl (tl (tl (tl (m59)))))))))))))) (subCons (mca (tl (tl (tl (tl (tl (tl (tl (tl (tl (tl (tl (tl (tl (m59))))))))))))))) (subCons (mca (tl (tl (tl (tl (tl (tl (tl (tl (tl (tl (tl (tl (tl (tl (m59)))))))))))))))) (subCons (mca (tl (tl (tl (tl (tl (tl (tl (tl (tl (tl (tl (tl (tl (tl (tl (m59))))))))))))))))) (subCons (mca (tl (tl (tl (tl (tl (tl (tl (tl (tl (tl (tl (tl (tl (tl (tl (tl (m59)))))))))))))))))) (subCons (mca (tl (tl (tl (tl (tl (tl (tl (tl (tl (tl (tl (tl (tl (tl (tl (tl (tl (m59))))))))))))))))))) (subCons (mca (tl (tl (tl (tl (tl (tl (tl (tl (tl (tl (tl (tl (tl (tl (tl (tl (tl (tl (m59)))))))))))))))))))) (subCons (mca (tl (tl (tl (tl (tl (tl (tl (tl (tl (tl (tl (tl (tl (tl (tl (tl (tl (tl (tl (m59))))))))))))))))))))) (subCons (mca (tl (tl (tl (tl (tl (tl (tl (tl (tl (tl (tl (tl (tl (tl (tl (tl (tl (tl (tl (tl (m59)))))))))))))))))))))) (subCons (mca (tl (tl (tl (tl (tl (tl (tl (tl (tl (tl (tl (tl (tl (tl (tl (tl (tl (tl (tl (tl (tl (m59))))))))))))))))))))))) (subCons (mca (tl (tl (tl (tl (tl (tl (tl (tl (tl (tl (tl (tl (tl (tl (tl (tl (tl (tl (tl (tl (tl (tl (m59)))))))))))))))))))))))) (subCons (mca (tl (tl (tl (tl (tl (tl (tl (tl (tl (tl (tl (tl (tl (tl (tl (tl (tl (tl (tl (tl (tl (tl (tl (m59))))))))))))))))))))))))) (subCons (mca (tl (tl (tl (tl (tl (tl (tl (tl (tl (tl (tl (tl (tl (tl (tl (tl (tl (tl (tl (tl (tl (tl (tl (tl (m59)))))))))))))))))))))))))) (subCons (mca (tl (tl (tl (tl (tl (tl (tl (tl (tl (tl (tl (tl (tl (tl (tl (tl (tl (tl (tl (tl (tl (tl (tl (tl (tl (m59))))))))))))))))))))))))))) (subCons (mca (tl (tl (tl (tl (tl (tl (tl (tl (tl (tl (tl (tl (tl (tl (tl (tl (tl (tl (tl (tl (tl (tl (tl (tl (tl (tl (m59)))))))))))))))))))))))))))) subNil))))))))))))))))) (Pm.perm (by repeat (first | exact .nil | refine .cons (by repeat (first | exact .hd | apply Take.tl)) ?_)))
           ·
            try simp only [Bool.and_eq_true, Bool.or_eq_true, Bool.not_eq_true', Bool.not_eq_false', Bool.and_eq_false_iff, Bool.or_eq_false_iff, decide_eq_true_eq, decide_eq_false_iff_not, beq_iff_eq, Bool.not_eq_true, Bool.not_eq_false] at hc19
            refine tr_seq ?_
            -- region 64
            refine tr_plain ?_
            refine r_fieldAddr fd45_0 .none (.t m18) rfl rfl ?_
            refine r_load [_] ty3 .none (.t m0) (by first | (refine sees_l ?_; (repeat (first | exact hd | apply tl)); done) | (apply sees_own; apply sees_l; (repeat (first | exact hd | apply tl)); done) | exact sees_r (by assumption)) rfl rfl (.one _) rfl rfl ?_
            refine r_eql .none (.t m0) (.c _ _) rfl rfl ?_
            refine r_assign .none (.t m0) rfl rfl ?_
            refine tl_nil ?_
            refine qt_then ?_
            -- c21
            refine tr_cond (.t m0) (fun hc21 => ?_) (fun hc21 => ?_)
            ·
             try simp only [Bool.and_eq_true, Bool.or_eq_true, Bool.not_eq_true', Bool.not_eq_false', Bool.and_eq_false_iff, Bool.or_eq_false_iff, decide_eq_true_eq, decide_eq_false_iff_not, beq_iff_eq, Bool.not_eq_true, Bool.not_eq_false] at hc21
             subst hc21
             refine tr_seq ?_
             -- region 65 draws
             refine tr_ord [(0, false), (1, false), (2, false), (3, false), (4, false), (5, false), (6, false), (7, false), (8, false), (9, false), (10, false), (11, false)] [(12, true)] _ _ (List.Sublist.refl _) (.cons_cons _ (.cons_cons _ (.cons_cons _ (.cons_cons _ (.cons_cons _ (.cons _ (List.Sublist.refl _))))))) mixedO (by kernel_rfl) ?_
             refine r_move .none (.t m44) rfl rfl ?_
             refine r_fieldAddr fd45_1 .none (.t m23) rfl rfl ?_
             refine r_load [_] ty3 .none (.t m0) (by first | (refine sees_c ?_; (repeat (first | exact hd | apply tl)); done) | (apply sees_own; apply sees_c; (repeat (first | exact hd | apply tl)); done) | exact sees_rc (by assumption)) rfl rfl (.one _) rfl rfl ?_
             refine r_move .none (.t m47) rfl rfl ?_
             refine r_fieldAddr fd45_1 .none (.t m26) rfl rfl ?_
             refine r_load [_] ty3 .none (.t m0) (by first | (refine sees_c ?_; (repeat (first | exact hd | apply tl)); done) | (apply sees_own; apply sees_c; (repeat (first | exact hd | apply tl)); done) | exact sees_rc (by assumption)) rfl rfl (.one _) rfl rfl ?_
             refine r_indexAddr sl40 (by first | (refine sees_c ?_; (repeat (first | exact hd | apply tl)); done) | (apply sees_own; apply sees_c; (repeat (first | exact hd | apply tl)); done) | exact sees_rc (by assumption)) .none (.t m2) (.t m0) (fun _ => by omega) rfl rfl ?_
             refine r_loadEl [_] ty3 (by first | (refine sees_c ?_; (repeat (first | exact hd | apply tl)); done) | (apply sees_own; apply sees_c; (repeat (first | exact hd | apply tl)); done) | exact sees_rc (by assumption)) .none (.t m0) (fun _ => hgE) rfl rfl (.one _) rfl rfl ?_
             refine r_fieldAddr fd45_2 .none (.t m30) rfl rfl ?_
             refine r_load [_] ty3 .none (.t m0) (by first | (refine sees_c ?_; (repeat (first | exact hd | apply tl)); done) | (apply sees_own; apply sees_c; (repeat (first | exact hd | apply tl)); done) | exact sees_rc (by assumption)) rfl rfl (.one _) rfl rfl ?_
             refine r_maxI .none (.t m2) (.t m0) rfl rfl ?_
             refine r_indexAddr sl40 (by first | (refine sees_c ?_; (repeat (first | exact hd | apply tl)); done) | (apply sees_own; apply sees_c; (repeat (first | exact hd | apply tl)); done) | exact sees_rc (by assumption)) .none (.t m10) (.t m8) (fun _ => by omega) rfl rfl ?_
             refine tl_nil ?_
             refine qt_late (.cons_cons _ (.cons_cons _ (.cons_cons _ (.cons_cons _ (.cons_cons _ (.cons _ (List.Sublist.refl _))))))) ?_
             refine r_storeEl [_] ty3 (by decide) .none (.t m0) (.t m1) (by repeat (first | exact .hd | apply Take.tl)) hgE rfl rfl (by decide) rfl (keepC (.cons _ (List.Sublist.refl _))) ?_
             refine tl_nil ?_
             refine qt_eq (y := ownE (some ⟨b131, 0, none⟩) (nn + 1) (nn + 1) 3 1 (glC (s.gl.set xn (max g m)))) .hd (by simp [glC, List.map_set]) ?_
             refine qt_then ?_
             refine tr_seq ?_
             -- region 66
             refine tr_plain ?_
             refine r_move .none (.t m57) rfl rfl ?_
             refine r_fieldAddr fd45_1 .none (.t m35) rfl rfl ?_
             refine r_load [_] ty3 .none (.t m0) (by first | (refine sees_l ?_; (repeat (first | exact hd | apply tl)); done) | (apply sees_own; apply sees_l; (repeat (first | exact hd | apply tl)); done) | exact sees_r (by assumption)) rfl rfl (.one _) rfl rfl ?_
             refine r_eql .none (.t m2) (.t m0) rfl rfl ?_
             refine r_move .none (.t m0) rfl rfl ?_
             refine r_move (.pos rfl m0) (.t (tl (tl (tl (tl (m59)))))) rfl rfl ?_
             refine r_fieldAddr fd45_2 (.pos rfl m1) (.t m40) rfl rfl ?_
             refine r_load [_] ty3 (.pos rfl m2) (.s m0) (by first | (refine sees_l ?_; (repeat (first | exact hd | apply tl)); done) | (apply sees_own; apply sees_l; (repeat (first | exact hd | apply tl)); done) | exact sees_r (by assumption)) rfl rfl (.one _) rfl rfl ?_
             refine r_leq (.pos rfl m3) (.s m2) (.s m0) rfl rfl ?_
             refine r_and .none (.t m4) (.s m0) rfl rfl ?_
             refine tl_nil ?_
             refine qt_then ?_
             -- c22
             refine tr_cond (.t m0) (fun hc22 => ?_) (fun hc22 => ?_)
             ·
              try simp only [Bool.and_eq_true, Bool.or_eq_true, Bool.not_eq_true', Bool.not_eq_false', Bool.and_eq_false_iff, Bool.or_eq_false_iff, decide_eq_true_eq, decide_eq_false_iff_not, beq_iff_eq, Bool.not_eq_true, Bool.not_eq_false] at hc22
              -- region 67
              refine tr_plain ?_
              refine tl_kp (.k (.k (.k (.k (.k (.k (.k (.k (.k (.k (.k (.k (.k (.k (.k (.k (.k (.k (.k (.k (.k (.k (.k (.k (.k (.k (.k (.k (.k (.k (.k (.k (.k (.k (.k (.k (.k (.k (.k (.k (.k (.k (.k (.k (.k (.k (.k (.k (.k (.k (.k (.k (.k (.k (.k (.k (.k (.k (.k (.k (.k (.k (.k (.k (.k (.k (.k (.d .all)))))))))))))))))))))))))))))))))))))))))))))))))))))))))))))))))))) ?_
              refine r_assign .none (.c _ _) rfl rfl ?_
              refine tl_kp (.k (.k (.k (.k (.k (.k (.k (.k (.k (.k (.k (.k (.k (.k (.k (.k (.k (.k (.k (.k (.k (.k (.k (.k (.k (.k (.k (.k (.k (.k (.k (.k (.k (.k (.k (.k (.k (.k (.k (.k (.k (.k (.k (.k (.k (.k (.k (.k (.k (.k (.k (.k (.k (.k (.k (.k (.k (.k (.k (.k (.k (.k (.k (.k (.k (.k (.k (.k (.d .all))))))))))))))))))))))))))))))))))))))))))))))))))))))))))))))))))))) ?_
              refine r_assign .none (.c _ _) rfl rfl ?_
              refine tl_kp (.k (.k (.k (.k (.k (.k (.k (.k (.k (.k (.k (.k (.k (.k (.k (.k (.k (.k (.k (.k (.k (.k (.k (.k (.k (.k (.k (.k (.k (.k (.k (.k (.k (.k (.k (.k (.k (.k (.k (.k (.k (.k (.k (.k (.k (.k (.k (.k (.k (.k (.k (.k (.k (.k (.k (.k (.k (.k (.k (.k (.k (.k (.k (.k (.k (.k (.k (.k (.k (.d .all)))))))))))))))))))))))))))))))))))))))))))))))))))))))))))))))))))))) ?_
              refine r_assign .none (.c _ _) rfl rfl ?_
              refine tl_nil ?_
              refine qt_block ?_
              refine qt_then ?_
              refine tr_seq ?_
              refine tr_seq ?_
              -- region 68
              refine tr_plain ?_
              refine r_move .none (.t (tl (tl (tl (tl (m59)))))) rfl rfl ?_
              refine r_load [_, _, _] ty45 .none (.t m48) (by first | (refine sees_l ?_; (repeat (first | exact hd | apply tl)); done) | (apply sees_own; apply sees_l; (repeat (first | exact hd | apply tl)); done) | exact sees_r (by assumption)) rfl rfl (.agg _) rfl rfl ?_
              refine r_call _ _ _ en10 .none (.f _ _) (.cons (.t m1) (.cons (.t m0) .nil)) (fun w hw => callL (.cons (.tl (.tl (.tl .hd))) (.cons (.tl (.tl (.tl .hd))) .nil)) hw (fun h => CHearBack _ _ _ _ _ _ _ _ _ _ _ s.gl xn m (by omega) (by omega) (by omega) _ _ _ _ _ (fun w h => back_yes _ _ _ _ _ _ _ _ _ _ _ s.gl xn m g hg (by omega) w h) w h (hw.besideL (.cons (.tl (.tl (.tl .hd))) (.cons (.tl (.tl (.tl .hd))) .nil)) m3))) (fun _ _ _ _ => trivial) rfl rfl ?_
              rintro ⟨⟩ _
              refine r_move .none (.t m0) rfl rfl ?_
              refine r_extract .none (.t m0) rfl rfl rfl ?_
              refine r_extract .none (.t m1) rfl rfl rfl ?_
              refine r_alloc [.int .i64 0, .int .i64 0, .int .i64 0] el45 rfl .none (fun _ _ _ => trivial) rfl rfl (fun b43 => ?_)
              refine r_store [_, _, _] ty45 .none (.t m0) (.t m2) (Take.perm (by repeat (first | exact .hd | apply Take.tl))) rfl rfl rfl rfl (fun _ _ => trivial) ?_
              refine r_assign .none (.t m1) rfl rfl ?_
              refine tl_nil ?_
              refine qt_then ?_
              refine tr_seq ?_
              -- region 69
              refine tr_plain ?_
              refine r_move .none (.t m0) rfl rfl ?_
              refine r_neq .none (.t m0) (.c _ _) rfl rfl ?_
              refine r_move .none (.t m0) rfl rfl ?_
              refine r_load [_, _, _] ty45 (.neg rfl m0) (.t m4) (by first | (refine sees_l ?_; (repeat (first | exact hd | apply tl)); done) | (apply sees_own; apply sees_l; (repeat (first | exact hd | apply tl)); done) | exact sees_r (by assumption)) rfl rfl (.agg _) rfl rfl ?_
              refine r_load [_, _, _] ty45 (.neg rfl m1) (.t m55) (by first | (refine sees_l ?_; (repeat (first | exact hd | apply tl)); done) | (apply sees_own; apply sees_l; (repeat (first | exact hd | apply tl)); done) | exact sees_r (by assumption)) rfl rfl (.agg _) rfl rfl ?_
              refine r_neqG eqg45 (.neg rfl m2) (.s m1) (.s m0) (eq45 _ _ _ _ _ _) rfl rfl ?_
              refine r_or .none (.t m3) (.s m0) rfl rfl ?_
              refine tl_nil ?_
              refine qt_then ?_
              -- c23
              refine tr_cond (.t m0) (fun hc23 => ?_) (fun hc23 => ?_)
              · exfalso; first | (simp at hc23; done) | (simp only [Bool.and_eq_true, Bool.or_eq_true, Bool.not_eq_true', Bool.not_eq_false', Bool.and_eq_false_iff, Bool.or_eq_false_iff, decide_eq_true_eq, decide_eq_false_iff_not, beq_iff_eq, Bool.not_eq_true, Bool.not_eq_false] at hc23; omega) | (simp at hc23; omega)
              ·
               try simp only [Bool.and_eq_true, Bool.or_eq_true, Bool.not_eq_true', Bool.not_eq_false', Bool.and_eq_false_iff, Bool.or_eq_false_iff, decide_eq_true_eq, decide_eq_false_iff_not, beq_iff_eq, Bool.not_eq_true, Bool.not_eq_false] at hc23
               refine tr_skip ?_
               refine qt_then ?_
               refine tr_seq ?_
               -- region 71
               refine tr_plain ?_
               refine r_fieldAddr fd45_0 .none (.t m58) rfl rfl ?_
               refine r_load [_] ty3 .none (.t m0) (by first | (refine sees_l ?_; (repeat (first | exact hd | apply tl)); done) | (apply sees_own; apply sees_l; (repeat (first | exact hd | apply tl)); done) | exact sees_r (by assumption)) rfl rfl (.one _) rfl rfl ?_
               refine r_neq .none (.t m0) (.c _ _) rfl rfl ?_
               refine tl_nil ?_
               refine qt_then ?_
               -- c24
               refine tr_cond (.t m0) (fun hc24 => ?_) (fun hc24 => ?_)
               · exfalso; first | (simp at hc24; done) | (simp only [Bool.and_eq_true, Bool.or_eq_true, Bool.not_eq_true', Bool.not_eq_false', Bool.and_eq_false_iff, Bool.or_eq_false_iff, decide_eq_true_eq, decide_eq_false_iff_not, beq_iff_eq, Bool.not_eq_true, Bool.not_eq_false] at hc24; omega) | (simp at hc24; omega)
               ·
                try simp only [Bool.and_eq_true, Bool.or_eq_true, Bool.not_eq_true', Bool.not_eq_false', Bool.and_eq_false_iff, Bool.or_eq_false_iff, decide_eq_true_eq, decide_eq_false_iff_not, beq_iff_eq, Bool.not_eq_true, Bool.not_eq_false] at hc24
                refine tr_skip ?_
                refine qt_block ?_
                refine qt_kl (.cons (.tl .hd) (.cons (.tl .hd) (.cons (.tl (.tl (.tl (.tl .hd)))) (.cons (.tl .hd) (.cons (.tl (.tl (.tl .hd))) (.cons (.tl (.tl (.tl .hd))) (.cons (.tl (.tl (.tl .hd))) (.cons (.tl (.tl (.tl .hd))) .nil)))))))) ?_
                exact hcut_b4 ({ s with gl := s.gl.set xn (max g m), lease := 0, of := 0, since := 0 } : Sy) Aw cw ⟨((hok.glset hg ⟨by omega, by omega⟩).back hwm (by dsimp only; omega) (by dsimp only; omega)).mono (by omega) (by omega), hbN, hbS⟩ (subCons (mca (tl (tl (tl (tl (tl (tl (tl (tl (tl (tl (tl (tl (tl (tl (tl (tl (tl (tl (tl (m59))))))))))))))))))))) (subCons (mca (tl (tl (tl (tl (tl (tl (tl (tl (tl (tl (tl (tl (tl (tl (tl (tl (tl (tl (tl (tl (m59)))))))))))))))))))))) (subCons (mca (tl (tl (tl (tl (tl (tl (tl (tl (tl (tl (tl (tl (tl (tl (tl (tl (tl (tl (tl (tl (tl (m59))))))))))))))))))))))) (subCons (mca (tl (tl (tl (tl (tl (tl (tl (tl (tl (tl (tl (tl (tl (tl (tl (tl (tl (tl (tl (tl (tl (tl (m59)))))))))))))))))))))))) (subCons (mca (tl (tl (tl (tl (tl (tl (tl (tl (tl (tl (tl (tl (tl (tl (tl (tl (tl (tl (tl (tl (tl (tl (tl (m59))))))))))))))))))))))))) (subCons (mca (tl (tl (tl (tl (tl (tl (tl (tl (tl (tl (tl (tl (tl (tl (tl (tl (tl (tl (tl (tl (tl (tl (tl (tl (m59)))))))))))))))))))))))))) (subCons (mca (tl (tl (tl (tl (tl (tl (tl (tl (tl (tl (tl (tl (tl (tl (tl (tl (tl (tl (tl (tl (tl (tl (tl (tl (tl (m59))))))))))))))))))))))))))) (subCons (mca (tl (tl (tl (tl (tl (tl (tl (tl (tl (tl (tl (tl (tl (tl (tl (tl (tl (tl (tl (tl (tl (tl (tl (tl (tl (tl (m59)))))))))))))))))))))))))))) (subCons (mca (tl (tl (tl (tl (tl (tl (tl (tl (tl (tl (tl (tl (tl (tl (tl (tl (tl (tl (tl (tl (tl (tl (tl (tl (tl (tl (tl (m59))))))))))))))))))))))))))))) (subCons (mca (tl (tl (tl (tl (tl (tl (tl (tl (tl (tl (tl (tl (tl (tl (tl (tl (tl (tl (tl (tl (tl (tl (tl (tl (tl (tl (tl (tl (m59)))))))))))))))))))))))))))))) (subCons (mca m20) (subCons (mca m19) (subCons (mca m18) (subCons (mca (tl (tl (tl (tl (tl (tl (tl (tl (tl (tl (tl (tl (tl (tl (tl (tl (tl (tl (tl (tl (tl (tl (tl (tl (tl (tl (tl (tl (tl (m59))))))))))))))))))))))))))))))) (subCons (mca (tl (tl (tl (tl (tl (tl (tl (tl (tl (tl (tl (tl (tl (tl (tl (tl (tl (tl (tl (tl (tl (tl (tl (tl (tl (tl (tl (tl (tl (tl (m59)))))))))))))))))))))))))))))))) (subCons (mca (tl (tl (tl (tl (tl (tl (tl (tl (tl (tl (tl (tl (tl (tl (tl (tl (tl (tl (tl (tl (tl (tl (tl (tl (tl (tl (tl (tl (tl (tl (tl (m59))))))))))))))))))))))))))))))))) (subCons (mca (tl (tl (tl (tl (tl (tl (tl (tl (tl (tl (tl (tl (tl (tl (tl (tl (tl (tl (tl (tl (tl (tl (tl (tl (tl (tl (tl (tl (tl (tl (tl (tl (m59)))))))))))))))))))))))))))))))))) subNil))))))))))))))))) (Pm.perm (by repeat (first | exact .nil | refine .cons (by repeat (first | exact .hd | apply Take.tl)) ?_)))
             ·
              try simp only [Bool.and_eq_true, Bool.or_eq_true, Bool.not_eq_true', Bool.not_eq_false', Bool.and_eq_false_iff, Bool.or_eq_false_iff, decide_eq_true_eq, decide_eq_false_iff_not, beq_iff_eq, Bool.not_eq_true, Bool.not_eq_false] at hc22
              refine tr_skip ?_
              refine qt_block ?_
              refine qt_then ?_
              refine tr_seq ?_
              refine tr_seq ?_
              -- region 68
              refine tr_plain ?_
              refine r_move .none (.t (tl (m59))) rfl rfl ?_
              refine r_load [_, _, _] ty45 .none (.t m45) (by first | (refine sees_l ?_; (repeat (first | exact hd | apply tl)); done) | (apply sees_own; apply sees_l; (repeat (first | exact hd | apply tl)); done) | exact sees_r (by assumption)) rfl rfl (.agg _) rfl rfl ?_
              refine r_call _ _ _ en10 .none (.f _ _) (.cons (.t m1) (.cons (.t m0) .nil)) (fun w hw => callL (.cons (.tl (.tl (.tl .hd))) (.cons (.tl (.tl (.tl .hd))) .nil)) hw (fun h => CHearBack _ _ _ _ _ _ _ _ _ _ _ s.gl xn m (by omega) (by omega) (by omega) _ _ _ _ _ (fun w h => back_no _ _ _ _ _ _ _ _ _ _ _ s.gl xn m g hg (by omega) w h) w h (hw.besideL (.cons (.tl (.tl (.tl .hd))) (.cons (.tl (.tl (.tl .hd))) .nil)) m3))) (fun _ _ _ _ => trivial) rfl rfl ?_
              rintro ⟨⟩ _
              refine r_move .none (.t m0) rfl rfl ?_
              refine r_extract .none (.t m0) rfl rfl rfl ?_
              refine r_extract .none (.t m1) rfl rfl rfl ?_
              refine r_alloc [.int .i64 0, .int .i64 0, .int .i64 0] el45 rfl .none (fun _ _ _ => trivial) rfl rfl (fun b43 => ?_)
              refine r_store [_, _, _] ty45 .none (.t m0) (.t m2) (Take.perm (by repeat (first | exact .hd | apply Take.tl))) rfl rfl rfl rfl (fun _ _ => trivial) ?_
              refine r_assign .none (.t m1) rfl rfl ?_
              refine tl_nil ?_
              refine qt_then ?_
              refine tr_seq ?_
              -- region 69
              refine tr_plain ?_
              refine r_move .none (.t m0) rfl rfl ?_
              refine r_neq .none (.t m0) (.c _ _) rfl rfl ?_
              refine r_move .none (.t m0) rfl rfl ?_
              refine r_load [_, _, _] ty45 (.neg rfl m0) (.t m4) (by first | (refine sees_l ?_; (repeat (first | exact hd | apply tl)); done) | (apply sees_own; apply sees_l; (repeat (first | exact hd | apply tl)); done) | exact sees_r (by assumption)) rfl rfl (.agg _) rfl rfl ?_
              refine r_load [_, _, _] ty45 (.neg rfl m1) (.t m52) (by first | (refine sees_l ?_; (repeat (first | exact hd | apply tl)); done) | (apply sees_own; apply sees_l; (repeat (first | exact hd | apply tl)); done) | exact sees_r (by assumption)) rfl rfl (.agg _) rfl rfl ?_
              refine r_neqG eqg45 (.neg rfl m2) (.s m1) (.s m0) (eq45 _ _ _ _ _ _) rfl rfl ?_
              refine r_or .none (.t m3) (.s m0) rfl rfl ?_
              refine tl_nil ?_
              refine qt_then ?_
              -- c23
              refine tr_cond (.t m0) (fun hc23 => ?_) (fun hc23 => ?_)
              · exfalso; first | (simp at hc23; done) | (simp only [Bool.and_eq_true, Bool.or_eq_true, Bool.not_eq_true', Bool.not_eq_false', Bool.and_eq_false_iff, Bool.or_eq_false_iff, decide_eq_true_eq, decide_eq_false_iff_not, beq_iff_eq, Bool.not_eq_true, Bool.not_eq_false] at hc23; omega) | (simp at hc23; omega)
              ·
               try simp only [Bool.and_eq_true, Bool.or_eq_true, Bool.not_eq_true', Bool.not_eq_false', Bool.and_eq_false_iff, Bool.or_eq_false_iff, decide_eq_true_eq, decide_eq_false_iff_not, beq_iff_eq, Bool.not_eq_true, Bool.not_eq_false] at hc23
               refine tr_skip ?_
               refine qt_then ?_
               refine tr_seq ?_
               -- region 71
               refine tr_plain ?_
               refine r_fieldAddr fd45_0 .none (.t m55) rfl rfl ?_
               refine r_load [_] ty3 .none (.t m0) (by first | (refine sees_l ?_; (repeat (first | exact hd | apply tl)); done) | (apply sees_own; apply sees_l; (repeat (first | exact hd | apply tl)); done) | exact sees_r (by assumption)) rfl rfl (.one _) rfl rfl ?_
               refine r_neq .none (.t m0) (.c _ _) rfl rfl ?_
               refine tl_nil ?_
               refine qt_then ?_
               -- c24
               refine tr_cond (.t m0) (fun hc24 => ?_) (fun hc24 => ?_)
               · exfalso; first | (simp at hc24; done) | (simp only [Bool.and_eq_true, Bool.or_eq_true, Bool.not_eq_true', Bool.not_eq_false', Bool.and_eq_false_iff, Bool.or_eq_false_iff, decide_eq_true_eq, decide_eq_false_iff_not, beq_iff_eq, Bool.not_eq_true, Bool.not_eq_false] at hc24; omega) | (simp at hc24; omega)
               ·
                try simp only [Bool.and_eq_true, Bool.or_eq_true, Bool.not_eq_true', Bool.not_eq_false', Bool.and_eq_false_iff, Bool.or_eq_false_iff, decide_eq_true_eq, decide_eq_false_iff_not, beq_iff_eq, Bool.not_eq_true, Bool.not_eq_false] at hc24
                refine tr_skip ?_
                refine qt_block ?_
                refine qt_kl (.cons (.tl .hd) (.cons (.tl .hd) (.cons (.tl (.tl (.tl (.tl .hd)))) (.cons (.tl .hd) (.cons (.tl (.tl (.tl .hd))) (.cons (.tl (.tl (.tl .hd))) (.cons (.tl (.tl (.tl .hd))) (.cons (.tl (.tl (.tl .hd))) .nil)))))))) ?_
                exact hcut_b4 ({ s with gl := s.gl.set xn (max g m) } : Sy) Aw cw ⟨(hok.glset hg ⟨by omega, by omega⟩).mono (by omega) (by omega), hbN, hbS⟩ (subCons (mca (tl (tl (tl (tl (tl (tl (tl (tl (tl (tl (tl (tl (tl (tl (tl (tl (m59)))))))))))))))))) (subCons (mca (tl (tl (tl (tl (tl (tl (tl (tl (tl (tl (tl (tl (tl (tl (tl (tl (tl (m59))))))))))))))))))) (subCons (mca (tl (tl (tl (tl (tl (tl (tl (tl (tl (tl (tl (tl (tl (tl (tl (tl (tl (tl (m59)))))))))))))))))))) (subCons (mca (tl (tl (tl (tl (tl (tl (tl (tl (tl (tl (tl (tl (tl (tl (tl (tl (tl (tl (tl (m59))))))))))))))))))))) (subCons (mca (tl (tl (tl (tl (tl (tl (tl (tl (tl (tl (tl (tl (tl (tl (tl (tl (tl (tl (tl (tl (m59)))))))))))))))))))))) (subCons (mca (tl (tl (tl (tl (tl (tl (tl (tl (tl (tl (tl (tl (tl (tl (tl (tl (tl (tl (tl (tl (tl (m59))))))))))))))))))))))) (subCons (mca (tl (tl (tl (tl (tl (tl (tl (tl (tl (tl (tl (tl (tl (tl (tl (tl (tl (tl (tl (tl (tl (tl (m59)))))))))))))))))))))))) (subCons (mca (tl (tl (tl (tl (tl (tl (tl (tl (tl (tl (tl (tl (tl (tl (tl (tl (tl (tl (tl (tl (tl (tl (tl (m59))))))))))))))))))))))))) (subCons (mca (tl (tl (tl (tl (tl (tl (tl (tl (tl (tl (tl (tl (tl (tl (tl (tl (tl (tl (tl (tl (tl (tl (tl (tl (m59)))))))))))))))))))))))))) (subCons (mca (tl (tl (tl (tl (tl (tl (tl (tl (tl (tl (tl (tl (tl (tl (tl (tl (tl (tl (tl (tl (tl (tl (tl (tl (tl (m59))))))))))))))))))))))))))) (subCons (mca (tl (tl (tl (tl (tl (tl (tl (tl (tl (tl (tl (tl (tl (tl (tl (tl (tl (tl (tl (tl (tl (tl (tl (tl (tl (tl (m59)))))))))))))))))))))))))))) (subCons (mca (tl (tl (tl (tl (tl (tl (tl (tl (tl (tl (tl (tl (tl (tl (tl (tl (tl (tl (tl (tl (tl (tl (tl (tl (tl (tl (tl (m59))))))))))))))))))))))))))))) (subCons (mca (tl (tl (tl (tl (tl (tl (tl (tl (tl (tl (tl (tl (tl (tl (tl (tl (tl (tl (tl (tl (tl (tl (tl (tl (tl (tl (tl (tl (m59)))))))))))))))))))))))))))))) (subCons (mca (tl (tl (tl (tl (tl (tl (tl (tl (tl (tl (tl (tl (tl (tl (tl (tl (tl (tl (tl (tl (tl (tl (tl (tl (tl (tl (tl (tl (tl (m59))))))))))))))))))))))))))))))) (subCons (mca (tl (tl (tl (tl (tl (tl (tl (tl (tl (tl (tl (tl (tl (tl (tl (tl (tl (tl (tl (tl (tl (tl (tl (tl (tl (tl (tl (tl (tl (tl (m59)))))))))))))))))))))))))))))))) (subCons (mca (tl (tl (tl (tl (tl (tl (tl (tl (tl (tl (tl (tl (tl (tl (tl (tl (tl (tl (tl (tl (tl (tl (tl (tl (tl (tl (tl (tl (tl (tl (tl (m59))))))))))))))))))))))))))))))))) (subCons (mca (tl (tl (tl (tl (tl (tl (tl (tl (tl (tl (tl (tl (tl (tl (tl (tl (tl (tl (tl (tl (tl (tl (tl (tl (tl (tl (tl (tl (tl (tl (tl (tl (m59)))))))))))))))))))))))))))))))))) subNil))))))))))))))))) (Pm.perm (by repeat (first | exact .nil | refine .cons (by repeat (first | exact .hd | apply Take.tl)) ?_)))
            ·
             try simp only [Bool.and_eq_true, Bool.or_eq_true, Bool.not_eq_true', Bool.not_eq_false', Bool.and_eq_false_iff, Bool.or_eq_false_iff, decide_eq_true_eq, decide_eq_false_iff_not, beq_iff_eq, Bool.not_eq_true, Bool.not_eq_false] at hc21
             obtain rfl : wk = 1 := by omega
             refine tr_skip ?_
             refine qt_block ?_
             refine qt_then ?_
             refine tr_seq ?_
             refine tr_seq ?_
             -- region 68
             refine tr_plain ?_
             refine r_move .none (.t m38) rfl rfl ?_
             refine r_load [_, _, _] ty45 .none (.t m23) (by first | (refine sees_l ?_; (repeat (first | exact hd | apply tl)); done) | (apply sees_own; apply sees_l; (repeat (first | exact hd | apply tl)); done) | exact sees_r (by assumption)) rfl rfl (.agg _) rfl rfl ?_
             refine r_call _ _ _ en10 .none (.f _ _) (.cons (.t m1) (.cons (.t m0) .nil)) (fun w hw => callL (.cons (.tl (.tl .hd)) (.cons (.tl (.tl .hd)) .nil)) hw (fun h => CHearAsk _ _ _ _ _ _ _ _ _ _ _ s.gl xn m (by omega) (by omega) (by omega) _ _ _ _ _ (fun w h => ask_old _ _ _ _ _ _ _ _ _ _ _ s.gl xn m g hg (by omega) w h) w h (hw.besideL (.cons (.tl (.tl .hd)) (.cons (.tl (.tl .hd)) .nil)) m2))) (fun _ _ _ _ => trivial) rfl rfl ?_
             rintro ⟨⟩ _
             refine r_move .none (.t m0) rfl rfl ?_
             refine r_extract .none (.t m0) rfl rfl rfl ?_
             refine r_extract .none (.t m1) rfl rfl rfl ?_
             refine r_alloc [.int .i64 0, .int .i64 0, .int .i64 0] el45 rfl .none (fun _ _ _ => trivial) rfl rfl (fun b43 => ?_)
             refine r_store [_, _, _] ty45 .none (.t m0) (.t m2) (Take.perm (by repeat (first | exact .hd | apply Take.tl))) rfl rfl rfl rfl (fun _ _ => trivial) ?_
             refine r_assign .none (.t m1) rfl rfl ?_
             refine tl_nil ?_
             refine qt_then ?_
             refine tr_seq ?_
             -- region 69
             refine tr_plain ?_
             refine r_move .none (.t m0) rfl rfl ?_
             refine r_neq .none (.t m0) (.c _ _) rfl rfl ?_
             refine r_move .none (.t m0) rfl rfl ?_
             refine r_load [_, _, _] ty45 (.neg rfl m0) (.t m4) (by first | (refine sees_l ?_; (repeat (first | exact hd | apply tl)); done) | (apply sees_own; apply sees_l; (repeat (first | exact hd | apply tl)); done) | exact sees_r (by assumption)) rfl rfl (.agg _) rfl rfl ?_
             refine r_load [_, _, _] ty45 (.neg rfl m1) (.t m30) (by first | (refine sees_l ?_; (repeat (first | exact hd | apply tl)); done) | (apply sees_own; apply sees_l; (repeat (first | exact hd | apply tl)); done) | exact sees_r (by assumption)) rfl rfl (.agg _) rfl rfl ?_
             refine r_neqG eqg45 (.neg rfl m2) (.s m1) (.s m0) (eq45 _ _ _ _ _ _) rfl rfl ?_
             refine r_or .none (.t m3) (.s m0) rfl rfl ?_
             refine tl_nil ?_
             refine qt_then ?_
             -- c23
             refine tr_cond (.t m0) (fun hc23 => ?_) (fun hc23 => ?_)
             · exfalso; first | (simp at hc23; done) | (simp only [Bool.and_eq_true, Bool.or_eq_true, Bool.not_eq_true', Bool.not_eq_false', Bool.and_eq_false_iff, Bool.or_eq_false_iff, decide_eq_true_eq, decide_eq_false_iff_not, beq_iff_eq, Bool.not_eq_true, Bool.not_eq_false] at hc23; omega) | (simp at hc23; omega)
             ·
              try simp only [Bool.and_eq_true, Bool.or_eq_true, Bool.not_eq_true', Bool.not_eq_false', Bool.and_eq_false_iff, Bool.or_eq_false_iff, decide_eq_true_eq, decide_eq_false_iff_not, beq_iff_eq, Bool.not_eq_true, Bool.not_eq_false] at hc23
              refine tr_skip ?_
              refine qt_then ?_
              refine tr_seq ?_
              -- region 71
              refine tr_plain ?_
              refine r_fieldAddr fd45_0 .none (.t m33) rfl rfl ?_
              refine r_load [_] ty3 .none (.t m0) (by first | (refine sees_l ?_; (repeat (first | exact hd | apply tl)); done) | (apply sees_own; apply sees_l; (repeat (first | exact hd | apply tl)); done) | exact sees_r (by assumption)) rfl rfl (.one _) rfl rfl ?_
              refine r_neq .none (.t m0) (.c _ _) rfl rfl ?_
              refine tl_nil ?_
              refine qt_then ?_
              -- c24
              refine tr_cond (.t m0) (fun hc24 => ?_) (fun hc24 => ?_)
              · exfalso; first | (simp at hc24; done) | (simp only [Bool.and_eq_true, Bool.or_eq_true, Bool.not_eq_true', Bool.not_eq_false', Bool.and_eq_false_iff, Bool.or_eq_false_iff, decide_eq_true_eq, decide_eq_false_iff_not, beq_iff_eq, Bool.not_eq_true, Bool.not_eq_false] at hc24; omega) | (simp at hc24; omega)
              ·
               try simp only [Bool.and_eq_true, Bool.or_eq_true, Bool.not_eq_true', Bool.not_eq_false', Bool.and_eq_false_iff, Bool.or_eq_false_iff, decide_eq_true_eq, decide_eq_false_iff_not, beq_iff_eq, Bool.not_eq_true, Bool.not_eq_false] at hc24
               refine tr_skip ?_
               refine qt_block ?_
               refine qt_kl (.cons (.tl .hd) (.cons (.tl .hd) (.cons (.tl (.tl (.tl .hd))) (.cons (.tl (.tl (.tl .hd))) (.cons (.tl (.tl (.tl .hd))) (.cons (.tl (.tl (.tl .hd))) (.cons (.tl (.tl (.tl .hd))) (.cons (.tl (.tl (.tl .hd))) .nil)))))))) ?_
               exact hcut_b4 s Aw cw ⟨hok.mono (by omega) (by omega), hbN, hbS⟩ (subCons (mca m53) (subCons (mca m54) (subCons (mca m55) (subCons (mca m56) (subCons (mca m57) (subCons (mca m58) (subCons (mca m59) (subCons (mca (tl (m59))) (subCons (mca (tl (tl (m59)))) (subCons (mca (tl (tl (tl (m59))))) (subCons (mca (tl (tl (tl (tl (m59)))))) (subCons (mca (tl (tl (tl (tl (tl (m59))))))) (subCons (mca (tl (tl (tl (tl (tl (tl (m59)))))))) (subCons (mca (tl (tl (tl (tl (tl (tl (tl (m59))))))))) (subCons (mca (tl (tl (tl (tl (tl (tl (tl (tl (m59)))))))))) (subCons (mca (tl (tl (tl (tl (tl (tl (tl (tl (tl (m59))))))))))) (subCons (mca (tl (tl (tl (tl (tl (tl (tl (tl (tl (tl (m59)))))))))))) subNil))))))))))))))))) (Pm.perm (by repeat (first | exact .nil | refine .cons (by repeat (first | exact .hd | apply Take.tl)) ?_)))
        ·
         try simp only [Bool.and_eq_true, Bool.or_eq_true, Bool.not_eq_true', Bool.not_eq_false', Bool.and_eq_false_iff, Bool.or_eq_false_iff, decide_eq_true_eq, decide_eq_false_iff_not, beq_iff_eq, Bool.not_eq_true, Bool.not_eq_false] at hc12
         refine tr_seq ?_
         -- region 73
         refine tr_plain ?_
         refine r_eql .none (.t m21) (.c _ _) rfl rfl ?_
         refine r_assign .none (.t m0) rfl rfl ?_
         refine tl_nil ?_
         refine qt_then ?_
         -- c25
         refine tr_cond (.t m0) (fun hc25 => ?_) (fun hc25 => ?_)
         ·
          try simp only [Bool.and_eq_true, Bool.or_eq_true, Bool.not_eq_true', Bool.not_eq_false', Bool.and_eq_false_iff, Bool.or_eq_false_iff, decide_eq_true_eq, decide_eq_false_iff_not, beq_iff_eq, Bool.not_eq_true, Bool.not_eq_false] at hc25
          obtain ⟨wx, hwx, hwx1⟩ : ∃ wx, w0.tmod ((nn : Int) + 1) = wx ∧ 0 ≤ wx ∧ wx < (nn : Int) + 1 := by
            have e4 : w0.tmod ((nn : Int) + 1) = w0 % ((nn : Int) + 1) := Int.tmod_eq_emod_of_nonneg hw0.1
            have e5 := Int.emod_nonneg w0 (b := (nn : Int) + 1) (by omega)
            have e6 := Int.emod_lt_of_pos w0 (b := (nn : Int) + 1) (by omega)
            exact ⟨_, e4, e5, e6⟩
          refine tr_seq ?_
          -- region 74
          refine tr_plain ?_
          refine r_fieldAddr fd43_2 .none (.t m19) rfl rfl ?_
          refine r_load [_] ty5 .none (.t m0) (by first | (refine sees_l ?_; (repeat (first | exact hd | apply tl)); done) | (apply sees_own; apply sees_l; (repeat (first | exact hd | apply tl)); done) | exact sees_r (by assumption)) rfl rfl (.one _) rfl rfl ?_
          refine r_conv _ Try.underlying5 Try.underlying3 .none (.t m0) (fun _ => IntWalk.i64_in _ (by omega)) rfl rfl ?_
          refine r_move .none (.t m6) rfl rfl ?_
          refine r_add .none (.t m0) (.c _ _) (fun _ => by omega) rfl rfl ?_
          refine r_rem .none (.t m2) (.t m0) (fun _ => by omega) rfl rfl ?_
          refine tl_valh (v' := .int .i64 wx) (by rw [hwx]) ?_
          refine tl_kp (.k (.k (.k (.k (.k (.k (.k (.k (.k (.k (.k (.k (.k (.k (.k (.k (.d .all))))))))))))))))) ?_
          refine r_assign .none (.t m0) rfl rfl ?_
          refine tl_nil ?_
          refine qt_then ?_
          refine tr_seq ?_
          -- region 75
          refine tr_plain ?_
          refine r_move .none (.t m12) rfl rfl ?_
          refine r_move .none (.t m1) rfl rfl ?_
          refine r_call _ _ _ en11 .none (.f _ _) (.cons (.t m1) (.cons (.t m0) .nil)) (fun w hw => callL (.cons .hd .nil) hw (fun h => Want_turn _ _ _ _ _ _ _ _ _ _ _ wx (by omega) (by omega) w h)) (fun _ _ _ _ => trivial) rfl rfl ?_
          rintro ⟨⟩ _
          refine r_neq .none (.t m0) (.c _ _) rfl rfl ?_
          refine r_move .none (.t m0) rfl rfl ?_
          refine r_move (.neg rfl m0) (.t m17) rfl rfl ?_
          refine r_move (.neg rfl m1) (.t m16) rfl rfl ?_
          refine r_add (.neg rfl m2) (.s m0) (.c _ _) (fun hg => by simp only [Bool.and_eq_true, Bool.or_eq_true, Bool.not_eq_true', Bool.not_eq_false', Bool.and_eq_false_iff, Bool.or_eq_false_iff, decide_eq_true_eq, decide_eq_false_iff_not, beq_iff_eq, Bool.not_eq_true, Bool.not_eq_false] at hg; omega) rfl rfl ?_
          refine r_ans en11 (.neg rfl m3) (.f _ _) (.cons (.s m2) (.cons (.s m0) .nil)) (fun hg w hw => WantNone_ans _ _ _ _ _ _ _ _ _ _ _ ((nn : Int) + 1) (by omega) (by omega) w (hw.in_ m0)) (fun _ _ => trivial) rfl rfl ?_
          refine r_neq (.neg rfl m4) (.s m0) (.c _ _) rfl rfl ?_
          refine r_or .none (.t m5) (.s m0) rfl rfl ?_
          refine tl_nil ?_
          refine qt_then ?_
          -- c26
          refine tr_cond (.t m0) (fun hc26 => ?_) (fun hc26 => ?_)
          · exfalso; first | (simp at hc26; done) | (simp only [Bool.and_eq_true, Bool.or_eq_true, Bool.not_eq_true', Bool.not_eq_false', Bool.and_eq_false_iff, Bool.or_eq_false_iff, decide_eq_true_eq, decide_eq_false_iff_not, beq_iff_eq, Bool.not_eq_true, Bool.not_eq_false] at hc26; omega) | (simp at hc26; omega)
          ·
           try simp only [Bool.and_eq_true, Bool.or_eq_true, Bool.not_eq_true', Bool.not_eq_false', Bool.and_eq_false_iff, Bool.or_eq_false_iff, decide_eq_true_eq, decide_eq_false_iff_not, beq_iff_eq, Bool.not_eq_true, Bool.not_eq_false] at hc26
           refine tr_skip ?_
           refine qt_block ?_
           refine qt_kl (.cons .hd (.cons .hd (.cons .hd (.cons .hd (.cons .hd (.cons .hd (.cons .hd (.cons .hd .nil)))))))) ?_
           exact hcut_b4 ({ s with wants := wx } : Sy) Aw cw ⟨(hok.want ⟨by omega, by omega⟩).mono (by omega) (by omega), hbN, hbS⟩ (subCons (mca m20) (subCons (mca m21) (subCons (mca m22) (subCons (mca m23) (subCons (mca m24) (subCons (mca m25) (subCons (mca m26) (subCons (mca m27) (subCons (mca m11) (subCons (mca m28) (subCons (mca m29) (subCons (mca m30) (subCons (mca m31) (subCons (mca m32) (subCons (mca m33) (subCons (mca m34) (subCons (mca m35) subNil))))))))))))))))) (Pm.perm (by repeat (first | exact .nil | refine .cons (by repeat (first | exact .hd | apply Take.tl)) ?_)))
         ·
          try simp only [Bool.and_eq_true, Bool.or_eq_true, Bool.not_eq_true', Bool.not_eq_false', Bool.and_eq_false_iff, Bool.or_eq_false_iff, decide_eq_true_eq, decide_eq_false_iff_not, beq_iff_eq, Bool.not_eq_true, Bool.not_eq_false] at hc25
          refine tr_seq ?_
          -- region 77
          refine tr_plain ?_
          refine r_eql .none (.t m23) (.c _ _) rfl rfl ?_
          refine r_assign .none (.t m0) rfl rfl ?_
          refine tl_nil ?_
          refine qt_then ?_
          -- c27
          refine tr_cond (.t m0) (fun hc27 => ?_) (fun hc27 => ?_)
          ·
           try simp only [Bool.and_eq_true, Bool.or_eq_true, Bool.not_eq_true', Bool.not_eq_false', Bool.and_eq_false_iff, Bool.or_eq_false_iff, decide_eq_true_eq, decide_eq_false_iff_not, beq_iff_eq, Bool.not_eq_true, Bool.not_eq_false] at hc27
           refine tr_seq ?_
           -- region 78
           by_cases hz : u.num = 0
           ·
            -- region 78
            refine tr_open4 (.tl (.tl (.tl (.tl (.tl (.tl (.tl .hd))))))) (unit_at hu) ?_
            refine tr_plain ?_
            refine r_move .none (.t m23) rfl rfl ?_
            refine r_ans en12 .none (.f _ _) (.cons (.t m0) .nil) (fun hg w hw => ReturnNone_ans _ _ _ _ _ _ _ _ _ hz w (hw.in_ m0)) (fun _ _ => trivial) rfl rfl ?_
            refine r_move .none (.t m0) rfl rfl ?_
            refine r_extract .none (.t m0) rfl rfl rfl ?_
            refine r_extract .none (.t m1) rfl rfl rfl ?_
            refine r_alloc [.int .i64 0, .int .i64 0, .int .i64 0] el45 rfl .none (fun _ _ _ => trivial) rfl rfl (fun b45 => ?_)
            refine r_store [_, _, _] ty45 .none (.t m0) (.t m2) (Take.perm (by repeat (first | exact .hd | apply Take.tl))) rfl rfl rfl rfl (fun _ _ => trivial) ?_
            refine r_assign .none (.t m1) rfl rfl ?_
            refine tl_nil ?_
            refine qt_then ?_
            refine tr_seq ?_
            refine tr_seq ?_
            -- region 79
            refine tr_plain ?_
            refine r_move .none (.t m31) rfl rfl ?_
            refine r_nilCheckP .none (.t m0) rfl rfl ?_
            refine r_fieldAddr fd39_1 .none (.t m0) rfl rfl ?_
            refine r_load [_] ty3 .none (.t m0) (by first | (refine sees_l ?_; (repeat (first | exact hd | apply tl)); done) | (apply sees_own; apply sees_l; (repeat (first | exact hd | apply tl)); done) | exact sees_r (by assumption)) rfl rfl (.one _) rfl rfl ?_
            refine r_eql .none (.t m0) (.c _ _) rfl rfl ?_
            refine tl_nil ?_
            refine qt_then ?_
            -- c28
            refine tr_cond (.t m0) (fun hc28 => ?_) (fun hc28 => ?_)
            ·
             try simp only [Bool.and_eq_true, Bool.or_eq_true, Bool.not_eq_true', Bool.not_eq_false', Bool.and_eq_false_iff, Bool.or_eq_false_iff, decide_eq_true_eq, decide_eq_false_iff_not, beq_iff_eq, Bool.not_eq_true, Bool.not_eq_false] at hc28
             refine tr_seq ?_
             refine tr_seq ?_
             -- region 80
             refine tr_plain ?_
             refine r_move .none (.t m5) rfl rfl ?_
             refine r_neq .none (.t m0) (.c _ _) rfl rfl ?_
             refine tl_nil ?_
             refine qt_then ?_
             -- c29
             refine tr_cond (.t m0) (fun hc29 => ?_) (fun hc29 => ?_)
             · exfalso; first | (simp at hc29; done) | (simp only [Bool.and_eq_true, Bool.or_eq_true, Bool.not_eq_true', Bool.not_eq_false', Bool.and_eq_false_iff, Bool.or_eq_false_iff, decide_eq_true_eq, decide_eq_false_iff_not, beq_iff_eq, Bool.not_eq_true, Bool.not_eq_false] at hc29; omega) | (simp at hc29; omega)
             ·
              try simp only [Bool.and_eq_true, Bool.or_eq_true, Bool.not_eq_true', Bool.not_eq_false', Bool.and_eq_false_iff, Bool.or_eq_false_iff, decide_eq_true_eq, decide_eq_false_iff_not, beq_iff_eq, Bool.not_eq_true, Bool.not_eq_false] at hc29
              refine tr_skip ?_
              refine qt_then ?_
              refine tr_exit ?_
              refine qt_then_exit ?_
              refine qt_block_hit ?_
              refine qt_shut4 (.cons (.tl .hd) (.cons (.tl .hd) (.cons (.tl .hd) (.cons (.tl .hd) (.cons (.tl .hd) .nil))))) (by simpa using (List.getElem?_eq_some_iff.1 hu).1) (unit_same hu rfl) ?_
              refine qt_kl (.cons (.tl (.tl .hd)) (.cons (.tl (.tl .hd)) (.cons (.tl (.tl .hd)) (.cons (.tl (.tl .hd)) (.cons (.tl (.tl .hd)) (.cons (.tl (.tl .hd)) (.cons (.tl (.tl .hd)) (.cons .hd .nil)))))))) ?_
              exact hcut_b4 s Aw cw ⟨hok.mono (by omega) (by omega), hbN, hbS⟩ (subCons (mca m18) (subCons (mca m19) (subCons (mca m20) (subCons (mca m21) (subCons (mca m22) (subCons (mca m23) (subCons (mca m24) (subCons (mca m25) (subCons (mca m26) (subCons (mca m27) (subCons (mca m28) (subCons (mca m29) (subCons (mca m30) (subCons (mca m31) (subCons (mca m32) (subCons (mca m33) (subCons (mca m34) subNil))))))))))))))))) (Pm.perm (by repeat (first | exact .nil | refine .cons (by repeat (first | exact .hd | apply Take.tl)) ?_)))
            · exfalso; first | (simp at hc28; done) | (simp only [Bool.and_eq_true, Bool.or_eq_true, Bool.not_eq_true', Bool.not_eq_false', Bool.and_eq_false_iff, Bool.or_eq_false_iff, decide_eq_true_eq, decide_eq_false_iff_not, beq_iff_eq, Bool.not_eq_true, Bool.not_eq_false] at hc28; omega) | (simp at hc28; omega)
           ·
            -- region 78
            refine tr_open4 (.tl (.tl (.tl (.tl (.tl (.tl (.tl .hd))))))) (unit_at hu) ?_
            refine tr_plain ?_
            refine r_move .none (.t m23) rfl rfl ?_
            refine r_call _ _ _ en12 .none (.f _ _) (.cons (.t m0) .nil) (fun w hw => callL (.cons .hd .nil) hw (fun h => Return_turn _ _ _ _ _ _ _ _ _ hz w h)) (fun _ _ _ _ => trivial) rfl rfl ?_
            rintro ⟨⟩ _
            refine r_move .none (.t m0) rfl rfl ?_
            refine r_extract .none (.t m0) rfl rfl rfl ?_
            refine r_extract .none (.t m1) rfl rfl rfl ?_
            refine r_alloc [.int .i64 0, .int .i64 0, .int .i64 0] el45 rfl .none (fun _ _ _ => trivial) rfl rfl (fun b45 => ?_)
            refine r_store [_, _, _] ty45 .none (.t m0) (.t m2) (Take.perm (by repeat (first | exact .hd | apply Take.tl))) rfl rfl rfl rfl (fun _ _ => trivial) ?_
            refine r_assign .none (.t m1) rfl rfl ?_
            refine tl_nil ?_
            refine qt_then ?_
            refine tr_seq ?_
            refine tr_seq ?_
            -- region 79
            refine tr_plain ?_
            refine r_move .none (.t m31) rfl rfl ?_
            refine r_nilCheckP .none (.t m0) rfl rfl ?_
            refine r_fieldAddr fd39_1 .none (.t m0) rfl rfl ?_
            refine r_load [_] ty3 .none (.t m0) (by first | (refine sees_l ?_; (repeat (first | exact hd | apply tl)); done) | (apply sees_own; apply sees_l; (repeat (first | exact hd | apply tl)); done) | exact sees_r (by assumption)) rfl rfl (.one _) rfl rfl ?_
            refine r_eql .none (.t m0) (.c _ _) rfl rfl ?_
            refine tl_nil ?_
            refine qt_then ?_
            -- c28
            refine tr_cond (.t m0) (fun hc28 => ?_) (fun hc28 => ?_)
            · exfalso; first | (simp at hc28; done) | (simp only [Bool.and_eq_true, Bool.or_eq_true, Bool.not_eq_true', Bool.not_eq_false', Bool.and_eq_false_iff, Bool.or_eq_false_iff, decide_eq_true_eq, decide_eq_false_iff_not, beq_iff_eq, Bool.not_eq_true, Bool.not_eq_false] at hc28; omega) | (simp at hc28; omega)
            ·
             try simp only [Bool.and_eq_true, Bool.or_eq_true, Bool.not_eq_true', Bool.not_eq_false', Bool.and_eq_false_iff, Bool.or_eq_false_iff, decide_eq_true_eq, decide_eq_false_iff_not, beq_iff_eq, Bool.not_eq_true, Bool.not_eq_false] at hc28
             refine tr_skip ?_
             refine qt_then ?_
             refine tr_seq ?_
             -- region 82
             refine tr_plain ?_
             refine r_move .none (.t m34) rfl rfl ?_
             refine r_add .none (.t m0) (.c _ _) (fun _ => by omega) rfl rfl ?_
             refine r_move .none (.t m38) rfl rfl ?_
             refine r_nilCheckP .none (.t m0) rfl rfl ?_
             refine r_fieldAddr fd39_1 .none (.t m0) rfl rfl ?_
             refine r_load [_] ty3 .none (.t m0) (by first | (refine sees_l ?_; (repeat (first | exact hd | apply tl)); done) | (apply sees_own; apply sees_l; (repeat (first | exact hd | apply tl)); done) | exact sees_r (by assumption)) rfl rfl (.one _) rfl rfl ?_
             refine r_build [_, _, _] bd45 .none (.cons (.c _ _) (.cons (.t m4) (.cons (.t m0) .nil))) rfl rfl rfl ?_
             refine r_alloc [.int .i64 0, .int .i64 0, .int .i64 0] el45 rfl .none (fun _ _ _ => trivial) rfl rfl (fun b47 => ?_)
             refine r_store [_, _, _] ty45 .none (.t m0) (.t m1) (Take.perm (by repeat (first | exact .hd | apply Take.tl))) rfl rfl rfl rfl (fun _ _ => trivial) ?_
             refine tl_nil ?_
             refine qt_then ?_
             refine tr_seq ?_
             refine tr_seq ?_
             -- region 83
             refine tr_plain ?_
             refine r_move .none (.t m44) rfl rfl ?_
             refine r_move .none (.t m45) rfl rfl ?_
             refine r_move .none (.t m46) rfl rfl ?_
             refine r_nilCheckP .none (.t m0) rfl rfl ?_
             refine r_fieldAddr fd39_0 .none (.t m0) rfl rfl ?_
             refine r_load [_] ty3 .none (.t m0) (by first | (refine sees_l ?_; (repeat (first | exact hd | apply tl)); done) | (apply sees_own; apply sees_l; (repeat (first | exact hd | apply tl)); done) | exact sees_r (by assumption)) rfl rfl (.one _) rfl rfl ?_
             refine r_makeMap (Value.int .i64) .none (fun _ _ _ => trivial) rfl rfl (fun mb420 => ?_)
             refine r_nilCheckP .none (.t m6) rfl rfl ?_
             refine r_fieldAddr fd39_2 .none (.t m0) rfl rfl ?_
             refine r_store [_, _, _, _] ty3 .none (.t m0) (.t m3) (Take.perm (by repeat (first | exact .hd | apply Take.tl))) rfl rfl rfl rfl (fun _ _ => trivial) ?_
             refine r_nilCheckP .none (.t m7) rfl rfl ?_
             refine r_fieldAddr fd39_3 .none (.t m0) rfl rfl ?_
             refine r_store [_, _, _, _] ty37 .none (.t m0) (.t m4) (Take.perm (by repeat (first | exact .hd | apply Take.tl))) rfl rfl rfl rfl (fun _ _ => trivial) ?_
             refine tl_nil ?_
             refine qt_then ?_
             refine tr_seq ?_
             -- region 84
             refine tr_plain ?_
             refine r_move .none (.t m24) rfl rfl ?_
             refine r_neq .none (.t m0) (.c _ _) rfl rfl ?_
             refine r_move .none (.t m0) rfl rfl ?_
             refine r_load [_, _, _] ty45 (.neg rfl m0) (.t m28) (by first | (refine sees_l ?_; (repeat (first | exact hd | apply tl)); done) | (apply sees_own; apply sees_l; (repeat (first | exact hd | apply tl)); done) | exact sees_r (by assumption)) rfl rfl (.agg _) rfl rfl ?_
             refine r_load [_, _, _] ty45 (.neg rfl m1) (.t m15) (by first | (refine sees_l ?_; (repeat (first | exact hd | apply tl)); done) | (apply sees_own; apply sees_l; (repeat (first | exact hd | apply tl)); done) | exact sees_r (by assumption)) rfl rfl (.agg _) rfl rfl ?_
             refine r_neqG eqg45 (.neg rfl m2) (.s m1) (.s m0) (eq45 _ _ _ _ _ _) rfl rfl ?_
             refine r_or .none (.t m3) (.s m0) rfl rfl ?_
             refine tl_nil ?_
             refine qt_then ?_
             -- c30
             refine tr_cond (.t m0) (fun hc30 => ?_) (fun hc30 => ?_)
             · exfalso; simp [hid] at hc30
             ·
              try simp only [Bool.and_eq_true, Bool.or_eq_true, Bool.not_eq_true', Bool.not_eq_false', Bool.and_eq_false_iff, Bool.or_eq_false_iff, decide_eq_true_eq, decide_eq_false_iff_not, beq_iff_eq, Bool.not_eq_true, Bool.not_eq_false] at hc30
              refine tr_skip ?_
              refine qt_then ?_
              -- region 86
              refine tr_plain ?_
              refine r_move .none (.t m55) rfl rfl ?_
              refine r_load [_, _, _] ty45 .none (.t m19) (by first | (refine sees_l ?_; (repeat (first | exact hd | apply tl)); done) | (apply sees_own; apply sees_l; (repeat (first | exact hd | apply tl)); done) | exact sees_r (by assumption)) rfl rfl (.agg _) rfl rfl ?_
              refine r_buildSlice [[_, _, _]] sl41 el45 rfl rfl .none (.cons (.t m0) .nil) rfl rfl rfl (fun _ _ _ => trivial) rfl rfl (fun b434 => ?_)
              refine r_append sl41 el45 .none (.t m2) (.t m0) (Take.perm (by repeat (first | exact .hd | apply Take.tl))) (fun w hw => ownE_sl (hw.in_ (by repeat (first | exact hd | apply tl)))) rfl (by simp only [maxLen]; omega) (by omega) (fun _ _ _ _ => trivial) rfl rfl (fun A435 c435 => ?_)
              refine tl_kp (.k (.k (.k (.k (.k (.k (.k (.k (.k (.k (.k (.k (.k (.k (.k (.k (.k (.k (.k (.k (.k (.k (.k (.k (.k (.k (.k (.k (.k (.k (.k (.k (.k (.k (.k (.k (.k (.k (.k (.k (.k (.k (.k (.k (.k (.k (.k (.k (.k (.k (.k (.k (.k (.k (.k (.k (.k (.k (.k (.d .all)))))))))))))))))))))))))))))))))))))))))))))))))))))))))))) ?_
              refine r_assign .none (.t m0) rfl rfl ?_
              refine tl_nil ?_
              refine qt_block ?_
              refine qt_ownnil 77 2 ?_
              refine qt_shut4 (.cons (.tl (.tl (.tl (.tl (.tl (.tl (.tl .hd))))))) (.cons .hd (.cons (.tl (.tl .hd)) (.cons (.tl (.tl .hd)) (.cons (.tl (.tl (.tl (.tl (.tl (.tl .hd)))))) .nil))))) (by simpa using (List.getElem?_eq_some_iff.1 hu).1) (unit_set (v := ({ u with en := u.clock, asks := [], A := none, c := 0, mb := mb420 } : Un)) rfl) ?_
              refine qt_eq (y := ownE A435 (s.ws ++ [(3, u.id, u.num)]).length c435 45 3 (wordC (s.ws ++ [(3, u.id, u.num)]))) (.tl .hd) (by simp [wordC, hid]) ?_
              refine qt_kl (.cons (.tl (.tl (.tl (.tl (.tl (.tl (.tl .hd))))))) (.cons (.tl (.tl (.tl (.tl (.tl (.tl (.tl .hd))))))) (.cons (.tl (.tl (.tl (.tl (.tl (.tl (.tl .hd))))))) (.cons (.tl (.tl (.tl (.tl (.tl (.tl (.tl .hd))))))) (.cons .hd (.cons (.tl (.tl (.tl (.tl (.tl (.tl .hd)))))) (.cons (.tl (.tl (.tl (.tl (.tl (.tl .hd)))))) (.cons .hd .nil)))))))) ?_
              exact hcut_b4 ({ s with us := s.us.set k ({ u with en := u.clock, asks := [], A := none, c := 0, mb := mb420 } : Un), ws := s.ws ++ [(3, u.id, u.num)] } : Sy) A435 c435 ⟨(hok.ret hu 0 mb420 none (by omega) hz).mono (by omega) (by omega), setB hbN hu rfl, setB hbS hu rfl⟩ (subCons (mca m47) (subCons (mca m48) (subCons (mca m49) (subCons (mca m50) (subCons (mca m51) (subCons (mca m52) (subCons (mca m53) (subCons (mca m54) (subCons (mca m55) (subCons (mca m56) (subCons (mca m57) (subCons (mca m58) (subCons (mca m59) (subCons (mca m0) (subCons (mca (tl (m59))) (subCons (mca (tl (tl (m59)))) (subCons (mca (tl (tl (tl (m59))))) subNil))))))))))))))))) (Pm.perm (by repeat (first | exact .nil | refine .cons (by repeat (first | exact .hd | apply Take.tl)) ?_)))
          ·
           try simp only [Bool.and_eq_true, Bool.or_eq_true, Bool.not_eq_true', Bool.not_eq_false', Bool.and_eq_false_iff, Bool.or_eq_false_iff, decide_eq_true_eq, decide_eq_false_iff_not, beq_iff_eq, Bool.not_eq_true, Bool.not_eq_false] at hc27
           refine tr_cut0 (fun (_ : Unit) => [(8, true, .bool false), (9, true, .int .i64 (nn : Int)), (10, true, .int .i64 long), (12, true, .pointer (some ⟨b, 0, none⟩)), (14, true, .int .i64 W), (17, true, .slice Aa nn ca), (18, true, .slice As nn csx), (22, true, .int .i64 s.clock), (23, true, .int .i64 s.wants), (24, true, .slice (some ⟨b131, 0, none⟩) (nn + 1) (nn + 1)), (25, true, .int .i64 s.lease), (26, true, .int .i64 s.of), (27, true, .int .i64 s.since), (28, true, .slice Aw s.ws.length cw), (136, true, .slice A2 lim c2), (137, true, .int .i64 (lim : Int)), (138, true, .int .i64 (j : Int)), (30, true, .pointer (some ⟨b30, 0, none⟩)), (31, true, .int .i64 (k : Int)), (32, true, .pointer (some ⟨u.bN, 0, none⟩)), (33, true, .pointer (some ⟨u.bS, 0, none⟩)), (157, true, .int .u8 d), (436, true, .bool (decide (10 ≤ d ∧ d ≤ 12)))]) (fun (_ : Unit) => [boxE b 64 [.int .i64 s.clock, .int .i64 s.lease, .int .i64 s.of, .int .i64 s.since, .bool true, .int .i64 W, .int .i64 s.wants, .slice (some ⟨bg, 0, none⟩) (nn + 1) (nn + 1), .map (some mb)], ownE (some ⟨bg, 0, none⟩) (nn + 1) (nn + 1) 3 1 (glC s.gl), mapE (Value.int .i64) mb [(1, .func (.func 22) #[.pointer (some ⟨b, 0, none⟩)] #[]), (3, .func (.func 23) #[.pointer (some ⟨b, 0, none⟩)] #[])], ownE (some ⟨b131, 0, none⟩) (nn + 1) (nn + 1) 3 1 (glC s.gl), ownE Aw s.ws.length cw 45 3 (wordC s.ws), ownE Aa nn ca 33 1 (ptrN us), ownE As nn csx 36 1 (ptrS us), allE (s.us.map (unitE long)), boxE b30 43 [.int .u8 d0, .int .u8 k0, .int .u8 w0]]) (fun (_ : Unit) => True) ?_ ?_
           ·
            have hcut_c31 := fun {X Q F L} => qt_cut0 (Fi := fun (_ : Unit) => [(8, true, .bool false), (9, true, .int .i64 (nn : Int)), (10, true, .int .i64 long), (12, true, .pointer (some ⟨b, 0, none⟩)), (14, true, .int .i64 W), (17, true, .slice Aa nn ca), (18, true, .slice As nn csx), (22, true, .int .i64 s.clock), (23, true, .int .i64 s.wants), (24, true, .slice (some ⟨b131, 0, none⟩) (nn + 1) (nn + 1)), (25, true, .int .i64 s.lease), (26, true, .int .i64 s.of), (27, true, .int .i64 s.since), (28, true, .slice Aw s.ws.length cw), (136, true, .slice A2 lim c2), (137, true, .int .i64 (lim : Int)), (138, true, .int .i64 (j : Int)), (30, true, .pointer (some ⟨b30, 0, none⟩)), (31, true, .int .i64 (k : Int)), (32, true, .pointer (some ⟨u.bN, 0, none⟩)), (33, true, .pointer (some ⟨u.bS, 0, none⟩)), (157, true, .int .u8 d), (436, true, .bool (decide (10 ≤ d ∧ d ≤ 12)))]) (Li := fun (_ : Unit) => [boxE b 64 [.int .i64 s.clock, .int .i64 s.lease, .int .i64 s.of, .int .i64 s.since, .bool true, .int .i64 W, .int .i64 s.wants, .slice (some ⟨bg, 0, none⟩) (nn + 1) (nn + 1), .map (some mb)], ownE (some ⟨bg, 0, none⟩) (nn + 1) (nn + 1) 3 1 (glC s.gl), mapE (Value.int .i64) mb [(1, .func (.func 22) #[.pointer (some ⟨b, 0, none⟩)] #[]), (3, .func (.func 23) #[.pointer (some ⟨b, 0, none⟩)] #[])], ownE (some ⟨b131, 0, none⟩) (nn + 1) (nn + 1) 3 1 (glC s.gl), ownE Aw s.ws.length cw 45 3 (wordC s.ws), ownE Aa nn ca 33 1 (ptrN us), ownE As nn csx 36 1 (ptrS us), allE (s.us.map (unitE long)), boxE b30 43 [.int .u8 d0, .int .u8 k0, .int .u8 w0]]) (I := fun (_ : Unit) => True) (X := X) (Q := Q) (F := F) (L := L)
            refine tr_seq ?_
            -- region 87
            refine tr_plain ?_
            refine r_eql .none (.t m25) (.c _ _) rfl rfl ?_
            refine r_assign .none (.t m0) rfl rfl ?_
            refine tl_nil ?_
            refine qt_then ?_
            -- c31
            refine tr_cond (.t m0) (fun hc31 => ?_) (fun hc31 => ?_)
            ·
             try simp only [Bool.and_eq_true, Bool.or_eq_true, Bool.not_eq_true', Bool.not_eq_false', Bool.and_eq_false_iff, Bool.or_eq_false_iff, decide_eq_true_eq, decide_eq_false_iff_not, beq_iff_eq, Bool.not_eq_true, Bool.not_eq_false] at hc31
             refine tr_skip ?_
             exact hcut_c31 trivial (subCons (mca m6) (subCons (mca m7) (subCons (mca m8) (subCons (mca m9) (subCons (mca m10) (subCons (mca m11) (subCons (mca m12) (subCons (mca m13) (subCons (mca m14) (subCons (mca m15) (subCons (mca m16) (subCons (mca m17) (subCons (mca m18) (subCons (mca m19) (subCons (mca m20) (subCons (mca m21) (subCons (mca m22) (subCons (mca m23) (subCons (mca m24) (subCons (mca m25) (subCons (mca m26) (subCons (mca m27) (subCons (mcast m0 (congrArg Value.bool (decide_eq_decide.2 (by omega)))) subNil))))))))))))))))))))))) (Pm.perm (by repeat (first | exact .nil | refine .cons (by repeat (first | exact .hd | apply Take.tl)) ?_)))
            ·
             try simp only [Bool.and_eq_true, Bool.or_eq_true, Bool.not_eq_true', Bool.not_eq_false', Bool.and_eq_false_iff, Bool.or_eq_false_iff, decide_eq_true_eq, decide_eq_false_iff_not, beq_iff_eq, Bool.not_eq_true, Bool.not_eq_false] at hc31
             refine tr_seq ?_
             -- region 88
             refine tr_plain ?_
             refine r_eql .none (.t m27) (.c _ _) rfl rfl ?_
             refine tl_kp (.k (.d .all)) ?_
             refine r_assign .none (.t m0) rfl rfl ?_
             refine tl_nil ?_
             refine qt_then ?_
             -- c32
             refine tr_cond (.t m0) (fun hc32 => ?_) (fun hc32 => ?_)
             ·
              try simp only [Bool.and_eq_true, Bool.or_eq_true, Bool.not_eq_true', Bool.not_eq_false', Bool.and_eq_false_iff, Bool.or_eq_false_iff, decide_eq_true_eq, decide_eq_false_iff_not, beq_iff_eq, Bool.not_eq_true, Bool.not_eq_false] at hc32
              refine tr_skip ?_
              exact hcut_c31 trivial (subCons (mca m7) (subCons (mca m8) (subCons (mca m9) (subCons (mca m10) (subCons (mca m11) (subCons (mca m12) (subCons (mca m13) (subCons (mca m14) (subCons (mca m15) (subCons (mca m16) (subCons (mca m17) (subCons (mca m18) (subCons (mca m19) (subCons (mca m20) (subCons (mca m21) (subCons (mca m22) (subCons (mca m23) (subCons (mca m24) (subCons (mca m25) (subCons (mca m26) (subCons (mca m27) (subCons (mca m28) (subCons (mcast m0 (congrArg Value.bool (decide_eq_decide.2 (by omega)))) subNil))))))))))))))))))))))) (Pm.perm (by repeat (first | exact .nil | refine .cons (by repeat (first | exact .hd | apply Take.tl)) ?_)))
             ·
              try simp only [Bool.and_eq_true, Bool.or_eq_true, Bool.not_eq_true', Bool.not_eq_false', Bool.and_eq_false_iff, Bool.or_eq_false_iff, decide_eq_true_eq, decide_eq_false_iff_not, beq_iff_eq, Bool.not_eq_true, Bool.not_eq_false] at hc32
              -- region 89
              refine tr_plain ?_
              refine r_eql .none (.t m28) (.c _ _) rfl rfl ?_
              refine tl_kp (.k (.d .all)) ?_
              refine r_assign .none (.t m0) rfl rfl ?_
              refine tl_nil ?_
              exact hcut_c31 trivial (subCons (mca m8) (subCons (mca m9) (subCons (mca m10) (subCons (mca m11) (subCons (mca m12) (subCons (mca m13) (subCons (mca m14) (subCons (mca m15) (subCons (mca m16) (subCons (mca m17) (subCons (mca m18) (subCons (mca m19) (subCons (mca m20) (subCons (mca m21) (subCons (mca m22) (subCons (mca m23) (subCons (mca m24) (subCons (mca m25) (subCons (mca m26) (subCons (mca m27) (subCons (mca m28) (subCons (mca m29) (subCons (mcast m0 (congrArg Value.bool (decide_eq_decide.2 (by omega)))) subNil))))))))))))))))))))))) (Pm.perm (by repeat (first | exact .nil | refine .cons (by repeat (first | exact .hd | apply Take.tl)) ?_)))
           ·
            intro _ hI
            -- c33
            refine tr_cond (.t m22) (fun hc33 => ?_) (fun hc33 => ?_)
            ·
             try simp only [Bool.and_eq_true, Bool.or_eq_true, Bool.not_eq_true', Bool.not_eq_false', Bool.and_eq_false_iff, Bool.or_eq_false_iff, decide_eq_true_eq, decide_eq_false_iff_not, beq_iff_eq, Bool.not_eq_true, Bool.not_eq_false] at hc33
             obtain ⟨cn, hcn, hcn1⟩ : ∃ cn : Nat, w0.tmod 12 + 1 = (cn : Int) ∧ 1 ≤ cn ∧ cn ≤ 12 := by
               have e4 : w0.tmod 12 = w0 % 12 := Int.tmod_eq_emod_of_nonneg hw0.1
               exact ⟨(w0 % 12 + 1).toNat, by omega, by omega, by omega⟩
             refine tr_seq ?_
             -- region 90
             refine tr_plain ?_
             refine r_fieldAddr fd43_2 .none (.t m17) rfl rfl ?_
             refine r_load [_] ty5 .none (.t m0) (by first | (refine sees_l ?_; (repeat (first | exact hd | apply tl)); done) | (apply sees_own; apply sees_l; (repeat (first | exact hd | apply tl)); done) | exact sees_r (by assumption)) rfl rfl (.one _) rfl rfl ?_
             refine r_conv _ Try.underlying5 Try.underlying3 .none (.t m0) (fun _ => IntWalk.i64_in _ (by omega)) rfl rfl ?_
             refine r_rem .none (.t m0) (.c _ _) (fun _ => by omega) rfl rfl ?_
             refine r_add .none (.t m0) (.c _ _) (fun _ => by omega) rfl rfl ?_
             refine tl_valh (v' := .int .i64 (cn : Int)) (by rw [hcn]) ?_
             refine r_move .none (.c _ _) rfl rfl ?_
             refine tl_nil ?_
             refine qt_then ?_
             refine tr_block ?_
             refine tr_kl (.cons .hd (.cons .hd (.cons .hd (.cons .hd (.cons .hd (.cons .hd (.cons .hd (.cons .hd .nil)))))))) ?_
             refine tr_loop2 (fun (t : Nat) (s1 : Sy) => [(8, true, .bool false), (9, true, .int .i64 (nn : Int)), (10, true, .int .i64 long), (12, true, .pointer (some ⟨b, 0, none⟩)), (14, true, .int .i64 W), (17, true, .slice Aa nn ca), (18, true, .slice As nn csx), (22, true, .int .i64 s1.clock), (23, true, .int .i64 s1.wants), (24, true, .slice (some ⟨b131, 0, none⟩) (nn + 1) (nn + 1)), (25, true, .int .i64 s1.lease), (26, true, .int .i64 s1.of), (27, true, .int .i64 s1.since), (28, true, .slice Aw s1.ws.length cw), (136, true, .slice A2 lim c2), (137, true, .int .i64 (lim : Int)), (138, true, .int .i64 (j : Int)), (444, true, .int .i64 (cn : Int)), (445, true, .int .i64 (t : Int))]) (fun (t : Nat) (s1 : Sy) => [boxE b 64 [.int .i64 s1.clock, .int .i64 s1.lease, .int .i64 s1.of, .int .i64 s1.since, .bool true, .int .i64 W, .int .i64 s1.wants, .slice (some ⟨bg, 0, none⟩) (nn + 1) (nn + 1), .map (some mb)], ownE (some ⟨bg, 0, none⟩) (nn + 1) (nn + 1) 3 1 (glC s1.gl), mapE (Value.int .i64) mb [(1, .func (.func 22) #[.pointer (some ⟨b, 0, none⟩)] #[]), (3, .func (.func 23) #[.pointer (some ⟨b, 0, none⟩)] #[])], ownE (some ⟨b131, 0, none⟩) (nn + 1) (nn + 1) 3 1 (glC s1.gl), ownE Aw s1.ws.length cw 45 3 (wordC s1.ws), ownE Aa nn ca 33 1 (ptrN us), ownE As nn csx 36 1 (ptrS us), allE (s1.us.map (unitE long))]) (fun (t : Nat) (s1 : Sy) => t ≤ cn ∧ Ok nn long (j : Int) (13 * j + t : Int) s1 ∧ s1.us.map Un.bN = us.map Un.bN ∧ s1.us.map Un.bS = us.map Un.bS) (fun (t : Nat) (s1 : Sy) => cn - t) 0 s (⟨Nat.zero_le _, hok.mono (by omega) (by omega), hbN, hbS⟩) (subCons (mca m6) (subCons (mca m7) (subCons (mca m8) (subCons (mca m9) (subCons (mca m10) (subCons (mca m11) (subCons (mca m12) (subCons (mca m13) (subCons (mca m14) (subCons (mca m15) (subCons (mca m16) (subCons (mca m17) (subCons (mca m18) (subCons (mca m19) (subCons (mca m20) (subCons (mca m21) (subCons (mca m22) (subCons (mca m1) (subCons (mca m0) subNil))))))))))))))))))) (Pm.perm (by repeat (first | exact .nil | refine .cons (by repeat (first | exact .hd | apply Take.tl)) ?_))) ?_
             intro t s1 hI
             refine tr_seq ?_
             -- region 91
             refine tr_plain ?_
             refine r_lss .none (.t m18) (.t m17) rfl rfl ?_
             refine tl_nil ?_
             refine qt_then ?_
             refine tr_seq ?_
             -- c34
             refine tr_cond (.t m0) (fun hc34 => ?_) (fun hc34 => ?_)
             ·
              try simp only [Bool.and_eq_true, Bool.or_eq_true, Bool.not_eq_true', Bool.not_eq_false', Bool.and_eq_false_iff, Bool.or_eq_false_iff, decide_eq_true_eq, decide_eq_false_iff_not, beq_iff_eq, Bool.not_eq_true, Bool.not_eq_false] at hc34
              obtain ⟨htc, hok1, hbN1, hbS1⟩ := hI
              have hs1c := hok1.clk
              have hs1s := hok1.snc
              have hs1l := hok1.lse
              refine tr_skip ?_
              refine qt_then ?_
              refine tr_seq ?_
              refine tr_block ?_
              refine tr_seq ?_
              refine tr_seq ?_
              -- region 92
              refine tr_plain ?_
              refine r_move .none (.t m6) rfl rfl ?_
              refine r_lenSl Try.underlying31 .none (.t m0) rfl rfl ?_
              refine r_move .none (.c _ _) rfl rfl ?_
              refine tl_nil ?_
              refine qt_then ?_
              refine tr_block ?_
              refine tr_eq (y := allE ((tickTo 0 s1.us).map (unitE long))) (.tl (.tl (.tl (.tl (.tl (.tl (.tl .hd))))))) (by rw [tickTo_zero]) ?_
              refine tr_loop1 (fun (i : Nat) => [(8, true, .bool false), (9, true, .int .i64 (nn : Int)), (10, true, .int .i64 long), (12, true, .pointer (some ⟨b, 0, none⟩)), (14, true, .int .i64 W), (17, true, .slice Aa nn ca), (18, true, .slice As nn csx), (22, true, .int .i64 s1.clock), (23, true, .int .i64 s1.wants), (24, true, .slice (some ⟨b131, 0, none⟩) (nn + 1) (nn + 1)), (25, true, .int .i64 s1.lease), (26, true, .int .i64 s1.of), (27, true, .int .i64 s1.since), (28, true, .slice Aw s1.ws.length cw), (136, true, .slice A2 lim c2), (137, true, .int .i64 (lim : Int)), (138, true, .int .i64 (j : Int)), (444, true, .int .i64 (cn : Int)), (445, true, .int .i64 (t : Int)), (448, true, .int .i64 (nn : Int)), (449, true, .int .i64 (i : Int))]) (fun (i : Nat) => [boxE b 64 [.int .i64 s1.clock, .int .i64 s1.lease, .int .i64 s1.of, .int .i64 s1.since, .bool true, .int .i64 W, .int .i64 s1.wants, .slice (some ⟨bg, 0, none⟩) (nn + 1) (nn + 1), .map (some mb)], ownE (some ⟨bg, 0, none⟩) (nn + 1) (nn + 1) 3 1 (glC s1.gl), mapE (Value.int .i64) mb [(1, .func (.func 22) #[.pointer (some ⟨b, 0, none⟩)] #[]), (3, .func (.func 23) #[.pointer (some ⟨b, 0, none⟩)] #[])], ownE (some ⟨b131, 0, none⟩) (nn + 1) (nn + 1) 3 1 (glC s1.gl), ownE Aw s1.ws.length cw 45 3 (wordC s1.ws), ownE Aa nn ca 33 1 (ptrN us), ownE As nn csx 36 1 (ptrS us), allE ((tickTo i s1.us).map (unitE long))]) (fun (i : Nat) => i ≤ nn) (fun (i : Nat) => nn - i) 0 ((Nat.zero_le _)) (subCons (mca m4) (subCons (mca m5) (subCons (mca m6) (subCons (mca m7) (subCons (mca m8) (subCons (mca m9) (subCons (mca m10) (subCons (mca m11) (subCons (mca m12) (subCons (mca m13) (subCons (mca m14) (subCons (mca m15) (subCons (mca m16) (subCons (mca m17) (subCons (mca m18) (subCons (mca m19) (subCons (mca m20) (subCons (mca m21) (subCons (mca m22) (subCons (mca m1) (subCons (mca m0) subNil))))))))))))))))))))) (Pm.perm (by repeat (first | exact .nil | refine .cons (by repeat (first | exact .hd | apply Take.tl)) ?_))) ?_
              intro i hI
              refine tr_seq ?_
              -- region 93
              refine tr_plain ?_
              refine r_lss .none (.t m20) (.t m19) rfl rfl ?_
              refine tl_nil ?_
              refine qt_then ?_
              refine tr_seq ?_
              -- c35
              refine tr_cond (.t m0) (fun hc35 => ?_) (fun hc35 => ?_)
              ·
               try simp only [Bool.and_eq_true, Bool.or_eq_true, Bool.not_eq_true', Bool.not_eq_false', Bool.and_eq_false_iff, Bool.or_eq_false_iff, decide_eq_true_eq, decide_eq_false_iff_not, beq_iff_eq, Bool.not_eq_true, Bool.not_eq_false] at hc35
               obtain ⟨v, hv⟩ : ∃ v, s1.us[i]? = some v := ⟨_, List.getElem?_eq_getElem (by have := hok1.uslen; omega)⟩
               have hvt := tickTo_get hv
               have hvN := ptrN_get hbN1 hv
               have hvS := ptrS_get hbS1 hv
               have hv1 := (hok1.un i v hv).clk
               refine tr_skip ?_
               refine qt_then ?_
               refine tr_seq ?_
               refine tr_block ?_
               refine tr_seq ?_
               -- region 94
               refine tr_plain ?_
               refine r_move .none (.t m21) rfl rfl ?_
               refine r_assign .none (.t m0) rfl rfl ?_
               refine tl_nil ?_
               refine qt_then ?_
               refine tr_seq ?_
               -- region 95
               refine tr_open4 (.tl (.tl (.tl (.tl (.tl (.tl (.tl .hd))))))) (unit_at hvt) ?_
               refine tr_plain ?_
               refine r_move .none (.t m9) rfl rfl ?_
               refine r_move .none (.t m1) rfl rfl ?_
               refine r_indexAddr sl32 (by first | (refine sees_l ?_; (repeat (first | exact hd | apply tl)); done) | (apply sees_own; apply sees_l; (repeat (first | exact hd | apply tl)); done) | exact sees_r (by assumption)) .none (.t m1) (.t m0) (fun _ => by omega) rfl rfl ?_
               refine r_loadEl [_] ty36 (by first | (refine sees_l ?_; (repeat (first | exact hd | apply tl)); done) | (apply sees_own; apply sees_l; (repeat (first | exact hd | apply tl)); done) | exact sees_r (by assumption)) .none (.t m0) (fun _ => hvS) rfl rfl (.one _) rfl rfl ?_
               refine r_nilCheckP .none (.t m0) rfl rfl ?_
               refine r_fieldAddr fd39_0 .none (.t m0) rfl rfl ?_
               refine r_load [_] ty3 .none (.t m0) (by first | (refine sees_l ?_; (repeat (first | exact hd | apply tl)); done) | (apply sees_own; apply sees_l; (repeat (first | exact hd | apply tl)); done) | exact sees_r (by assumption)) rfl rfl (.one _) rfl rfl ?_
               refine r_add .none (.t m0) (.c _ _) (fun _ => by omega) rfl rfl ?_
               refine r_nilCheckP .none (.t m4) rfl rfl ?_
               refine r_fieldAddr fd39_0 .none (.t m0) rfl rfl ?_
               refine r_store [_, _, _, _] ty3 .none (.t m0) (.t m2) (Take.perm (by repeat (first | exact .hd | apply Take.tl))) rfl rfl rfl rfl (fun _ _ => trivial) ?_
               refine tl_nil ?_
               refine qt_then ?_
               refine tr_seq ?_
               -- region 96
               refine tr_plain ?_
               refine r_move .none (.t m18) rfl rfl ?_
               refine r_move .none (.t m11) rfl rfl ?_
               refine r_indexAddr sl31 (by first | (refine sees_l ?_; (repeat (first | exact hd | apply tl)); done) | (apply sees_own; apply sees_l; (repeat (first | exact hd | apply tl)); done) | exact sees_r (by assumption)) .none (.t m1) (.t m0) (fun _ => by omega) rfl rfl ?_
               refine r_loadEl [_] ty33 (by first | (refine sees_l ?_; (repeat (first | exact hd | apply tl)); done) | (apply sees_own; apply sees_l; (repeat (first | exact hd | apply tl)); done) | exact sees_r (by assumption)) .none (.t m0) (fun _ => hvN) rfl rfl (.one _) rfl rfl ?_
               refine r_call _ _ _ en13 .none (.f _ _) (.cons (.t m0) .nil) (fun w hw => callL (.cons (.tl .hd) .nil) hw (fun h => Tick_turn _ _ _ _ _ _ _ _ _ (by omega) w h)) (fun _ _ _ _ => trivial) rfl rfl ?_
               rintro ⟨⟩ _
               refine r_neq .none (.t m0) (.c _ _) rfl rfl ?_
               refine tl_nil ?_
               refine qt_shut4 (.cons .hd (.cons (.tl .hd) (.cons .hd (.cons .hd (.cons .hd .nil))))) (by simp only [List.length_map, tickTo_length]; have := hok1.uslen; omega) (unit_set (v := v.tk) rfl) ?_
               refine qt_eq (y := allE ((tickTo (i + 1) s1.us).map (unitE long))) .hd (by rw [tickTo_succ hv]) ?_
               refine qt_then ?_
               -- c36
               refine tr_cond (.t m0) (fun hc36 => ?_) (fun hc36 => ?_)
               · exfalso; first | (simp at hc36; done) | (simp only [Bool.and_eq_true, Bool.or_eq_true, Bool.not_eq_true', Bool.not_eq_false', Bool.and_eq_false_iff, Bool.or_eq_false_iff, decide_eq_true_eq, decide_eq_false_iff_not, beq_iff_eq, Bool.not_eq_true, Bool.not_eq_false] at hc36; omega) | (simp at hc36; omega)
               ·
                try simp only [Bool.and_eq_true, Bool.or_eq_true, Bool.not_eq_true', Bool.not_eq_false', Bool.and_eq_false_iff, Bool.or_eq_false_iff, decide_eq_true_eq, decide_eq_false_iff_not, beq_iff_eq, Bool.not_eq_true, Bool.not_eq_false] at hc36
                refine tr_skip ?_
                refine qt_block ?_
                refine qt_then ?_
                -- region 98
                refine tr_plain ?_
                refine r_add .none (.t m39) (.c _ _) (fun _ => by omega) rfl rfl ?_
                refine tl_kp (.k (.k (.k (.k (.k (.k (.k (.k (.k (.k (.k (.k (.k (.k (.k (.k (.k (.k (.k (.k (.k (.k (.k (.k (.k (.k (.k (.k (.k (.k (.k (.k (.k (.k (.k (.k (.k (.k (.k (.k (.d .all))))))))))))))))))))))))))))))))))))))))) ?_
                refine r_move .none (.t m0) rfl rfl ?_
                refine tl_nil ?_
                exact qt_round1 (Fi := fun (i : Nat) => [(8, true, .bool false), (9, true, .int .i64 (nn : Int)), (10, true, .int .i64 long), (12, true, .pointer (some ⟨b, 0, none⟩)), (14, true, .int .i64 W), (17, true, .slice Aa nn ca), (18, true, .slice As nn csx), (22, true, .int .i64 s1.clock), (23, true, .int .i64 s1.wants), (24, true, .slice (some ⟨b131, 0, none⟩) (nn + 1) (nn + 1)), (25, true, .int .i64 s1.lease), (26, true, .int .i64 s1.of), (27, true, .int .i64 s1.since), (28, true, .slice Aw s1.ws.length cw), (136, true, .slice A2 lim c2), (137, true, .int .i64 (lim : Int)), (138, true, .int .i64 (j : Int)), (444, true, .int .i64 (cn : Int)), (445, true, .int .i64 (t : Int)), (448, true, .int .i64 (nn : Int)), (449, true, .int .i64 (i : Int))]) (Li := fun (i : Nat) => [boxE b 64 [.int .i64 s1.clock, .int .i64 s1.lease, .int .i64 s1.of, .int .i64 s1.since, .bool true, .int .i64 W, .int .i64 s1.wants, .slice (some ⟨bg, 0, none⟩) (nn + 1) (nn + 1), .map (some mb)], ownE (some ⟨bg, 0, none⟩) (nn + 1) (nn + 1) 3 1 (glC s1.gl), mapE (Value.int .i64) mb [(1, .func (.func 22) #[.pointer (some ⟨b, 0, none⟩)] #[]), (3, .func (.func 23) #[.pointer (some ⟨b, 0, none⟩)] #[])], ownE (some ⟨b131, 0, none⟩) (nn + 1) (nn + 1) 3 1 (glC s1.gl), ownE Aw s1.ws.length cw 45 3 (wordC s1.ws), ownE Aa nn ca 33 1 (ptrN us), ownE As nn csx 36 1 (ptrS us), allE ((tickTo i s1.us).map (unitE long))]) (I := fun (i : Nat) => i ≤ nn) (μ := fun (i : Nat) => nn - i) (i + 1) (by omega) (by omega) (subCons (mca m21) (subCons (mca m22) (subCons (mca m23) (subCons (mca m24) (subCons (mca m25) (subCons (mca m26) (subCons (mca m27) (subCons (mca m28) (subCons (mca m29) (subCons (mca m30) (subCons (mca m31) (subCons (mca m32) (subCons (mca m33) (subCons (mca m34) (subCons (mca m35) (subCons (mca m36) (subCons (mca m37) (subCons (mca m38) (subCons (mca m39) (subCons (mca m40) (subCons (mca m0) subNil))))))))))))))))))))) (Pm.perm (by repeat (first | exact .nil | refine .cons (by repeat (first | exact .hd | apply Take.tl)) ?_)))
              ·
               try simp only [Bool.and_eq_true, Bool.or_eq_true, Bool.not_eq_true', Bool.not_eq_false', Bool.and_eq_false_iff, Bool.or_eq_false_iff, decide_eq_true_eq, decide_eq_false_iff_not, beq_iff_eq, Bool.not_eq_true, Bool.not_eq_false] at hc35
               refine tr_exit ?_
               refine qt_then_exit ?_
               refine qt_loop_exit ?_
               refine qt_block_hit ?_
               refine qt_then ?_
               refine tr_seq ?_
               refine tr_seq ?_
               -- region 99
               refine tr_plain ?_
               refine r_move .none (.t m8) rfl rfl ?_
               refine r_add .none (.t m0) (.c _ _) (fun _ => by omega) rfl rfl ?_
               refine tl_kp (.k (.k (.k (.k (.k (.k (.k (.k (.k (.k (.d .all))))))))))) ?_
               refine r_assign .none (.t m0) rfl rfl ?_
               refine tl_nil ?_
               refine qt_then ?_
               refine tr_seq ?_
               -- region 100
               have hit : i = s1.us.length := by have := hok1.uslen; omega
               by_cases hx : s1.lease ≠ 0 ∧ s1.since + W ≤ s1.clock + 1
               ·
                -- region 100
                refine tr_plain ?_
                refine r_move .none (.t m7) rfl rfl ?_
                refine r_call _ _ _ en14 .none (.f _ _) (.cons (.t m0) .nil) (fun w hw => callL (.cons .hd .nil) hw (fun h => CTick_turn _ _ _ _ _ _ _ _ _ _ _ (by omega) (by omega) (by omega) w h)) (fun _ _ _ _ => trivial) rfl rfl ?_
                rintro ⟨⟩ _
                refine r_neq .none (.t m0) (.c _ _) rfl rfl ?_
                refine tl_nil ?_
                refine qt_eq (y := boxE b 64 [.int .i64 (s1.clock + 1), .int .i64 0, .int .i64 0, .int .i64 0, .bool true, .int .i64 W, .int .i64 s1.wants, .slice (some ⟨bg, 0, none⟩) (nn + 1) (nn + 1), .map (some mb)]) .hd (if_pos hx) ?_
                refine qt_then ?_
                -- c37
                refine tr_cond (.t m0) (fun hc37 => ?_) (fun hc37 => ?_)
                · exfalso; first | (simp at hc37; done) | (simp only [Bool.and_eq_true, Bool.or_eq_true, Bool.not_eq_true', Bool.not_eq_false', Bool.and_eq_false_iff, Bool.or_eq_false_iff, decide_eq_true_eq, decide_eq_false_iff_not, beq_iff_eq, Bool.not_eq_true, Bool.not_eq_false] at hc37; omega) | (simp at hc37; omega)
                ·
                 try simp only [Bool.and_eq_true, Bool.or_eq_true, Bool.not_eq_true', Bool.not_eq_false', Bool.and_eq_false_iff, Bool.or_eq_false_iff, decide_eq_true_eq, decide_eq_false_iff_not, beq_iff_eq, Bool.not_eq_true, Bool.not_eq_false] at hc37
                 refine tr_skip ?_
                 refine qt_then ?_
                 refine tr_seq ?_
                 -- region 102
                 refine tr_plain ?_
                 refine r_move .none (.t m16) rfl rfl ?_
                 refine r_neq .none (.t m0) (.c _ _) rfl rfl ?_
                 refine r_move .none (.t m0) rfl rfl ?_
                 refine r_move (.pos rfl m0) (.t m6) rfl rfl ?_
                 refine r_move (.pos rfl m1) (.t m22) rfl rfl ?_
                 refine r_move (.pos rfl m2) (.t m16) rfl rfl ?_
                 refine r_add (.pos rfl m3) (.s m1) (.s m0) (fun hg => by simp only [Bool.and_eq_true, Bool.or_eq_true, Bool.not_eq_true', Bool.not_eq_false', Bool.and_eq_false_iff, Bool.or_eq_false_iff, decide_eq_true_eq, decide_eq_false_iff_not, beq_iff_eq, Bool.not_eq_true, Bool.not_eq_false] at hg; omega) rfl rfl ?_
                 refine r_geq (.pos rfl m4) (.s m3) (.s m0) rfl rfl ?_
                 refine r_and .none (.t m5) (.s m0) rfl rfl ?_
                 refine tl_nil ?_
                 refine qt_then ?_
                 -- c38
                 refine tr_cond (.t m0) (fun hc38 => ?_) (fun hc38 => ?_)
                 ·
                  try simp only [Bool.and_eq_true, Bool.or_eq_true, Bool.not_eq_true', Bool.not_eq_false', Bool.and_eq_false_iff, Bool.or_eq_false_iff, decide_eq_true_eq, decide_eq_false_iff_not, beq_iff_eq, Bool.not_eq_true, Bool.not_eq_false] at hc38
                  -- region 103
                  refine tr_plain ?_
                  refine tl_kp (.k (.k (.k (.k (.k (.k (.k (.k (.k (.k (.k (.k (.k (.k (.k (.k (.k (.k (.k (.k (.k (.k (.k (.k (.k (.d .all)))))))))))))))))))))))))) ?_
                  refine r_assign .none (.c _ _) rfl rfl ?_
                  refine tl_kp (.k (.k (.k (.k (.k (.k (.k (.k (.k (.k (.k (.k (.k (.k (.k (.k (.k (.k (.k (.k (.k (.k (.k (.k (.k (.k (.d .all))))))))))))))))))))))))))) ?_
                  refine r_assign .none (.c _ _) rfl rfl ?_
                  refine tl_kp (.k (.k (.k (.k (.k (.k (.k (.k (.k (.k (.k (.k (.k (.k (.k (.k (.k (.k (.k (.k (.k (.k (.k (.k (.k (.k (.k (.d .all)))))))))))))))))))))))))))) ?_
                  refine r_assign .none (.c _ _) rfl rfl ?_
                  refine tl_nil ?_
                  refine qt_block ?_
                  refine qt_then ?_
                  -- region 104
                  refine tr_plain ?_
                  refine r_add .none (.t m33) (.c _ _) (fun _ => by omega) rfl rfl ?_
                  refine tl_kp (.k (.k (.k (.k (.k (.k (.k (.k (.k (.k (.k (.k (.k (.k (.k (.k (.k (.k (.k (.k (.k (.k (.k (.k (.k (.k (.k (.k (.k (.k (.k (.k (.k (.k (.d .all))))))))))))))))))))))))))))))))))) ?_
                  refine r_move .none (.t m0) rfl rfl ?_
                  refine tl_nil ?_
                  refine qt_eq (y := allE ((s1.us.map Un.tk).map (unitE long))) (.tl (.tl (.tl (.tl (.tl (.tl (.tl .hd))))))) (by rw [hit, tickTo_all]) ?_
                  exact qt_round2 (Fi := fun (t : Nat) (s1 : Sy) => [(8, true, .bool false), (9, true, .int .i64 (nn : Int)), (10, true, .int .i64 long), (12, true, .pointer (some ⟨b, 0, none⟩)), (14, true, .int .i64 W), (17, true, .slice Aa nn ca), (18, true, .slice As nn csx), (22, true, .int .i64 s1.clock), (23, true, .int .i64 s1.wants), (24, true, .slice (some ⟨b131, 0, none⟩) (nn + 1) (nn + 1)), (25, true, .int .i64 s1.lease), (26, true, .int .i64 s1.of), (27, true, .int .i64 s1.since), (28, true, .slice Aw s1.ws.length cw), (136, true, .slice A2 lim c2), (137, true, .int .i64 (lim : Int)), (138, true, .int .i64 (j : Int)), (444, true, .int .i64 (cn : Int)), (445, true, .int .i64 (t : Int))]) (Li := fun (t : Nat) (s1 : Sy) => [boxE b 64 [.int .i64 s1.clock, .int .i64 s1.lease, .int .i64 s1.of, .int .i64 s1.since, .bool true, .int .i64 W, .int .i64 s1.wants, .slice (some ⟨bg, 0, none⟩) (nn + 1) (nn + 1), .map (some mb)], ownE (some ⟨bg, 0, none⟩) (nn + 1) (nn + 1) 3 1 (glC s1.gl), mapE (Value.int .i64) mb [(1, .func (.func 22) #[.pointer (some ⟨b, 0, none⟩)] #[]), (3, .func (.func 23) #[.pointer (some ⟨b, 0, none⟩)] #[])], ownE (some ⟨b131, 0, none⟩) (nn + 1) (nn + 1) 3 1 (glC s1.gl), ownE Aw s1.ws.length cw 45 3 (wordC s1.ws), ownE Aa nn ca 33 1 (ptrN us), ownE As nn csx 36 1 (ptrS us), allE (s1.us.map (unitE long))]) (I := fun (t : Nat) (s1 : Sy) => t ≤ cn ∧ Ok nn long (j : Int) (13 * j + t : Int) s1 ∧ s1.us.map Un.bN = us.map Un.bN ∧ s1.us.map Un.bS = us.map Un.bS) (μ := fun (t : Nat) (s1 : Sy) => cn - t) (t + 1) ({ s1 with clock := s1.clock + 1, us := s1.us.map Un.tk, lease := 0, of := 0, since := 0 } : Sy) ⟨by omega, (hok1.tickAll.over hWl (by dsimp only; omega)).mono (by omega) (by omega), by rw [List.map_map]; exact hbN1, by rw [List.map_map]; exact hbS1⟩ (by omega) (subCons (mca m21) (subCons (mca m22) (subCons (mca m23) (subCons (mca m24) (subCons (mca m25) (subCons (mca m26) (subCons (mca m27) (subCons (mca m17) (subCons (mca m28) (subCons (mca m29) (subCons (mca m4) (subCons (mca m3) (subCons (mca m2) (subCons (mca m30) (subCons (mca m31) (subCons (mca m32) (subCons (mca m33) (subCons (mca m34) (subCons (mca m0) subNil))))))))))))))))))) (Pm.perm (by repeat (first | exact .nil | refine .cons (by repeat (first | exact .hd | apply Take.tl)) ?_)))
                 · exfalso; first | (simp at hc38; done) | (simp only [Bool.and_eq_true, Bool.or_eq_true, Bool.not_eq_true', Bool.not_eq_false', Bool.and_eq_false_iff, Bool.or_eq_false_iff, decide_eq_true_eq, decide_eq_false_iff_not, beq_iff_eq, Bool.not_eq_true, Bool.not_eq_false] at hc38; omega) | (simp at hc38; omega)
               ·
                -- region 100
                refine tr_plain ?_
                refine r_move .none (.t m7) rfl rfl ?_
                refine r_call _ _ _ en14 .none (.f _ _) (.cons (.t m0) .nil) (fun w hw => callL (.cons .hd .nil) hw (fun h => CTick_turn _ _ _ _ _ _ _ _ _ _ _ (by omega) (by omega) (by omega) w h)) (fun _ _ _ _ => trivial) rfl rfl ?_
                rintro ⟨⟩ _
                refine r_neq .none (.t m0) (.c _ _) rfl rfl ?_
                refine tl_nil ?_
                refine qt_eq (y := boxE b 64 [.int .i64 (s1.clock + 1), .int .i64 s1.lease, .int .i64 s1.of, .int .i64 s1.since, .bool true, .int .i64 W, .int .i64 s1.wants, .slice (some ⟨bg, 0, none⟩) (nn + 1) (nn + 1), .map (some mb)]) .hd (if_neg hx) ?_
                refine qt_then ?_
                -- c37
                refine tr_cond (.t m0) (fun hc37 => ?_) (fun hc37 => ?_)
                · exfalso; first | (simp at hc37; done) | (simp only [Bool.and_eq_true, Bool.or_eq_true, Bool.not_eq_true', Bool.not_eq_false', Bool.and_eq_false_iff, Bool.or_eq_false_iff, decide_eq_true_eq, decide_eq_false_iff_not, beq_iff_eq, Bool.not_eq_true, Bool.not_eq_false] at hc37; omega) | (simp at hc37; omega)
                ·
                 try simp only [Bool.and_eq_true, Bool.or_eq_true, Bool.not_eq_true', Bool.not_eq_false', Bool.and_eq_false_iff, Bool.or_eq_false_iff, decide_eq_true_eq, decide_eq_false_iff_not, beq_iff_eq, Bool.not_eq_true, Bool.not_eq_false] at hc37
                 refine tr_skip ?_
                 refine qt_then ?_
                 refine tr_seq ?_
                 -- region 102
                 refine tr_plain ?_
                 refine r_move .none (.t m16) rfl rfl ?_
                 refine r_neq .none (.t m0) (.c _ _) rfl rfl ?_
                 refine r_move .none (.t m0) rfl rfl ?_
                 refine r_move (.pos rfl m0) (.t m6) rfl rfl ?_
                 refine r_move (.pos rfl m1) (.t m22) rfl rfl ?_
                 refine r_move (.pos rfl m2) (.t m16) rfl rfl ?_
                 refine r_add (.pos rfl m3) (.s m1) (.s m0) (fun hg => by simp only [Bool.and_eq_true, Bool.or_eq_true, Bool.not_eq_true', Bool.not_eq_false', Bool.and_eq_false_iff, Bool.or_eq_false_iff, decide_eq_true_eq, decide_eq_false_iff_not, beq_iff_eq, Bool.not_eq_true, Bool.not_eq_false] at hg; omega) rfl rfl ?_
                 refine r_geq (.pos rfl m4) (.s m3) (.s m0) rfl rfl ?_
                 refine r_and .none (.t m5) (.s m0) rfl rfl ?_
                 refine tl_nil ?_
                 refine qt_then ?_
                 -- c38
                 refine tr_cond (.t m0) (fun hc38 => ?_) (fun hc38 => ?_)
                 · exfalso; first | (simp at hc38; done) | (simp only [Bool.and_eq_true, Bool.or_eq_true, Bool.not_eq_true', Bool.not_eq_false', Bool.and_eq_false_iff, Bool.or_eq_false_iff, decide_eq_true_eq, decide_eq_false_iff_not, beq_iff_eq, Bool.not_eq_true, Bool.not_eq_false] at hc38; omega) | (simp at hc38; omega)
                 ·
                  try simp only [Bool.and_eq_true, Bool.or_eq_true, Bool.not_eq_true', Bool.not_eq_false', Bool.and_eq_false_iff, Bool.or_eq_false_iff, decide_eq_true_eq, decide_eq_false_iff_not, beq_iff_eq, Bool.not_eq_true, Bool.not_eq_false] at hc38
                  refine tr_skip ?_
                  refine qt_block ?_
                  refine qt_then ?_
                  -- region 104
                  refine tr_plain ?_
                  refine r_add .none (.t m33) (.c _ _) (fun _ => by omega) rfl rfl ?_
                  refine tl_kp (.k (.k (.k (.k (.k (.k (.k (.k (.k (.k (.k (.k (.k (.k (.k (.k (.k (.k (.k (.k (.k (.k (.k (.k (.k (.k (.k (.k (.k (.k (.k (.k (.k (.k (.d .all))))))))))))))))))))))))))))))))))) ?_
                  refine r_move .none (.t m0) rfl rfl ?_
                  refine tl_nil ?_
                  refine qt_eq (y := allE ((s1.us.map Un.tk).map (unitE long))) (.tl (.tl (.tl (.tl (.tl (.tl (.tl .hd))))))) (by rw [hit, tickTo_all]) ?_
                  exact qt_round2 (Fi := fun (t : Nat) (s1 : Sy) => [(8, true, .bool false), (9, true, .int .i64 (nn : Int)), (10, true, .int .i64 long), (12, true, .pointer (some ⟨b, 0, none⟩)), (14, true, .int .i64 W), (17, true, .slice Aa nn ca), (18, true, .slice As nn csx), (22, true, .int .i64 s1.clock), (23, true, .int .i64 s1.wants), (24, true, .slice (some ⟨b131, 0, none⟩) (nn + 1) (nn + 1)), (25, true, .int .i64 s1.lease), (26, true, .int .i64 s1.of), (27, true, .int .i64 s1.since), (28, true, .slice Aw s1.ws.length cw), (136, true, .slice A2 lim c2), (137, true, .int .i64 (lim : Int)), (138, true, .int .i64 (j : Int)), (444, true, .int .i64 (cn : Int)), (445, true, .int .i64 (t : Int))]) (Li := fun (t : Nat) (s1 : Sy) => [boxE b 64 [.int .i64 s1.clock, .int .i64 s1.lease, .int .i64 s1.of, .int .i64 s1.since, .bool true, .int .i64 W, .int .i64 s1.wants, .slice (some ⟨bg, 0, none⟩) (nn + 1) (nn + 1), .map (some mb)], ownE (some ⟨bg, 0, none⟩) (nn + 1) (nn + 1) 3 1 (glC s1.gl), mapE (Value.int .i64) mb [(1, .func (.func 22) #[.pointer (some ⟨b, 0, none⟩)] #[]), (3, .func (.func 23) #[.pointer (some ⟨b, 0, none⟩)] #[])], ownE (some ⟨b131, 0, none⟩) (nn + 1) (nn + 1) 3 1 (glC s1.gl), ownE Aw s1.ws.length cw 45 3 (wordC s1.ws), ownE Aa nn ca 33 1 (ptrN us), ownE As nn csx 36 1 (ptrS us), allE (s1.us.map (unitE long))]) (I := fun (t : Nat) (s1 : Sy) => t ≤ cn ∧ Ok nn long (j : Int) (13 * j + t : Int) s1 ∧ s1.us.map Un.bN = us.map Un.bN ∧ s1.us.map Un.bS = us.map Un.bS) (μ := fun (t : Nat) (s1 : Sy) => cn - t) (t + 1) ({ s1 with clock := s1.clock + 1, us := s1.us.map Un.tk } : Sy) ⟨by omega, hok1.tickAll.mono (by omega) (by omega), by rw [List.map_map]; exact hbN1, by rw [List.map_map]; exact hbS1⟩ (by omega) (subCons (mca m18) (subCons (mca m19) (subCons (mca m20) (subCons (mca m21) (subCons (mca m22) (subCons (mca m23) (subCons (mca m24) (subCons (mca m14) (subCons (mca m25) (subCons (mca m26) (subCons (mca m27) (subCons (mca m28) (subCons (mca m29) (subCons (mca m30) (subCons (mca m31) (subCons (mca m32) (subCons (mca m33) (subCons (mca m34) (subCons (mca m0) subNil))))))))))))))))))) (Pm.perm (by repeat (first | exact .nil | refine .cons (by repeat (first | exact .hd | apply Take.tl)) ?_)))
             ·
              try simp only [Bool.and_eq_true, Bool.or_eq_true, Bool.not_eq_true', Bool.not_eq_false', Bool.and_eq_false_iff, Bool.or_eq_false_iff, decide_eq_true_eq, decide_eq_false_iff_not, beq_iff_eq, Bool.not_eq_true, Bool.not_eq_false] at hc34
              obtain ⟨htc, hok1, hbN1, hbS1⟩ := hI
              refine tr_exit ?_
              refine qt_then_exit ?_
              refine qt_loop_exit ?_
              refine qt_block_hit ?_
              refine qt_block ?_
              exact hcut_b4 s1 Aw cw ⟨hok1.mono (by omega) (by omega), hbN1, hbS1⟩ (subCons (mca m1) (subCons (mca m2) (subCons (mca m3) (subCons (mca m4) (subCons (mca m5) (subCons (mca m6) (subCons (mca m7) (subCons (mca m8) (subCons (mca m9) (subCons (mca m10) (subCons (mca m11) (subCons (mca m12) (subCons (mca m13) (subCons (mca m14) (subCons (mca m15) (subCons (mca m16) (subCons (mca m17) subNil))))))))))))))))) (Pm.perm (by repeat (first | exact .nil | refine .cons (by repeat (first | exact .hd | apply Take.tl)) ?_)))
            ·
             try simp only [Bool.and_eq_true, Bool.or_eq_true, Bool.not_eq_true', Bool.not_eq_false', Bool.and_eq_false_iff, Bool.or_eq_false_iff, decide_eq_true_eq, decide_eq_false_iff_not, beq_iff_eq, Bool.not_eq_true, Bool.not_eq_false] at hc33
             refine tr_seq ?_
             -- region 105
             refine tr_plain ?_
             refine r_eql .none (.t m21) (.c _ _) rfl rfl ?_
             refine r_assign .none (.t m0) rfl rfl ?_
             refine tl_nil ?_
             refine qt_then ?_
             -- c39
             refine tr_cond (.t m0) (fun hc39 => ?_) (fun hc39 => ?_)
             ·
              try simp only [Bool.and_eq_true, Bool.or_eq_true, Bool.not_eq_true', Bool.not_eq_false', Bool.and_eq_false_iff, Bool.or_eq_false_iff, decide_eq_true_eq, decide_eq_false_iff_not, beq_iff_eq, Bool.not_eq_true, Bool.not_eq_false] at hc39
              refine tr_seq ?_
              -- region 106
              refine tr_open4 (.tl (.tl (.tl (.tl (.tl (.tl (.tl .hd))))))) (unit_at hu) ?_
              refine tr_plain ?_
              refine r_move .none (.t m22) rfl rfl ?_
              refine r_nilCheckP .none (.t m0) rfl rfl ?_
              refine r_fieldAddr fd39_0 .none (.t m0) rfl rfl ?_
              refine r_load [_] ty3 .none (.t m0) (by first | (refine sees_l ?_; (repeat (first | exact hd | apply tl)); done) | (apply sees_own; apply sees_l; (repeat (first | exact hd | apply tl)); done) | exact sees_r (by assumption)) rfl rfl (.one _) rfl rfl ?_
              refine r_add .none (.t m0) (.c _ _) (fun _ => by omega) rfl rfl ?_
              refine r_nilCheckP .none (.t m4) rfl rfl ?_
              refine r_fieldAddr fd39_0 .none (.t m0) rfl rfl ?_
              refine r_store [_, _, _, _] ty3 .none (.t m0) (.t m2) (Take.perm (by repeat (first | exact .hd | apply Take.tl))) rfl rfl rfl rfl (fun _ _ => trivial) ?_
              refine tl_nil ?_
              refine qt_then ?_
              refine tr_seq ?_
              -- region 107
              refine tr_plain ?_
              refine r_move .none (.t m28) rfl rfl ?_
              refine r_call _ _ _ en13 .none (.f _ _) (.cons (.t m0) .nil) (fun w hw => callL (.cons (.tl .hd) .nil) hw (fun h => Tick_turn _ _ _ _ _ _ _ _ _ (by omega) w h)) (fun _ _ _ _ => trivial) rfl rfl ?_
              rintro ⟨⟩ _
              refine r_neq .none (.t m0) (.c _ _) rfl rfl ?_
              refine tl_nil ?_
              refine qt_then ?_
              -- c40
              refine tr_cond (.t m0) (fun hc40 => ?_) (fun hc40 => ?_)
              · exfalso; first | (simp at hc40; done) | (simp only [Bool.and_eq_true, Bool.or_eq_true, Bool.not_eq_true', Bool.not_eq_false', Bool.and_eq_false_iff, Bool.or_eq_false_iff, decide_eq_true_eq, decide_eq_false_iff_not, beq_iff_eq, Bool.not_eq_true, Bool.not_eq_false] at hc40; omega) | (simp at hc40; omega)
              ·
               try simp only [Bool.and_eq_true, Bool.or_eq_true, Bool.not_eq_true', Bool.not_eq_false', Bool.and_eq_false_iff, Bool.or_eq_false_iff, decide_eq_true_eq, decide_eq_false_iff_not, beq_iff_eq, Bool.not_eq_true, Bool.not_eq_false] at hc40
               refine tr_skip ?_
               refine qt_block ?_
               refine qt_shut4 (.cons .hd (.cons (.tl .hd) (.cons .hd (.cons .hd (.cons .hd .nil))))) (by simpa using (List.getElem?_eq_some_iff.1 hu).1) (unit_set (v := u.tk) rfl) ?_
               refine qt_kl (.cons (.tl .hd) (.cons (.tl .hd) (.cons (.tl .hd) (.cons (.tl .hd) (.cons (.tl .hd) (.cons (.tl .hd) (.cons (.tl .hd) (.cons .hd .nil)))))))) ?_
               exact hcut_b4 ({ s with us := s.us.set k u.tk } : Sy) Aw cw ⟨(hok.tick1 hu).mono (by omega) (by omega), setB hbN hu rfl, setB hbS hu rfl⟩ (subCons (mca m12) (subCons (mca m13) (subCons (mca m14) (subCons (mca m15) (subCons (mca m16) (subCons (mca m17) (subCons (mca m18) (subCons (mca m19) (subCons (mca m20) (subCons (mca m21) (subCons (mca m22) (subCons (mca m23) (subCons (mca m24) (subCons (mca m25) (subCons (mca m26) (subCons (mca m27) (subCons (mca m28) subNil))))))))))))))))) (Pm.perm (by repeat (first | exact .nil | refine .cons (by repeat (first | exact .hd | apply Take.tl)) ?_)))
             ·
              try simp only [Bool.and_eq_true, Bool.or_eq_true, Bool.not_eq_true', Bool.not_eq_false', Bool.and_eq_false_iff, Bool.or_eq_false_iff, decide_eq_true_eq, decide_eq_false_iff_not, beq_iff_eq, Bool.not_eq_true, Bool.not_eq_false] at hc39
              refine tr_seq ?_
              -- region 109
              refine tr_plain ?_
              refine r_eql .none (.t m23) (.c _ _) rfl rfl ?_
              refine r_assign .none (.t m0) rfl rfl ?_
              refine tl_nil ?_
              refine qt_then ?_
              -- c41
              refine tr_cond (.t m0) (fun hc41 => ?_) (fun hc41 => ?_)
              ·
               try simp only [Bool.and_eq_true, Bool.or_eq_true, Bool.not_eq_true', Bool.not_eq_false', Bool.and_eq_false_iff, Bool.or_eq_false_iff, decide_eq_true_eq, decide_eq_false_iff_not, beq_iff_eq, Bool.not_eq_true, Bool.not_eq_false] at hc41
               refine tr_seq ?_
               -- region 110
               refine tr_open4 (.tl (.tl (.tl (.tl (.tl (.tl (.tl .hd))))))) (unit_at hu) ?_
               refine tr_plain ?_
               refine r_move .none (.t m24) rfl rfl ?_
               refine r_move .none (.t m25) rfl rfl ?_
               refine r_move .none (.t m26) rfl rfl ?_
               refine r_nilCheckP .none (.t m0) rfl rfl ?_
               refine r_fieldAddr fd39_0 .none (.t m0) rfl rfl ?_
               refine r_load [_] ty3 .none (.t m0) (by first | (refine sees_l ?_; (repeat (first | exact hd | apply tl)); done) | (apply sees_own; apply sees_l; (repeat (first | exact hd | apply tl)); done) | exact sees_r (by assumption)) rfl rfl (.one _) rfl rfl ?_
               refine r_makeMap (Value.int .i64) .none (fun _ _ _ => trivial) rfl rfl (fun mb504 => ?_)
               refine r_nilCheckP .none (.t m6) rfl rfl ?_
               refine r_fieldAddr fd39_2 .none (.t m0) rfl rfl ?_
               refine r_store [_, _, _, _] ty3 .none (.t m0) (.t m3) (Take.perm (by repeat (first | exact .hd | apply Take.tl))) rfl rfl rfl rfl (fun _ _ => trivial) ?_
               refine r_nilCheckP .none (.t m7) rfl rfl ?_
               refine r_fieldAddr fd39_3 .none (.t m0) rfl rfl ?_
               refine r_store [_, _, _, _] ty37 .none (.t m0) (.t m4) (Take.perm (by repeat (first | exact .hd | apply Take.tl))) rfl rfl rfl rfl (fun _ _ => trivial) ?_
               refine tl_nil ?_
               refine qt_then ?_
               refine tr_seq ?_
               -- region 111
               refine tr_plain ?_
               refine r_move .none (.t m34) rfl rfl ?_
               refine r_call _ _ _ en15 .none (.f _ _) (.cons (.t m0) .nil) (fun w hw => callL (.cons (.tl (.tl .hd)) .nil) hw (fun h => Break_turn _ _ _ _ _ _ _ _ _ w h)) (fun _ _ _ _ => trivial) rfl rfl ?_
               rintro ⟨⟩ _
               refine r_neq .none (.t m0) (.c _ _) rfl rfl ?_
               refine tl_nil ?_
               refine qt_then ?_
               -- c42
               refine tr_cond (.t m0) (fun hc42 => ?_) (fun hc42 => ?_)
               · exfalso; first | (simp at hc42; done) | (simp only [Bool.and_eq_true, Bool.or_eq_true, Bool.not_eq_true', Bool.not_eq_false', Bool.and_eq_false_iff, Bool.or_eq_false_iff, decide_eq_true_eq, decide_eq_false_iff_not, beq_iff_eq, Bool.not_eq_true, Bool.not_eq_false] at hc42; omega) | (simp at hc42; omega)
               ·
                try simp only [Bool.and_eq_true, Bool.or_eq_true, Bool.not_eq_true', Bool.not_eq_false', Bool.and_eq_false_iff, Bool.or_eq_false_iff, decide_eq_true_eq, decide_eq_false_iff_not, beq_iff_eq, Bool.not_eq_true, Bool.not_eq_false] at hc42
                refine tr_skip ?_
                refine qt_block ?_
                refine qt_ownnil 77 2 ?_
                refine qt_shut4 (.cons (.tl .hd) (.cons .hd (.cons .hd (.cons .hd (.cons (.tl (.tl .hd)) .nil))))) (by simpa using (List.getElem?_eq_some_iff.1 hu).1) (unit_set (v := ({ u with en := u.clock, asks := [], A := none, c := 0, mb := mb504 } : Un)) rfl) ?_
                refine qt_kl (.cons (.tl (.tl (.tl .hd))) (.cons (.tl (.tl (.tl .hd))) (.cons (.tl (.tl (.tl .hd))) (.cons (.tl (.tl (.tl .hd))) (.cons (.tl (.tl (.tl .hd))) (.cons (.tl (.tl (.tl .hd))) (.cons (.tl (.tl (.tl .hd))) (.cons .hd .nil)))))))) ?_
                exact hcut_b4 ({ s with us := s.us.set k ({ u with en := u.clock, asks := [], A := none, c := 0, mb := mb504 } : Un) } : Sy) Aw cw ⟨(hok.fall hu 0 mb504 none (by omega)).mono (by omega) (by omega), setB hbN hu rfl, setB hbS hu rfl⟩ (subCons (mca m18) (subCons (mca m19) (subCons (mca m20) (subCons (mca m21) (subCons (mca m22) (subCons (mca m23) (subCons (mca m24) (subCons (mca m25) (subCons (mca m26) (subCons (mca m27) (subCons (mca m28) (subCons (mca m29) (subCons (mca m30) (subCons (mca m31) (subCons (mca m32) (subCons (mca m33) (subCons (mca m34) subNil))))))))))))))))) (Pm.perm (by repeat (first | exact .nil | refine .cons (by repeat (first | exact .hd | apply Take.tl)) ?_)))
              ·
               try simp only [Bool.and_eq_true, Bool.or_eq_true, Bool.not_eq_true', Bool.not_eq_false', Bool.and_eq_false_iff, Bool.or_eq_false_iff, decide_eq_true_eq, decide_eq_false_iff_not, beq_iff_eq, Bool.not_eq_true, Bool.not_eq_false] at hc41
               refine tr_seq ?_
               -- region 26
               refine tr_plain ?_
               refine r_move .none (.t m11) rfl rfl ?_
               refine tl_kp (.k (.k (.k (.k (.k (.k (.k (.k (.k (.k (.k (.k (.k (.k (.k (.d .all)))))))))))))))) ?_
               refine r_assign .none (.c _ _) rfl rfl ?_
               refine tl_kp (.k (.k (.k (.k (.k (.k (.k (.k (.k (.k (.k (.k (.k (.k (.k (.k (.d .all))))))))))))))))) ?_
               refine r_assign .none (.c _ _) rfl rfl ?_
               refine tl_kp (.k (.k (.k (.k (.k (.k (.k (.k (.k (.k (.k (.k (.k (.k (.k (.k (.k (.d .all)))))))))))))))))) ?_
               refine r_assign .none (.t m2) rfl rfl ?_
               refine tl_nil ?_
               refine qt_then ?_
               refine tr_seq ?_
               -- region 27
               refine tr_plain ?_
               refine r_move .none (.t m11) rfl rfl ?_
               refine r_call _ _ _ en16 .none (.f _ _) (.cons (.t m0) .nil) (fun w hw => callL (.cons .hd .nil) hw (fun h => CBreak_turn _ _ _ _ _ _ _ _ _ _ _ w h)) (fun _ _ _ _ => trivial) rfl rfl ?_
               rintro ⟨⟩ _
               refine r_neq .none (.t m0) (.c _ _) rfl rfl ?_
               refine tl_nil ?_
               refine qt_then ?_
               -- c43
               refine tr_cond (.t m0) (fun hc43 => ?_) (fun hc43 => ?_)
               · exfalso; first | (simp at hc43; done) | (simp only [Bool.and_eq_true, Bool.or_eq_true, Bool.not_eq_true', Bool.not_eq_false', Bool.and_eq_false_iff, Bool.or_eq_false_iff, decide_eq_true_eq, decide_eq_false_iff_not, beq_iff_eq, Bool.not_eq_true, Bool.not_eq_false] at hc43; omega) | (simp at hc43; omega)
               ·
                try simp only [Bool.and_eq_true, Bool.or_eq_true, Bool.not_eq_true', Bool.not_eq_false', Bool.and_eq_false_iff, Bool.or_eq_false_iff, decide_eq_true_eq, decide_eq_false_iff_not, beq_iff_eq, Bool.not_eq_true, Bool.not_eq_false] at hc43
                refine tr_skip ?_
                refine qt_block ?_
                refine qt_kl (.cons .hd (.cons .hd (.cons .hd (.cons .hd (.cons .hd (.cons .hd (.cons .hd (.cons .hd .nil)))))))) ?_
                exact hcut_b4 ({ s with lease := -1, of := 0, since := s.clock } : Sy) Aw cw ⟨hok.broke.mono (by omega) (by omega), hbN, hbS⟩ (subCons (mca m11) (subCons (mca m12) (subCons (mca m13) (subCons (mca m14) (subCons (mca m15) (subCons (mca m16) (subCons (mca m17) (subCons (mca m18) (subCons (mca m19) (subCons (mca m20) (subCons (mca m5) (subCons (mca m4) (subCons (mca m3) (subCons (mca m21) (subCons (mca m22) (subCons (mca m23) (subCons (mca m24) subNil))))))))))))))))) (Pm.perm (by repeat (first | exact .nil | refine .cons (by repeat (first | exact .hd | apply Take.tl)) ?_)))
    ·
     intro s2 Aw2 cw2 hI
     obtain ⟨hok2, hbN2, hbS2⟩ := hI
     obtain ⟨z, hz, hz1⟩ : ∃ z : Int, (if s2.lease = 0 then 1 else 0) = z ∧ 0 ≤ z ∧ z ≤ 1 := ⟨_, rfl, by split <;> omega, by split <;> omega⟩
     have hul2 := hok2.uslen
     refine tr_seq ?_
     -- region 113
     refine tr_plain ?_
     refine r_assign .none (.c _ _) rfl rfl ?_
     refine tl_nil ?_
     refine qt_then ?_
     refine tr_seq ?_
     refine tr_seq ?_
     -- region 114
     refine tr_plain ?_
     refine r_move .none (.t m11) rfl rfl ?_
     refine r_eql .none (.t m0) (.c _ _) rfl rfl ?_
     refine tl_nil ?_
     refine qt_then ?_
     -- c44
     refine tr_cond (.t m0) (fun hc44 => ?_) (fun hc44 => ?_)
     ·
      try simp only [Bool.and_eq_true, Bool.or_eq_true, Bool.not_eq_true', Bool.not_eq_false', Bool.and_eq_false_iff, Bool.or_eq_false_iff, decide_eq_true_eq, decide_eq_false_iff_not, beq_iff_eq, Bool.not_eq_true, Bool.not_eq_false] at hc44
      -- region 115
      refine tr_plain ?_
      refine r_move .none (.t m2) rfl rfl ?_
      refine r_add .none (.t m0) (.c _ _) (fun _ => by omega) rfl rfl ?_
      refine tl_kp (.k (.k (.k (.k (.d .all))))) ?_
      refine r_assign .none (.t m0) rfl rfl ?_
      refine tl_nil ?_
      refine qt_then ?_
      refine tr_seq ?_
      refine tr_seq ?_
      -- region 116
      refine tr_plain ?_
      refine r_move .none (.t m8) rfl rfl ?_
      refine r_ans en17 .none (.f _ _) (.cons (.t m0) .nil) (fun hg w hw => Lease_ans _ _ _ _ _ _ _ _ _ _ _ w (hw.in_ m0)) (fun _ _ => trivial) rfl rfl ?_
      refine r_move .none (.t m0) rfl rfl ?_
      refine r_extract .none (.t m0) rfl rfl rfl ?_
      refine r_extract .none (.t m1) rfl rfl rfl ?_
      refine r_assign .none (.t m1) rfl rfl ?_
      refine r_assign .none (.t m1) rfl rfl ?_
      refine tl_nil ?_
      refine qt_then ?_
      refine tr_seq ?_
      -- region 117
      refine tr_plain ?_
      refine r_move .none (.t m1) rfl rfl ?_
      refine r_move .none (.t m23) rfl rfl ?_
      refine r_neq .none (.t m1) (.t m0) rfl rfl ?_
      refine r_move .none (.t m0) rfl rfl ?_
      refine r_move (.neg rfl m0) (.t m4) rfl rfl ?_
      refine r_move (.neg rfl m1) (.t m29) rfl rfl ?_
      refine r_neq (.neg rfl m2) (.s m1) (.s m0) rfl rfl ?_
      refine r_or .none (.t m3) (.s m0) rfl rfl ?_
      refine r_move .none (.t m0) rfl rfl ?_
      refine r_move (.neg rfl m0) (.t m24) rfl rfl ?_
      refine r_ans en18 (.neg rfl m1) (.f _ _) (.cons (.s m0) .nil) (fun hg w hw => CHolds_ans _ _ _ _ _ _ _ _ _ _ _ w (hw.in_ m0)) (fun _ _ => trivial) rfl rfl ?_
      refine r_move (.neg rfl m2) (.t m33) rfl rfl ?_
      refine r_eql (.neg rfl m3) (.s m0) (.c _ _) rfl rfl ?_
      refine r_neqB Try.underlying4 (.neg rfl m4) (.s m2) (.s m0) rfl rfl ?_
      refine r_or .none (.t m5) (.s m0) rfl rfl ?_
      refine tl_nil ?_
      refine qt_then ?_
      -- c45
      refine tr_cond (.t m0) (fun hc45 => ?_) (fun hc45 => ?_)
      · exfalso; first | (simp at hc45; done) | (simp only [Bool.and_eq_true, Bool.or_eq_true, Bool.not_eq_true', Bool.not_eq_false', Bool.and_eq_false_iff, Bool.or_eq_false_iff, decide_eq_true_eq, decide_eq_false_iff_not, beq_iff_eq, Bool.not_eq_true, Bool.not_eq_false] at hc45; omega) | (simp at hc45; omega)
      ·
       try simp only [Bool.and_eq_true, Bool.or_eq_true, Bool.not_eq_true', Bool.not_eq_false', Bool.and_eq_false_iff, Bool.or_eq_false_iff, decide_eq_true_eq, decide_eq_false_iff_not, beq_iff_eq, Bool.not_eq_true, Bool.not_eq_false] at hc45
       refine tr_skip ?_
       refine qt_then ?_
       refine tr_seq ?_
       refine tr_seq ?_
       -- region 119
       refine tr_plain ?_
       refine r_move .none (.t m33) rfl rfl ?_
       refine r_lenSl Try.underlying32 .none (.t m0) rfl rfl ?_
       refine r_move .none (.c _ _) rfl rfl ?_
       refine tl_nil ?_
       refine qt_then ?_
       refine tr_block ?_
       refine tr_loop1 (fun (i : Nat) => [(8, true, .bool false), (9, true, .int .i64 (nn : Int)), (10, true, .int .i64 long), (12, true, .pointer (some ⟨b, 0, none⟩)), (14, true, .int .i64 W), (17, true, .slice Aa nn ca), (18, true, .slice As nn csx), (22, true, .int .i64 s2.clock), (23, true, .int .i64 s2.wants), (24, true, .slice (some ⟨b131, 0, none⟩) (nn + 1) (nn + 1)), (25, true, .int .i64 s2.lease), (26, true, .int .i64 s2.of), (27, true, .int .i64 s2.since), (28, true, .slice Aw2 s2.ws.length cw2), (136, true, .slice A2 lim c2), (137, true, .int .i64 (lim : Int)), (138, true, .int .i64 (j : Int)), (49, true, .int .i64 ((z + (((s2.us.take i).filter Un.holds).length : Int)))), (536, true, .slice As nn csx), (537, true, .int .i64 (nn : Int)), (538, true, .int .i64 (i : Int))]) (fun (i : Nat) => [boxE b 64 [.int .i64 s2.clock, .int .i64 s2.lease, .int .i64 s2.of, .int .i64 s2.since, .bool true, .int .i64 W, .int .i64 s2.wants, .slice (some ⟨bg, 0, none⟩) (nn + 1) (nn + 1), .map (some mb)], ownE (some ⟨bg, 0, none⟩) (nn + 1) (nn + 1) 3 1 (glC s2.gl), mapE (Value.int .i64) mb [(1, .func (.func 22) #[.pointer (some ⟨b, 0, none⟩)] #[]), (3, .func (.func 23) #[.pointer (some ⟨b, 0, none⟩)] #[])], ownE (some ⟨b131, 0, none⟩) (nn + 1) (nn + 1) 3 1 (glC s2.gl), ownE Aw2 s2.ws.length cw2 45 3 (wordC s2.ws), ownE Aa nn ca 33 1 (ptrN us), ownE As nn csx 36 1 (ptrS us), allE (s2.us.map (unitE long))]) (fun (i : Nat) => i ≤ nn) (fun (i : Nat) => nn - i) 0 ((Nat.zero_le _)) (subCons (mca m30) (subCons (mca m31) (subCons (mca m32) (subCons (mca m33) (subCons (mca m34) (subCons (mca m35) (subCons (mca m36) (subCons (mca m37) (subCons (mca m38) (subCons (mca m39) (subCons (mca m40) (subCons (mca m41) (subCons (mca m42) (subCons (mca m43) (subCons (mca m44) (subCons (mca m45) (subCons (mca m46) (subCons (mcast m25 (congrArg (Value.int .i64) (by rw [← hz]; simp [hc44]))) (subCons (mca m2) (subCons (mca m1) (subCons (mca m0) subNil))))))))))))))))))))) (Pm.perm (by repeat (first | exact .nil | refine .cons (by repeat (first | exact .hd | apply Take.tl)) ?_))) ?_
       intro i hI
       refine tr_seq ?_
       -- region 120
       refine tr_plain ?_
       refine r_lss .none (.t m20) (.t m19) rfl rfl ?_
       refine tl_nil ?_
       refine qt_then ?_
       refine tr_seq ?_
       -- c46
       refine tr_cond (.t m0) (fun hc46 => ?_) (fun hc46 => ?_)
       ·
        try simp only [Bool.and_eq_true, Bool.or_eq_true, Bool.not_eq_true', Bool.not_eq_false', Bool.and_eq_false_iff, Bool.or_eq_false_iff, decide_eq_true_eq, decide_eq_false_iff_not, beq_iff_eq, Bool.not_eq_true, Bool.not_eq_false] at hc46
        obtain ⟨v, hv⟩ : ∃ v, s2.us[i]? = some v := ⟨_, List.getElem?_eq_getElem (by omega)⟩
        have hvin := unit_at (long := long) hv
        have hcnt := cnt_succ hv
        have hvN := ptrN_get hbN2 hv
        have hvS := ptrS_get hbS2 hv
        have hlf : ((s2.us.take i).filter Un.holds).length ≤ 4 := Nat.le_trans (List.length_filter_le _ _) (by rw [List.length_take]; omega)
        refine tr_skip ?_
        refine qt_then ?_
        refine tr_seq ?_
        refine tr_block ?_
        refine tr_seq ?_
        -- region 121
        refine tr_plain ?_
        refine r_move .none (.t m21) rfl rfl ?_
        refine r_indexAddr sl32 (by first | (refine sees_l ?_; (repeat (first | exact hd | apply tl)); done) | (apply sees_own; apply sees_l; (repeat (first | exact hd | apply tl)); done) | exact sees_r (by assumption)) .none (.t m20) (.t m22) (fun _ => by omega) rfl rfl ?_
        refine r_loadEl [_] ty36 (by first | (refine sees_l ?_; (repeat (first | exact hd | apply tl)); done) | (apply sees_own; apply sees_l; (repeat (first | exact hd | apply tl)); done) | exact sees_r (by assumption)) .none (.t m0) (fun _ => hvS) rfl rfl (.one _) rfl rfl ?_
        refine r_assign .none (.t m2) rfl rfl ?_
        refine r_assign .none (.t m1) rfl rfl ?_
        refine tl_nil ?_
        refine qt_then ?_
        refine tr_seq ?_
        refine tr_seq ?_
        -- region 122
        refine tr_plain ?_
        refine r_move .none (.t m11) rfl rfl ?_
        refine r_move .none (.t m2) rfl rfl ?_
        refine r_indexAddr sl31 (by first | (refine sees_l ?_; (repeat (first | exact hd | apply tl)); done) | (apply sees_own; apply sees_l; (repeat (first | exact hd | apply tl)); done) | exact sees_r (by assumption)) .none (.t m1) (.t m0) (fun _ => by omega) rfl rfl ?_
        refine r_loadEl [_] ty33 (by first | (refine sees_l ?_; (repeat (first | exact hd | apply tl)); done) | (apply sees_own; apply sees_l; (repeat (first | exact hd | apply tl)); done) | exact sees_r (by assumption)) .none (.t m0) (fun _ => hvN) rfl rfl (.one _) rfl rfl ?_
        refine r_ans en19 .none (.f _ _) (.cons (.t m0) .nil) (fun hg w hw => Ends_ans _ _ _ _ _ _ _ _ _ w (((hw.in_ m7)).big hvin m0)) (fun _ _ => trivial) rfl rfl ?_
        refine r_move .none (.t m0) rfl rfl ?_
        refine r_extract .none (.t m0) rfl rfl rfl ?_
        refine r_extract .none (.t m1) rfl rfl rfl ?_
        refine r_assign .none (.t m1) rfl rfl ?_
        refine r_assign .none (.t m1) rfl rfl ?_
        refine tl_nil ?_
        refine qt_then ?_
        refine tr_seq ?_
        -- region 123 draws
        refine tr_ord [(0, false), (1, false), (2, false), (3, false), (4, false), (5, false), (6, false), (7, false), (8, false), (9, false), (10, false), (11, false), (12, false), (13, false), (14, false), (15, false), (16, false), (17, false), (18, false), (20, false), (21, false), (22, false), (23, false), (24, false), (25, false), (26, false), (27, false), (28, false), (19, true), (29, false), (30, false)] [] _ _ (List.Sublist.refl _) (List.Sublist.refl _) mixedO (by kernel_rfl) ?_
        -- all early
        refine r_move .none (.t m1) rfl rfl ?_
        refine r_move .none (.t m11) rfl rfl ?_
        refine r_nilCheckP .none (.t m0) rfl rfl ?_
        refine r_fieldAddr fd39_0 .none (.t m0) rfl rfl ?_
        refine r_load [_] ty3 .none (.t m0) (sees_big (sees_c (by repeat (first | exact hd | apply tl))) hvin (tl (tl hd))) rfl rfl (.one _) rfl rfl ?_
        refine r_neq .none (.t m4) (.t m0) rfl rfl ?_
        refine r_move .none (.t m0) rfl rfl ?_
        refine r_move (.neg rfl m0) (.t m7) rfl rfl ?_
        refine r_move (.neg rfl m1) (.t m18) rfl rfl ?_
        refine r_nilCheckP (.neg rfl m2) (.s m0) rfl rfl ?_
        refine r_fieldAddr fd39_2 (.neg rfl m3) (.s m0) rfl rfl ?_
        refine r_load [_] ty3 (.neg rfl m4) (.s m0) (sees_big (sees_c (by repeat (first | exact hd | apply tl))) hvin (tl (tl hd))) rfl rfl (.one _) rfl rfl ?_
        refine r_neq (.neg rfl m5) (.s m4) (.s m0) rfl rfl ?_
        refine r_or .none (.t m6) (.s m0) rfl rfl ?_
        refine r_move .none (.t m0) rfl rfl ?_
        refine r_move (.neg rfl m0) (.t m36) rfl rfl ?_
        refine r_move (.neg rfl m1) (.t m27) rfl rfl ?_
        refine r_indexAddr sl31 (by first | (refine sees_c ?_; (repeat (first | exact hd | apply tl)); done) | (apply sees_own; apply sees_c; (repeat (first | exact hd | apply tl)); done) | exact sees_rc (by assumption)) (.neg rfl m2) (.s m1) (.s m0) (fun hg => by simp only [Bool.and_eq_true, Bool.or_eq_true, Bool.not_eq_true', Bool.not_eq_false', Bool.and_eq_false_iff, Bool.or_eq_false_iff, decide_eq_true_eq, decide_eq_false_iff_not, beq_iff_eq, Bool.not_eq_true, Bool.not_eq_false] at hg; omega) rfl rfl ?_
        refine r_loadEl [_] ty33 (by first | (refine sees_c ?_; (repeat (first | exact hd | apply tl)); done) | (apply sees_own; apply sees_c; (repeat (first | exact hd | apply tl)); done) | exact sees_rc (by assumption)) (.neg rfl m3) (.s m0) (fun _ => hvN) rfl rfl (.one _) rfl rfl ?_
        refine r_move (.neg rfl m4) (.t m29) rfl rfl ?_
        refine r_nilCheckP (.neg rfl m5) (.s m0) rfl rfl ?_
        refine r_fieldAddr fd39_0 (.neg rfl m6) (.s m0) rfl rfl ?_
        refine r_load [_] ty3 (.neg rfl m7) (.s m0) (sees_big (sees_c (by repeat (first | exact hd | apply tl))) hvin (tl (tl hd))) rfl rfl (.one _) rfl rfl ?_
        refine r_move (.neg rfl m8) (.t m33) rfl rfl ?_
        refine r_nilCheckP (.neg rfl m9) (.s m0) rfl rfl ?_
        refine r_fieldAddr fd39_2 (.neg rfl m10) (.s m0) rfl rfl ?_
        refine r_load [_] ty3 (.neg rfl m11) (.s m0) (sees_big (sees_c (by repeat (first | exact hd | apply tl))) hvin (tl (tl hd))) rfl rfl (.one _) rfl rfl ?_
        refine r_lss (.neg rfl m12) (.s m4) (.s m0) rfl rfl ?_
        refine r_ans en20 (.neg rfl m13) (.f _ _) (.cons (.s m9) .nil) (fun hg w hw => NHolds_ans _ _ _ _ _ _ _ _ _ w (((hw.in_ m7)).big hvin m0)) (keepC (List.Sublist.refl _)) rfl rfl ?_
        refine r_neqB Try.underlying4 (.neg rfl m14) (.s m0) (.s m1) rfl rfl ?_
        refine r_or .none (.t m15) (.s m0) rfl rfl ?_
        refine tl_nil ?_
        refine qt_late (List.Sublist.refl _) ?_
        refine tl_nil ?_
        refine qt_then ?_
        -- c47
        refine tr_cond (.t m0) (fun hc47 => ?_) (fun hc47 => ?_)
        · exfalso; first | (simp at hc47; done) | (simp only [Bool.and_eq_true, Bool.or_eq_true, Bool.not_eq_true', Bool.not_eq_false', Bool.and_eq_false_iff, Bool.or_eq_false_iff, decide_eq_true_eq, decide_eq_false_iff_not, beq_iff_eq, Bool.not_eq_true, Bool.not_eq_false] at hc47; omega) | (simp at hc47; omega)
        ·
         try simp only [Bool.and_eq_true, Bool.or_eq_true, Bool.not_eq_true', Bool.not_eq_false', Bool.and_eq_false_iff, Bool.or_eq_false_iff, decide_eq_true_eq, decide_eq_false_iff_not, beq_iff_eq, Bool.not_eq_true, Bool.not_eq_false] at hc47
         refine tr_skip ?_
         refine qt_then ?_
         refine tr_seq ?_
         -- region 125 draws
         refine tr_ord [(0, false), (1, false), (2, false), (3, false), (4, false), (5, false), (6, false), (7, false), (8, false)] [] _ _ (List.Sublist.refl _) (List.Sublist.refl _) mixedO (by kernel_rfl) ?_
         -- all early
         refine r_move .none (.t m41) rfl rfl ?_
         refine r_nilCheckP .none (.t m0) rfl rfl ?_
         refine r_fieldAddr fd39_0 .none (.t m0) rfl rfl ?_
         refine r_load [_] ty3 .none (.t m0) (sees_big (sees_c (by repeat (first | exact hd | apply tl))) hvin (tl (tl hd))) rfl rfl (.one _) rfl rfl ?_
         refine r_move .none (.t m45) rfl rfl ?_
         refine r_nilCheckP .none (.t m0) rfl rfl ?_
         refine r_fieldAddr fd39_2 .none (.t m0) rfl rfl ?_
         refine r_load [_] ty3 .none (.t m0) (sees_big (sees_c (by repeat (first | exact hd | apply tl))) hvin (tl (tl hd))) rfl rfl (.one _) rfl rfl ?_
         refine r_lss .none (.t m4) (.t m0) rfl rfl ?_
         refine tl_nil ?_
         refine qt_late (List.Sublist.refl _) ?_
         refine tl_nil ?_
         refine qt_then ?_
         -- c48
         refine tr_cond (.t m0) (fun hc48 => ?_) (fun hc48 => ?_)
         ·
          try simp only [Bool.and_eq_true, Bool.or_eq_true, Bool.not_eq_true', Bool.not_eq_false', Bool.and_eq_false_iff, Bool.or_eq_false_iff, decide_eq_true_eq, decide_eq_false_iff_not, beq_iff_eq, Bool.not_eq_true, Bool.not_eq_false] at hc48
          rw [if_pos hc48] at hcnt
          -- region 126
          refine tr_plain ?_
          refine r_move .none (.t (tl (tl (tl (tl (tl (tl (tl (tl (tl (tl (tl (tl (tl (tl (m59)))))))))))))))) rfl rfl ?_
          refine r_add .none (.t m0) (.c _ _) (fun _ => by omega) rfl rfl ?_
          refine tl_kp (.k (.k (.k (.k (.k (.k (.k (.k (.k (.k (.k (.k (.k (.k (.k (.k (.k (.k (.k (.k (.k (.k (.k (.k (.k (.k (.k (.k (.k (.k (.k (.k (.k (.k (.k (.k (.k (.k (.k (.k (.k (.k (.k (.k (.k (.k (.k (.k (.k (.k (.k (.k (.k (.k (.k (.k (.k (.k (.k (.k (.k (.k (.k (.k (.k (.k (.k (.k (.k (.k (.k (.k (.k (.k (.k (.d .all)))))))))))))))))))))))))))))))))))))))))))))))))))))))))))))))))))))))))))) ?_
          refine r_assign .none (.t m0) rfl rfl ?_
          refine tl_nil ?_
          refine qt_block ?_
          refine qt_then ?_
          -- region 127
          refine tr_plain ?_
          refine r_add .none (.t (tl (tl (tl (tl (tl (tl (tl (tl (tl (tl (tl (tl (tl (tl (tl (tl (tl (tl (tl (m59))))))))))))))))))))) (.c _ _) (fun _ => by omega) rfl rfl ?_
          refine tl_kp (.k (.k (.k (.k (.k (.k (.k (.k (.k (.k (.k (.k (.k (.k (.k (.k (.k (.k (.k (.k (.k (.k (.k (.k (.k (.k (.k (.k (.k (.k (.k (.k (.k (.k (.k (.k (.k (.k (.k (.k (.k (.k (.k (.k (.k (.k (.k (.k (.k (.k (.k (.k (.k (.k (.k (.k (.k (.k (.k (.k (.k (.k (.k (.k (.k (.k (.k (.k (.k (.k (.k (.k (.k (.k (.k (.k (.k (.k (.k (.d .all)))))))))))))))))))))))))))))))))))))))))))))))))))))))))))))))))))))))))))))))) ?_
          refine r_move .none (.t m0) rfl rfl ?_
          refine tl_nil ?_
          exact qt_round1 (Fi := fun (i : Nat) => [(8, true, .bool false), (9, true, .int .i64 (nn : Int)), (10, true, .int .i64 long), (12, true, .pointer (some ⟨b, 0, none⟩)), (14, true, .int .i64 W), (17, true, .slice Aa nn ca), (18, true, .slice As nn csx), (22, true, .int .i64 s2.clock), (23, true, .int .i64 s2.wants), (24, true, .slice (some ⟨b131, 0, none⟩) (nn + 1) (nn + 1)), (25, true, .int .i64 s2.lease), (26, true, .int .i64 s2.of), (27, true, .int .i64 s2.since), (28, true, .slice Aw2 s2.ws.length cw2), (136, true, .slice A2 lim c2), (137, true, .int .i64 (lim : Int)), (138, true, .int .i64 (j : Int)), (49, true, .int .i64 ((z + (((s2.us.take i).filter Un.holds).length : Int)))), (536, true, .slice As nn csx), (537, true, .int .i64 (nn : Int)), (538, true, .int .i64 (i : Int))]) (Li := fun (i : Nat) => [boxE b 64 [.int .i64 s2.clock, .int .i64 s2.lease, .int .i64 s2.of, .int .i64 s2.since, .bool true, .int .i64 W, .int .i64 s2.wants, .slice (some ⟨bg, 0, none⟩) (nn + 1) (nn + 1), .map (some mb)], ownE (some ⟨bg, 0, none⟩) (nn + 1) (nn + 1) 3 1 (glC s2.gl), mapE (Value.int .i64) mb [(1, .func (.func 22) #[.pointer (some ⟨b, 0, none⟩)] #[]), (3, .func (.func 23) #[.pointer (some ⟨b, 0, none⟩)] #[])], ownE (some ⟨b131, 0, none⟩) (nn + 1) (nn + 1) 3 1 (glC s2.gl), ownE Aw2 s2.ws.length cw2 45 3 (wordC s2.ws), ownE Aa nn ca 33 1 (ptrN us), ownE As nn csx 36 1 (ptrS us), allE (s2.us.map (unitE long))]) (I := fun (i : Nat) => i ≤ nn) (μ := fun (i : Nat) => nn - i) (i + 1) (by omega) (by omega) (subCons (mca (tl (tl (m59)))) (subCons (mca (tl (tl (tl (m59))))) (subCons (mca (tl (tl (tl (tl (m59)))))) (subCons (mca (tl (tl (tl (tl (tl (m59))))))) (subCons (mca (tl (tl (tl (tl (tl (tl (m59)))))))) (subCons (mca (tl (tl (tl (tl (tl (tl (tl (m59))))))))) (subCons (mca (tl (tl (tl (tl (tl (tl (tl (tl (m59)))))))))) (subCons (mca (tl (tl (tl (tl (tl (tl (tl (tl (tl (m59))))))))))) (subCons (mca (tl (tl (tl (tl (tl (tl (tl (tl (tl (tl (m59)))))))))))) (subCons (mca (tl (tl (tl (tl (tl (tl (tl (tl (tl (tl (tl (m59))))))))))))) (subCons (mca (tl (tl (tl (tl (tl (tl (tl (tl (tl (tl (tl (tl (m59)))))))))))))) (subCons (mca (tl (tl (tl (tl (tl (tl (tl (tl (tl (tl (tl (tl (tl (m59))))))))))))))) (subCons (mca (tl (tl (tl (tl (tl (tl (tl (tl (tl (tl (tl (tl (tl (tl (m59)))))))))))))))) (subCons (mca (tl (tl (tl (tl (tl (tl (tl (tl (tl (tl (tl (tl (tl (tl (tl (m59))))))))))))))))) (subCons (mca (tl (tl (tl (tl (tl (tl (tl (tl (tl (tl (tl (tl (tl (tl (tl (tl (m59)))))))))))))))))) (subCons (mca (tl (tl (tl (tl (tl (tl (tl (tl (tl (tl (tl (tl (tl (tl (tl (tl (tl (m59))))))))))))))))))) (subCons (mca (tl (tl (tl (tl (tl (tl (tl (tl (tl (tl (tl (tl (tl (tl (tl (tl (tl (tl (m59)))))))))))))))))))) (subCons (mcast m2 (congrArg (Value.int .i64) (by omega))) (subCons (mca (tl (tl (tl (tl (tl (tl (tl (tl (tl (tl (tl (tl (tl (tl (tl (tl (tl (tl (tl (m59))))))))))))))))))))) (subCons (mca (tl (tl (tl (tl (tl (tl (tl (tl (tl (tl (tl (tl (tl (tl (tl (tl (tl (tl (tl (tl (m59)))))))))))))))))))))) (subCons (mca m0) subNil))))))))))))))))))))) (Pm.perm (by repeat (first | exact .nil | refine .cons (by repeat (first | exact .hd | apply Take.tl)) ?_)))
         ·
          try simp only [Bool.and_eq_true, Bool.or_eq_true, Bool.not_eq_true', Bool.not_eq_false', Bool.and_eq_false_iff, Bool.or_eq_false_iff, decide_eq_true_eq, decide_eq_false_iff_not, beq_iff_eq, Bool.not_eq_true, Bool.not_eq_false] at hc48
          rw [if_neg (by omega)] at hcnt
          refine tr_skip ?_
          refine qt_block ?_
          refine qt_then ?_
          -- region 127
          refine tr_plain ?_
          refine r_add .none (.t (tl (tl (tl (tl (tl (tl (tl (tl (tl (tl (tl (tl (tl (tl (tl (tl (tl (m59))))))))))))))))))) (.c _ _) (fun _ => by omega) rfl rfl ?_
          refine tl_kp (.k (.k (.k (.k (.k (.k (.k (.k (.k (.k (.k (.k (.k (.k (.k (.k (.k (.k (.k (.k (.k (.k (.k (.k (.k (.k (.k (.k (.k (.k (.k (.k (.k (.k (.k (.k (.k (.k (.k (.k (.k (.k (.k (.k (.k (.k (.k (.k (.k (.k (.k (.k (.k (.k (.k (.k (.k (.k (.k (.k (.k (.k (.k (.k (.k (.k (.k (.k (.k (.k (.k (.k (.k (.k (.k (.k (.k (.d .all)))))))))))))))))))))))))))))))))))))))))))))))))))))))))))))))))))))))))))))) ?_
          refine r_move .none (.t m0) rfl rfl ?_
          refine tl_nil ?_
          exact qt_round1 (Fi := fun (i : Nat) => [(8, true, .bool false), (9, true, .int .i64 (nn : Int)), (10, true, .int .i64 long), (12, true, .pointer (some ⟨b, 0, none⟩)), (14, true, .int .i64 W), (17, true, .slice Aa nn ca), (18, true, .slice As nn csx), (22, true, .int .i64 s2.clock), (23, true, .int .i64 s2.wants), (24, true, .slice (some ⟨b131, 0, none⟩) (nn + 1) (nn + 1)), (25, true, .int .i64 s2.lease), (26, true, .int .i64 s2.of), (27, true, .int .i64 s2.since), (28, true, .slice Aw2 s2.ws.length cw2), (136, true, .slice A2 lim c2), (137, true, .int .i64 (lim : Int)), (138, true, .int .i64 (j : Int)), (49, true, .int .i64 ((z + (((s2.us.take i).filter Un.holds).length : Int)))), (536, true, .slice As nn csx), (537, true, .int .i64 (nn : Int)), (538, true, .int .i64 (i : Int))]) (Li := fun (i : Nat) => [boxE b 64 [.int .i64 s2.clock, .int .i64 s2.lease, .int .i64 s2.of, .int .i64 s2.since, .bool true, .int .i64 W, .int .i64 s2.wants, .slice (some ⟨bg, 0, none⟩) (nn + 1) (nn + 1), .map (some mb)], ownE (some ⟨bg, 0, none⟩) (nn + 1) (nn + 1) 3 1 (glC s2.gl), mapE (Value.int .i64) mb [(1, .func (.func 22) #[.pointer (some ⟨b, 0, none⟩)] #[]), (3, .func (.func 23) #[.pointer (some ⟨b, 0, none⟩)] #[])], ownE (some ⟨b131, 0, none⟩) (nn + 1) (nn + 1) 3 1 (glC s2.gl), ownE Aw2 s2.ws.length cw2 45 3 (wordC s2.ws), ownE Aa nn ca 33 1 (ptrN us), ownE As nn csx 36 1 (ptrS us), allE (s2.us.map (unitE long))]) (I := fun (i : Nat) => i ≤ nn) (μ := fun (i : Nat) => nn - i) (i + 1) (by omega) (by omega) (subCons (mca m58) (subCons (mca m59) (subCons (mca (tl (m59))) (subCons (mca (tl (tl (m59)))) (subCons (mca (tl (tl (tl (m59))))) (subCons (mca (tl (tl (tl (tl (m59)))))) (subCons (mca (tl (tl (tl (tl (tl (m59))))))) (subCons (mca (tl (tl (tl (tl (tl (tl (m59)))))))) (subCons (mca (tl (tl (tl (tl (tl (tl (tl (m59))))))))) (subCons (mca (tl (tl (tl (tl (tl (tl (tl (tl (m59)))))))))) (subCons (mca (tl (tl (tl (tl (tl (tl (tl (tl (tl (m59))))))))))) (subCons (mca (tl (tl (tl (tl (tl (tl (tl (tl (tl (tl (m59)))))))))))) (subCons (mca (tl (tl (tl (tl (tl (tl (tl (tl (tl (tl (tl (m59))))))))))))) (subCons (mca (tl (tl (tl (tl (tl (tl (tl (tl (tl (tl (tl (tl (m59)))))))))))))) (subCons (mca (tl (tl (tl (tl (tl (tl (tl (tl (tl (tl (tl (tl (tl (m59))))))))))))))) (subCons (mca (tl (tl (tl (tl (tl (tl (tl (tl (tl (tl (tl (tl (tl (tl (m59)))))))))))))))) (subCons (mca (tl (tl (tl (tl (tl (tl (tl (tl (tl (tl (tl (tl (tl (tl (tl (m59))))))))))))))))) (subCons (mcast (tl (tl (tl (tl (tl (tl (tl (tl (tl (tl (tl (tl (tl (tl (tl (tl (m59))))))))))))))))) (congrArg (Value.int .i64) (by omega))) (subCons (mca (tl (tl (tl (tl (tl (tl (tl (tl (tl (tl (tl (tl (tl (tl (tl (tl (tl (m59))))))))))))))))))) (subCons (mca (tl (tl (tl (tl (tl (tl (tl (tl (tl (tl (tl (tl (tl (tl (tl (tl (tl (tl (m59)))))))))))))))))))) (subCons (mca m0) subNil))))))))))))))))))))) (Pm.perm (by repeat (first | exact .nil | refine .cons (by repeat (first | exact .hd | apply Take.tl)) ?_)))
       ·
        try simp only [Bool.and_eq_true, Bool.or_eq_true, Bool.not_eq_true', Bool.not_eq_false', Bool.and_eq_false_iff, Bool.or_eq_false_iff, decide_eq_true_eq, decide_eq_false_iff_not, beq_iff_eq, Bool.not_eq_true, Bool.not_eq_false] at hc46
        have hone := hok2.one
        rw [hz] at hone
        have htk : s2.us.take i = s2.us := List.take_of_length_le (by omega)
        refine tr_exit ?_
        refine qt_then_exit ?_
        refine qt_loop_exit ?_
        refine qt_block_hit ?_
        refine qt_then ?_
        refine tr_seq ?_
        -- region 128
        refine tr_plain ?_
        refine r_move .none (.t m18) rfl rfl ?_
        refine r_gtr .none (.t m0) (.c _ _) rfl rfl ?_
        refine tl_nil ?_
        refine qt_then ?_
        -- c49
        refine tr_cond (.t m0) (fun hc49 => ?_) (fun hc49 => ?_)
        · exfalso; simp only [Bool.and_eq_true, Bool.or_eq_true, Bool.not_eq_true', Bool.not_eq_false', Bool.and_eq_false_iff, Bool.or_eq_false_iff, decide_eq_true_eq, decide_eq_false_iff_not, beq_iff_eq, Bool.not_eq_true, Bool.not_eq_false, htk] at hc49; omega
        ·
         try simp only [Bool.and_eq_true, Bool.or_eq_true, Bool.not_eq_true', Bool.not_eq_false', Bool.and_eq_false_iff, Bool.or_eq_false_iff, decide_eq_true_eq, decide_eq_false_iff_not, beq_iff_eq, Bool.not_eq_true, Bool.not_eq_false] at hc49
         refine tr_skip ?_
         refine qt_block ?_
         refine qt_then ?_
         -- region 130
         refine tr_plain ?_
         refine r_add .none (.t m19) (.c _ _) (fun _ => by omega) rfl rfl ?_
         refine tl_kp (.k (.k (.k (.k (.k (.k (.k (.k (.k (.k (.k (.k (.k (.k (.k (.k (.k (.k (.k (.k (.d .all))))))))))))))))))))) ?_
         refine r_move .none (.t m0) rfl rfl ?_
         refine tl_nil ?_
         exact qt_round4 (Fi := fun (j : Nat) (s : Sy) (Aw : Option Addr) (cw : Nat) => [(8, true, .bool false), (9, true, .int .i64 (nn : Int)), (10, true, .int .i64 long), (12, true, .pointer (some ⟨b, 0, none⟩)), (14, true, .int .i64 W), (17, true, .slice Aa nn ca), (18, true, .slice As nn csx), (22, true, .int .i64 s.clock), (23, true, .int .i64 s.wants), (24, true, .slice (some ⟨b131, 0, none⟩) (nn + 1) (nn + 1)), (25, true, .int .i64 s.lease), (26, true, .int .i64 s.of), (27, true, .int .i64 s.since), (28, true, .slice Aw s.ws.length cw), (136, true, .slice A2 lim c2), (137, true, .int .i64 (lim : Int)), (138, true, .int .i64 (j : Int))]) (Li := fun (j : Nat) (s : Sy) (Aw : Option Addr) (cw : Nat) => [boxE b 64 [.int .i64 s.clock, .int .i64 s.lease, .int .i64 s.of, .int .i64 s.since, .bool true, .int .i64 W, .int .i64 s.wants, .slice (some ⟨bg, 0, none⟩) (nn + 1) (nn + 1), .map (some mb)], ownE (some ⟨bg, 0, none⟩) (nn + 1) (nn + 1) 3 1 (glC s.gl), mapE (Value.int .i64) mb [(1, .func (.func 22) #[.pointer (some ⟨b, 0, none⟩)] #[]), (3, .func (.func 23) #[.pointer (some ⟨b, 0, none⟩)] #[])], ownE (some ⟨b131, 0, none⟩) (nn + 1) (nn + 1) 3 1 (glC s.gl), ownE Aw s.ws.length cw 45 3 (wordC s.ws), ownE Aa nn ca 33 1 (ptrN us), ownE As nn csx 36 1 (ptrS us), allE (s.us.map (unitE long))]) (I := fun (j : Nat) (s : Sy) (Aw : Option Addr) (cw : Nat) => j ≤ lim ∧ Ok nn long (j : Int) (13 * j : Int) s ∧ s.us.map Un.bN = us.map Un.bN ∧ s.us.map Un.bS = us.map Un.bS) (μ := fun (j : Nat) (s : Sy) (Aw : Option Addr) (cw : Nat) => lim - j) (j + 1) s2 Aw2 cw2 ⟨by omega, by exact hok2.mono (by omega) (by omega), hbN2, hbS2⟩ (by omega) (subCons (mca m5) (subCons (mca m6) (subCons (mca m7) (subCons (mca m8) (subCons (mca m9) (subCons (mca m10) (subCons (mca m11) (subCons (mca m12) (subCons (mca m13) (subCons (mca m14) (subCons (mca m15) (subCons (mca m16) (subCons (mca m17) (subCons (mca m18) (subCons (mca m19) (subCons (mca m20) (subCons (mca m0) subNil))))))))))))))))) (Pm.perm (by repeat (first | exact .nil | refine .cons (by repeat (first | exact .hd | apply Take.tl)) ?_)))
     ·
      try simp only [Bool.and_eq_true, Bool.or_eq_true, Bool.not_eq_true', Bool.not_eq_false', Bool.and_eq_false_iff, Bool.or_eq_false_iff, decide_eq_true_eq, decide_eq_false_iff_not, beq_iff_eq, Bool.not_eq_true, Bool.not_eq_false] at hc44
      refine tr_skip ?_
      refine qt_then ?_
      refine tr_seq ?_
      refine tr_seq ?_
      -- region 116
      refine tr_plain ?_
      refine r_move .none (.t m6) rfl rfl ?_
      refine r_ans en17 .none (.f _ _) (.cons (.t m0) .nil) (fun hg w hw => Lease_ans _ _ _ _ _ _ _ _ _ _ _ w (hw.in_ m0)) (fun _ _ => trivial) rfl rfl ?_
      refine r_move .none (.t m0) rfl rfl ?_
      refine r_extract .none (.t m0) rfl rfl rfl ?_
      refine r_extract .none (.t m1) rfl rfl rfl ?_
      refine r_assign .none (.t m1) rfl rfl ?_
      refine r_assign .none (.t m1) rfl rfl ?_
      refine tl_nil ?_
      refine qt_then ?_
      refine tr_seq ?_
      -- region 117
      refine tr_plain ?_
      refine r_move .none (.t m1) rfl rfl ?_
      refine r_move .none (.t m21) rfl rfl ?_
      refine r_neq .none (.t m1) (.t m0) rfl rfl ?_
      refine r_move .none (.t m0) rfl rfl ?_
      refine r_move (.neg rfl m0) (.t m4) rfl rfl ?_
      refine r_move (.neg rfl m1) (.t m27) rfl rfl ?_
      refine r_neq (.neg rfl m2) (.s m1) (.s m0) rfl rfl ?_
      refine r_or .none (.t m3) (.s m0) rfl rfl ?_
      refine r_move .none (.t m0) rfl rfl ?_
      refine r_move (.neg rfl m0) (.t m22) rfl rfl ?_
      refine r_ans en18 (.neg rfl m1) (.f _ _) (.cons (.s m0) .nil) (fun hg w hw => CHolds_ans _ _ _ _ _ _ _ _ _ _ _ w (hw.in_ m0)) (fun _ _ => trivial) rfl rfl ?_
      refine r_move (.neg rfl m2) (.t m31) rfl rfl ?_
      refine r_eql (.neg rfl m3) (.s m0) (.c _ _) rfl rfl ?_
      refine r_neqB Try.underlying4 (.neg rfl m4) (.s m2) (.s m0) rfl rfl ?_
      refine r_or .none (.t m5) (.s m0) rfl rfl ?_
      refine tl_nil ?_
      refine qt_then ?_
      -- c45
      refine tr_cond (.t m0) (fun hc45 => ?_) (fun hc45 => ?_)
      · exfalso; first | (simp at hc45; done) | (simp only [Bool.and_eq_true, Bool.or_eq_true, Bool.not_eq_true', Bool.not_eq_false', Bool.and_eq_false_iff, Bool.or_eq_false_iff, decide_eq_true_eq, decide_eq_false_iff_not, beq_iff_eq, Bool.not_eq_true, Bool.not_eq_false] at hc45; omega) | (simp at hc45; omega)
      ·
       try simp only [Bool.and_eq_true, Bool.or_eq_true, Bool.not_eq_true', Bool.not_eq_false', Bool.and_eq_false_iff, Bool.or_eq_false_iff, decide_eq_true_eq, decide_eq_false_iff_not, beq_iff_eq, Bool.not_eq_true, Bool.not_eq_false] at hc45
       refine tr_skip ?_
       refine qt_then ?_
       refine tr_seq ?_
       refine tr_seq ?_
       -- region 119
       refine tr_plain ?_
       refine r_move .none (.t m31) rfl rfl ?_
       refine r_lenSl Try.underlying32 .none (.t m0) rfl rfl ?_
       refine r_move .none (.c _ _) rfl rfl ?_
       refine tl_nil ?_
       refine qt_then ?_
       refine tr_block ?_
       refine tr_loop1 (fun (i : Nat) => [(8, true, .bool false), (9, true, .int .i64 (nn : Int)), (10, true, .int .i64 long), (12, true, .pointer (some ⟨b, 0, none⟩)), (14, true, .int .i64 W), (17, true, .slice Aa nn ca), (18, true, .slice As nn csx), (22, true, .int .i64 s2.clock), (23, true, .int .i64 s2.wants), (24, true, .slice (some ⟨b131, 0, none⟩) (nn + 1) (nn + 1)), (25, true, .int .i64 s2.lease), (26, true, .int .i64 s2.of), (27, true, .int .i64 s2.since), (28, true, .slice Aw2 s2.ws.length cw2), (136, true, .slice A2 lim c2), (137, true, .int .i64 (lim : Int)), (138, true, .int .i64 (j : Int)), (49, true, .int .i64 ((z + (((s2.us.take i).filter Un.holds).length : Int)))), (536, true, .slice As nn csx), (537, true, .int .i64 (nn : Int)), (538, true, .int .i64 (i : Int))]) (fun (i : Nat) => [boxE b 64 [.int .i64 s2.clock, .int .i64 s2.lease, .int .i64 s2.of, .int .i64 s2.since, .bool true, .int .i64 W, .int .i64 s2.wants, .slice (some ⟨bg, 0, none⟩) (nn + 1) (nn + 1), .map (some mb)], ownE (some ⟨bg, 0, none⟩) (nn + 1) (nn + 1) 3 1 (glC s2.gl), mapE (Value.int .i64) mb [(1, .func (.func 22) #[.pointer (some ⟨b, 0, none⟩)] #[]), (3, .func (.func 23) #[.pointer (some ⟨b, 0, none⟩)] #[])], ownE (some ⟨b131, 0, none⟩) (nn + 1) (nn + 1) 3 1 (glC s2.gl), ownE Aw2 s2.ws.length cw2 45 3 (wordC s2.ws), ownE Aa nn ca 33 1 (ptrN us), ownE As nn csx 36 1 (ptrS us), allE (s2.us.map (unitE long))]) (fun (i : Nat) => i ≤ nn) (fun (i : Nat) => nn - i) 0 ((Nat.zero_le _)) (subCons (mca m28) (subCons (mca m29) (subCons (mca m30) (subCons (mca m31) (subCons (mca m32) (subCons (mca m33) (subCons (mca m34) (subCons (mca m35) (subCons (mca m36) (subCons (mca m37) (subCons (mca m38) (subCons (mca m39) (subCons (mca m40) (subCons (mca m41) (subCons (mca m42) (subCons (mca m43) (subCons (mca m44) (subCons (mcast m27 (congrArg (Value.int .i64) (by rw [← hz]; simp [hc44]))) (subCons (mca m2) (subCons (mca m1) (subCons (mca m0) subNil))))))))))))))))))))) (Pm.perm (by repeat (first | exact .nil | refine .cons (by repeat (first | exact .hd | apply Take.tl)) ?_))) ?_
       intro i hI
       refine tr_seq ?_
       -- region 120
       refine tr_plain ?_
       refine r_lss .none (.t m20) (.t m19) rfl rfl ?_
       refine tl_nil ?_
       refine qt_then ?_
       refine tr_seq ?_
       -- c46
       refine tr_cond (.t m0) (fun hc46 => ?_) (fun hc46 => ?_)
       ·
        try simp only [Bool.and_eq_true, Bool.or_eq_true, Bool.not_eq_true', Bool.not_eq_false', Bool.and_eq_false_iff, Bool.or_eq_false_iff, decide_eq_true_eq, decide_eq_false_iff_not, beq_iff_eq, Bool.not_eq_true, Bool.not_eq_false] at hc46
        obtain ⟨v, hv⟩ : ∃ v, s2.us[i]? = some v := ⟨_, List.getElem?_eq_getElem (by omega)⟩
        have hvin := unit_at (long := long) hv
        have hcnt := cnt_succ hv
        have hvN := ptrN_get hbN2 hv
        have hvS := ptrS_get hbS2 hv
        have hlf : ((s2.us.take i).filter Un.holds).length ≤ 4 := Nat.le_trans (List.length_filter_le _ _) (by rw [List.length_take]; omega)
        refine tr_skip ?_
        refine qt_then ?_
        refine tr_seq ?_
        refine tr_block ?_
        refine tr_seq ?_
        -- region 121
        refine tr_plain ?_
        refine r_move .none (.t m21) rfl rfl ?_
        refine r_indexAddr sl32 (by first | (refine sees_l ?_; (repeat (first | exact hd | apply tl)); done) | (apply sees_own; apply sees_l; (repeat (first | exact hd | apply tl)); done) | exact sees_r (by assumption)) .none (.t m20) (.t m22) (fun _ => by omega) rfl rfl ?_
        refine r_loadEl [_] ty36 (by first | (refine sees_l ?_; (repeat (first | exact hd | apply tl)); done) | (apply sees_own; apply sees_l; (repeat (first | exact hd | apply tl)); done) | exact sees_r (by assumption)) .none (.t m0) (fun _ => hvS) rfl rfl (.one _) rfl rfl ?_
        refine r_assign .none (.t m2) rfl rfl ?_
        refine r_assign .none (.t m1) rfl rfl ?_
        refine tl_nil ?_
        refine qt_then ?_
        refine tr_seq ?_
        refine tr_seq ?_
        -- region 122
        refine tr_plain ?_
        refine r_move .none (.t m11) rfl rfl ?_
        refine r_move .none (.t m2) rfl rfl ?_
        refine r_indexAddr sl31 (by first | (refine sees_l ?_; (repeat (first | exact hd | apply tl)); done) | (apply sees_own; apply sees_l; (repeat (first | exact hd | apply tl)); done) | exact sees_r (by assumption)) .none (.t m1) (.t m0) (fun _ => by omega) rfl rfl ?_
        refine r_loadEl [_] ty33 (by first | (refine sees_l ?_; (repeat (first | exact hd | apply tl)); done) | (apply sees_own; apply sees_l; (repeat (first | exact hd | apply tl)); done) | exact sees_r (by assumption)) .none (.t m0) (fun _ => hvN) rfl rfl (.one _) rfl rfl ?_
        refine r_ans en19 .none (.f _ _) (.cons (.t m0) .nil) (fun hg w hw => Ends_ans _ _ _ _ _ _ _ _ _ w (((hw.in_ m7)).big hvin m0)) (fun _ _ => trivial) rfl rfl ?_
        refine r_move .none (.t m0) rfl rfl ?_
        refine r_extract .none (.t m0) rfl rfl rfl ?_
        refine r_extract .none (.t m1) rfl rfl rfl ?_
        refine r_assign .none (.t m1) rfl rfl ?_
        refine r_assign .none (.t m1) rfl rfl ?_
        refine tl_nil ?_
        refine qt_then ?_
        refine tr_seq ?_
        -- region 123 draws
        refine tr_ord [(0, false), (1, false), (2, false), (3, false), (4, false), (5, false), (6, false), (7, false), (8, false), (9, false), (10, false), (11, false), (12, false), (13, false), (14, false), (15, false), (16, false), (17, false), (18, false), (20, false), (21, false), (22, false), (23, false), (24, false), (25, false), (26, false), (27, false), (28, false), (19, true), (29, false), (30, false)] [] _ _ (List.Sublist.refl _) (List.Sublist.refl _) mixedO (by kernel_rfl) ?_
        -- all early
        refine r_move .none (.t m1) rfl rfl ?_
        refine r_move .none (.t m11) rfl rfl ?_
        refine r_nilCheckP .none (.t m0) rfl rfl ?_
        refine r_fieldAddr fd39_0 .none (.t m0) rfl rfl ?_
        refine r_load [_] ty3 .none (.t m0) (sees_big (sees_c (by repeat (first | exact hd | apply tl))) hvin (tl (tl hd))) rfl rfl (.one _) rfl rfl ?_
        refine r_neq .none (.t m4) (.t m0) rfl rfl ?_
        refine r_move .none (.t m0) rfl rfl ?_
        refine r_move (.neg rfl m0) (.t m7) rfl rfl ?_
        refine r_move (.neg rfl m1) (.t m18) rfl rfl ?_
        refine r_nilCheckP (.neg rfl m2) (.s m0) rfl rfl ?_
        refine r_fieldAddr fd39_2 (.neg rfl m3) (.s m0) rfl rfl ?_
        refine r_load [_] ty3 (.neg rfl m4) (.s m0) (sees_big (sees_c (by repeat (first | exact hd | apply tl))) hvin (tl (tl hd))) rfl rfl (.one _) rfl rfl ?_
        refine r_neq (.neg rfl m5) (.s m4) (.s m0) rfl rfl ?_
        refine r_or .none (.t m6) (.s m0) rfl rfl ?_
        refine r_move .none (.t m0) rfl rfl ?_
        refine r_move (.neg rfl m0) (.t m36) rfl rfl ?_
        refine r_move (.neg rfl m1) (.t m27) rfl rfl ?_
        refine r_indexAddr sl31 (by first | (refine sees_c ?_; (repeat (first | exact hd | apply tl)); done) | (apply sees_own; apply sees_c; (repeat (first | exact hd | apply tl)); done) | exact sees_rc (by assumption)) (.neg rfl m2) (.s m1) (.s m0) (fun hg => by simp only [Bool.and_eq_true, Bool.or_eq_true, Bool.not_eq_true', Bool.not_eq_false', Bool.and_eq_false_iff, Bool.or_eq_false_iff, decide_eq_true_eq, decide_eq_false_iff_not, beq_iff_eq, Bool.not_eq_true, Bool.not_eq_false] at hg; omega) rfl rfl ?_
        refine r_loadEl [_] ty33 (by first | (refine sees_c ?_; (repeat (first | exact hd | apply tl)); done) | (apply sees_own; apply sees_c; (repeat (first | exact hd | apply tl)); done) | exact sees_rc (by assumption)) (.neg rfl m3) (.s m0) (fun _ => hvN) rfl rfl (.one _) rfl rfl ?_
        refine r_move (.neg rfl m4) (.t m29) rfl rfl ?_
        refine r_nilCheckP (.neg rfl m5) (.s m0) rfl rfl ?_
        refine r_fieldAddr fd39_0 (.neg rfl m6) (.s m0) rfl rfl ?_
        refine r_load [_] ty3 (.neg rfl m7) (.s m0) (sees_big (sees_c (by repeat (first | exact hd | apply tl))) hvin (tl (tl hd))) rfl rfl (.one _) rfl rfl ?_
        refine r_move (.neg rfl m8) (.t m33) rfl rfl ?_
        refine r_nilCheckP (.neg rfl m9) (.s m0) rfl rfl ?_
        refine r_fieldAddr fd39_2 (.neg rfl m10) (.s m0) rfl rfl ?_
        refine r_load [_] ty3 (.neg rfl m11) (.s m0) (sees_big (sees_c (by repeat (first | exact hd | apply tl))) hvin (tl (tl hd))) rfl rfl (.one _) rfl rfl ?_
        refine r_lss (.neg rfl m12) (.s m4) (.s m0) rfl rfl ?_
        refine r_ans en20 (.neg rfl m13) (.f _ _) (.cons (.s m9) .nil) (fun hg w hw => NHolds_ans _ _ _ _ _ _ _ _ _ w (((hw.in_ m7)).big hvin m0)) (keepC (List.Sublist.refl _)) rfl rfl ?_
        refine r_neqB Try.underlying4 (.neg rfl m14) (.s m0) (.s m1) rfl rfl ?_
        refine r_or .none (.t m15) (.s m0) rfl rfl ?_
        refine tl_nil ?_
        refine qt_late (List.Sublist.refl _) ?_
        refine tl_nil ?_
        refine qt_then ?_
        -- c47
        refine tr_cond (.t m0) (fun hc47 => ?_) (fun hc47 => ?_)
        · exfalso; first | (simp at hc47; done) | (simp only [Bool.and_eq_true, Bool.or_eq_true, Bool.not_eq_true', Bool.not_eq_false', Bool.and_eq_false_iff, Bool.or_eq_false_iff, decide_eq_true_eq, decide_eq_false_iff_not, beq_iff_eq, Bool.not_eq_true, Bool.not_eq_false] at hc47; omega) | (simp at hc47; omega)
        ·
         try simp only [Bool.and_eq_true, Bool.or_eq_true, Bool.not_eq_true', Bool.not_eq_false', Bool.and_eq_false_iff, Bool.or_eq_false_iff, decide_eq_true_eq, decide_eq_false_iff_not, beq_iff_eq, Bool.not_eq_true, Bool.not_eq_false] at hc47
         refine tr_skip ?_
         refine qt_then ?_
         refine tr_seq ?_
         -- region 125 draws
         refine tr_ord [(0, false), (1, false), (2, false), (3, false), (4, false), (5, false), (6, false), (7, false), (8, false)] [] _ _ (List.Sublist.refl _) (List.Sublist.refl _) mixedO (by kernel_rfl) ?_
         -- all early
         refine r_move .none (.t m41) rfl rfl ?_
         refine r_nilCheckP .none (.t m0) rfl rfl ?_
         refine r_fieldAddr fd39_0 .none (.t m0) rfl rfl ?_
         refine r_load [_] ty3 .none (.t m0) (sees_big (sees_c (by repeat (first | exact hd | apply tl))) hvin (tl (tl hd))) rfl rfl (.one _) rfl rfl ?_
         refine r_move .none (.t m45) rfl rfl ?_
         refine r_nilCheckP .none (.t m0) rfl rfl ?_
         refine r_fieldAddr fd39_2 .none (.t m0) rfl rfl ?_
         refine r_load [_] ty3 .none (.t m0) (sees_big (sees_c (by repeat (first | exact hd | apply tl))) hvin (tl (tl hd))) rfl rfl (.one _) rfl rfl ?_
         refine r_lss .none (.t m4) (.t m0) rfl rfl ?_
         refine tl_nil ?_
         refine qt_late (List.Sublist.refl _) ?_
         refine tl_nil ?_
         refine qt_then ?_
         -- c48
         refine tr_cond (.t m0) (fun hc48 => ?_) (fun hc48 => ?_)
         ·
          try simp only [Bool.and_eq_true, Bool.or_eq_true, Bool.not_eq_true', Bool.not_eq_false', Bool.and_eq_false_iff, Bool.or_eq_false_iff, decide_eq_true_eq, decide_eq_false_iff_not, beq_iff_eq, Bool.not_eq_true, Bool.not_eq_false] at hc48
          rw [if_pos hc48] at hcnt
          -- region 126
          refine tr_plain ?_
          refine r_move .none (.t (tl (tl (tl (tl (tl (tl (tl (tl (tl (tl (tl (tl (tl (tl (m59)))))))))))))))) rfl rfl ?_
          refine r_add .none (.t m0) (.c _ _) (fun _ => by omega) rfl rfl ?_
          refine tl_kp (.k (.k (.k (.k (.k (.k (.k (.k (.k (.k (.k (.k (.k (.k (.k (.k (.k (.k (.k (.k (.k (.k (.k (.k (.k (.k (.k (.k (.k (.k (.k (.k (.k (.k (.k (.k (.k (.k (.k (.k (.k (.k (.k (.k (.k (.k (.k (.k (.k (.k (.k (.k (.k (.k (.k (.k (.k (.k (.k (.k (.k (.k (.k (.k (.k (.k (.k (.k (.k (.k (.k (.k (.k (.k (.k (.d .all)))))))))))))))))))))))))))))))))))))))))))))))))))))))))))))))))))))))))))) ?_
          refine r_assign .none (.t m0) rfl rfl ?_
          refine tl_nil ?_
          refine qt_block ?_
          refine qt_then ?_
          -- region 127
          refine tr_plain ?_
          refine r_add .none (.t (tl (tl (tl (tl (tl (tl (tl (tl (tl (tl (tl (tl (tl (tl (tl (tl (tl (tl (tl (m59))))))))))))))))))))) (.c _ _) (fun _ => by omega) rfl rfl ?_
          refine tl_kp (.k (.k (.k (.k (.k (.k (.k (.k (.k (.k (.k (.k (.k (.k (.k (.k (.k (.k (.k (.k (.k (.k (.k (.k (.k (.k (.k (.k (.k (.k (.k (.k (.k (.k (.k (.k (.k (.k (.k (.k (.k (.k (.k (.k (.k (.k (.k (.k (.k (.k (.k (.k (.k (.k (.k (.k (.k (.k (.k (.k (.k (.k (.k (.k (.k (.k (.k (.k (.k (.k (.k (.k (.k (.k (.k (.k (.k (.k (.k (.d .all)))))))))))))))))))))))))))))))))))))))))))))))))))))))))))))))))))))))))))))))) ?_
          refine r_move .none (.t m0) rfl rfl ?_
          refine tl_nil ?_
          exact qt_round1 (Fi := fun (i : Nat) => [(8, true, .bool false), (9, true, .int .i64 (nn : Int)), (10, true, .int .i64 long), (12, true, .pointer (some ⟨b, 0, none⟩)), (14, true, .int .i64 W), (17, true, .slice Aa nn ca), (18, true, .slice As nn csx), (22, true, .int .i64 s2.clock), (23, true, .int .i64 s2.wants), (24, true, .slice (some ⟨b131, 0, none⟩) (nn + 1) (nn + 1)), (25, true, .int .i64 s2.lease), (26, true, .int .i64 s2.of), (27, true, .int .i64 s2.since), (28, true, .slice Aw2 s2.ws.length cw2), (136, true, .slice A2 lim c2), (137, true, .int .i64 (lim : Int)), (138, true, .int .i64 (j : Int)), (49, true, .int .i64 ((z + (((s2.us.take i).filter Un.holds).length : Int)))), (536, true, .slice As nn csx), (537, true, .int .i64 (nn : Int)), (538, true, .int .i64 (i : Int))]) (Li := fun (i : Nat) => [boxE b 64 [.int .i64 s2.clock, .int .i64 s2.lease, .int .i64 s2.of, .int .i64 s2.since, .bool true, .int .i64 W, .int .i64 s2.wants, .slice (some ⟨bg, 0, none⟩) (nn + 1) (nn + 1), .map (some mb)], ownE (some ⟨bg, 0, none⟩) (nn + 1) (nn + 1) 3 1 (glC s2.gl), mapE (Value.int .i64) mb [(1, .func (.func 22) #[.pointer (some ⟨b, 0, none⟩)] #[]), (3, .func (.func 23) #[.pointer (some ⟨b, 0, none⟩)] #[])], ownE (some ⟨b131, 0, none⟩) (nn + 1) (nn + 1) 3 1 (glC s2.gl), ownE Aw2 s2.ws.length cw2 45 3 (wordC s2.ws), ownE Aa nn ca 33 1 (ptrN us), ownE As nn csx 36 1 (ptrS us), allE (s2.us.map (unitE long))]) (I := fun (i : Nat) => i ≤ nn) (μ := fun (i : Nat) => nn - i) (i + 1) (by omega) (by omega) (subCons (mca (tl (tl (m59)))) (subCons (mca (tl (tl (tl (m59))))) (subCons (mca (tl (tl (tl (tl (m59)))))) (subCons (mca (tl (tl (tl (tl (tl (m59))))))) (subCons (mca (tl (tl (tl (tl (tl (tl (m59)))))))) (subCons (mca (tl (tl (tl (tl (tl (tl (tl (m59))))))))) (subCons (mca (tl (tl (tl (tl (tl (tl (tl (tl (m59)))))))))) (subCons (mca (tl (tl (tl (tl (tl (tl (tl (tl (tl (m59))))))))))) (subCons (mca (tl (tl (tl (tl (tl (tl (tl (tl (tl (tl (m59)))))))))))) (subCons (mca (tl (tl (tl (tl (tl (tl (tl (tl (tl (tl (tl (m59))))))))))))) (subCons (mca (tl (tl (tl (tl (tl (tl (tl (tl (tl (tl (tl (tl (m59)))))))))))))) (subCons (mca (tl (tl (tl (tl (tl (tl (tl (tl (tl (tl (tl (tl (tl (m59))))))))))))))) (subCons (mca (tl (tl (tl (tl (tl (tl (tl (tl (tl (tl (tl (tl (tl (tl (m59)))))))))))))))) (subCons (mca (tl (tl (tl (tl (tl (tl (tl (tl (tl (tl (tl (tl (tl (tl (tl (m59))))))))))))))))) (subCons (mca (tl (tl (tl (tl (tl (tl (tl (tl (tl (tl (tl (tl (tl (tl (tl (tl (m59)))))))))))))))))) (subCons (mca (tl (tl (tl (tl (tl (tl (tl (tl (tl (tl (tl (tl (tl (tl (tl (tl (tl (m59))))))))))))))))))) (subCons (mca (tl (tl (tl (tl (tl (tl (tl (tl (tl (tl (tl (tl (tl (tl (tl (tl (tl (tl (m59)))))))))))))))))))) (subCons (mcast m2 (congrArg (Value.int .i64) (by omega))) (subCons (mca (tl (tl (tl (tl (tl (tl (tl (tl (tl (tl (tl (tl (tl (tl (tl (tl (tl (tl (tl (m59))))))))))))))))))))) (subCons (mca (tl (tl (tl (tl (tl (tl (tl (tl (tl (tl (tl (tl (tl (tl (tl (tl (tl (tl (tl (tl (m59)))))))))))))))))))))) (subCons (mca m0) subNil))))))))))))))))))))) (Pm.perm (by repeat (first | exact .nil | refine .cons (by repeat (first | exact .hd | apply Take.tl)) ?_)))
         ·
          try simp only [Bool.and_eq_true, Bool.or_eq_true, Bool.not_eq_true', Bool.not_eq_false', Bool.and_eq_false_iff, Bool.or_eq_false_iff, decide_eq_true_eq, decide_eq_false_iff_not, beq_iff_eq, Bool.not_eq_true, Bool.not_eq_false] at hc48
          rw [if_neg (by omega)] at hcnt
          refine tr_skip ?_
          refine qt_block ?_
          refine qt_then ?_
          -- region 127
          refine tr_plain ?_
          refine r_add .none (.t (tl (tl (tl (tl (tl (tl (tl (tl (tl (tl (tl (tl (tl (tl (tl (tl (tl (m59))))))))))))))))))) (.c _ _) (fun _ => by omega) rfl rfl ?_
          refine tl_kp (.k (.k (.k (.k (.k (.k (.k (.k (.k (.k (.k (.k (.k (.k (.k (.k (.k (.k (.k (.k (.k (.k (.k (.k (.k (.k (.k (.k (.k (.k (.k (.k (.k (.k (.k (.k (.k (.k (.k (.k (.k (.k (.k (.k (.k (.k (.k (.k (.k (.k (.k (.k (.k (.k (.k (.k (.k (.k (.k (.k (.k (.k (.k (.k (.k (.k (.k (.k (.k (.k (.k (.k (.k (.k (.k (.k (.k (.d .all)))))))))))))))))))))))))))))))))))))))))))))))))))))))))))))))))))))))))))))) ?_
          refine r_move .none (.t m0) rfl rfl ?_
          refine tl_nil ?_
          exact qt_round1 (Fi := fun (i : Nat) => [(8, true, .bool false), (9, true, .int .i64 (nn : Int)), (10, true, .int .i64 long), (12, true, .pointer (some ⟨b, 0, none⟩)), (14, true, .int .i64 W), (17, true, .slice Aa nn ca), (18, true, .slice As nn csx), (22, true, .int .i64 s2.clock), (23, true, .int .i64 s2.wants), (24, true, .slice (some ⟨b131, 0, none⟩) (nn + 1) (nn + 1)), (25, true, .int .i64 s2.lease), (26, true, .int .i64 s2.of), (27, true, .int .i64 s2.since), (28, true, .slice Aw2 s2.ws.length cw2), (136, true, .slice A2 lim c2), (137, true, .int .i64 (lim : Int)), (138, true, .int .i64 (j : Int)), (49, true, .int .i64 ((z + (((s2.us.take i).filter Un.holds).length : Int)))), (536, true, .slice As nn csx), (537, true, .int .i64 (nn : Int)), (538, true, .int .i64 (i : Int))]) (Li := fun (i : Nat) => [boxE b 64 [.int .i64 s2.clock, .int .i64 s2.lease, .int .i64 s2.of, .int .i64 s2.since, .bool true, .int .i64 W, .int .i64 s2.wants, .slice (some ⟨bg, 0, none⟩) (nn + 1) (nn + 1), .map (some mb)], ownE (some ⟨bg, 0, none⟩) (nn + 1) (nn + 1) 3 1 (glC s2.gl), mapE (Value.int .i64) mb [(1, .func (.func 22) #[.pointer (some ⟨b, 0, none⟩)] #[]), (3, .func (.func 23) #[.pointer (some ⟨b, 0, none⟩)] #[])], ownE (some ⟨b131, 0, none⟩) (nn + 1) (nn + 1) 3 1 (glC s2.gl), ownE Aw2 s2.ws.length cw2 45 3 (wordC s2.ws), ownE Aa nn ca 33 1 (ptrN us), ownE As nn csx 36 1 (ptrS us), allE (s2.us.map (unitE long))]) (I := fun (i : Nat) => i ≤ nn) (μ := fun (i : Nat) => nn - i) (i + 1) (by omega) (by omega) (subCons (mca m58) (subCons (mca m59) (subCons (mca (tl (m59))) (subCons (mca (tl (tl (m59)))) (subCons (mca (tl (tl (tl (m59))))) (subCons (mca (tl (tl (tl (tl (m59)))))) (subCons (mca (tl (tl (tl (tl (tl (m59))))))) (subCons (mca (tl (tl (tl (tl (tl (tl (m59)))))))) (subCons (mca (tl (tl (tl (tl (tl (tl (tl (m59))))))))) (subCons (mca (tl (tl (tl (tl (tl (tl (tl (tl (m59)))))))))) (subCons (mca (tl (tl (tl (tl (tl (tl (tl (tl (tl (m59))))))))))) (subCons (mca (tl (tl (tl (tl (tl (tl (tl (tl (tl (tl (m59)))))))))))) (subCons (mca (tl (tl (tl (tl (tl (tl (tl (tl (tl (tl (tl (m59))))))))))))) (subCons (mca (tl (tl (tl (tl (tl (tl (tl (tl (tl (tl (tl (tl (m59)))))))))))))) (subCons (mca (tl (tl (tl (tl (tl (tl (tl (tl (tl (tl (tl (tl (tl (m59))))))))))))))) (subCons (mca (tl (tl (tl (tl (tl (tl (tl (tl (tl (tl (tl (tl (tl (tl (m59)))))))))))))))) (subCons (mca (tl (tl (tl (tl (tl (tl (tl (tl (tl (tl (tl (tl (tl (tl (tl (m59))))))))))))))))) (subCons (mcast (tl (tl (tl (tl (tl (tl (tl (tl (tl (tl (tl (tl (tl (tl (tl (tl (m59))))))))))))))))) (congrArg (Value.int .i64) (by omega))) (subCons (mca (tl (tl (tl (tl (tl (tl (tl (tl (tl (tl (tl (tl (tl (tl (tl (tl (tl (m59))))))))))))))))))) (subCons (mca (tl (tl (tl (tl (tl (tl (tl (tl (tl (tl (tl (tl (tl (tl (tl (tl (tl (tl (m59)))))))))))))))))))) (subCons (mca m0) subNil))))))))))))))))))))) (Pm.perm (by repeat (first | exact .nil | refine .cons (by repeat (first | exact .hd | apply Take.tl)) ?_)))
       ·
        try simp only [Bool.and_eq_true, Bool.or_eq_true, Bool.not_eq_true', Bool.not_eq_false', Bool.and_eq_false_iff, Bool.or_eq_false_iff, decide_eq_true_eq, decide_eq_false_iff_not, beq_iff_eq, Bool.not_eq_true, Bool.not_eq_false] at hc46
        have hone := hok2.one
        rw [hz] at hone
        have htk : s2.us.take i = s2.us := List.take_of_length_le (by omega)
        refine tr_exit ?_
        refine qt_then_exit ?_
        refine qt_loop_exit ?_
        refine qt_block_hit ?_
        refine qt_then ?_
        refine tr_seq ?_
        -- region 128
        refine tr_plain ?_
        refine r_move .none (.t m18) rfl rfl ?_
        refine r_gtr .none (.t m0) (.c _ _) rfl rfl ?_
        refine tl_nil ?_
        refine qt_then ?_
        -- c49
        refine tr_cond (.t m0) (fun hc49 => ?_) (fun hc49 => ?_)
        · exfalso; simp only [Bool.and_eq_true, Bool.or_eq_true, Bool.not_eq_true', Bool.not_eq_false', Bool.and_eq_false_iff, Bool.or_eq_false_iff, decide_eq_true_eq, decide_eq_false_iff_not, beq_iff_eq, Bool.not_eq_true, Bool.not_eq_false, htk] at hc49; omega
        ·
         try simp only [Bool.and_eq_true, Bool.or_eq_true, Bool.not_eq_true', Bool.not_eq_false', Bool.and_eq_false_iff, Bool.or_eq_false_iff, decide_eq_true_eq, decide_eq_false_iff_not, beq_iff_eq, Bool.not_eq_true, Bool.not_eq_false] at hc49
         refine tr_skip ?_
         refine qt_block ?_
         refine qt_then ?_
         -- region 130
         refine tr_plain ?_
         refine r_add .none (.t m19) (.c _ _) (fun _ => by omega) rfl rfl ?_
         refine tl_kp (.k (.k (.k (.k (.k (.k (.k (.k (.k (.k (.k (.k (.k (.k (.k (.k (.k (.k (.k (.k (.d .all))))))))))))))))))))) ?_
         refine r_move .none (.t m0) rfl rfl ?_
         refine tl_nil ?_
         exact qt_round4 (Fi := fun (j : Nat) (s : Sy) (Aw : Option Addr) (cw : Nat) => [(8, true, .bool false), (9, true, .int .i64 (nn : Int)), (10, true, .int .i64 long), (12, true, .pointer (some ⟨b, 0, none⟩)), (14, true, .int .i64 W), (17, true, .slice Aa nn ca), (18, true, .slice As nn csx), (22, true, .int .i64 s.clock), (23, true, .int .i64 s.wants), (24, true, .slice (some ⟨b131, 0, none⟩) (nn + 1) (nn + 1)), (25, true, .int .i64 s.lease), (26, true, .int .i64 s.of), (27, true, .int .i64 s.since), (28, true, .slice Aw s.ws.length cw), (136, true, .slice A2 lim c2), (137, true, .int .i64 (lim : Int)), (138, true, .int .i64 (j : Int))]) (Li := fun (j : Nat) (s : Sy) (Aw : Option Addr) (cw : Nat) => [boxE b 64 [.int .i64 s.clock, .int .i64 s.lease, .int .i64 s.of, .int .i64 s.since, .bool true, .int .i64 W, .int .i64 s.wants, .slice (some ⟨bg, 0, none⟩) (nn + 1) (nn + 1), .map (some mb)], ownE (some ⟨bg, 0, none⟩) (nn + 1) (nn + 1) 3 1 (glC s.gl), mapE (Value.int .i64) mb [(1, .func (.func 22) #[.pointer (some ⟨b, 0, none⟩)] #[]), (3, .func (.func 23) #[.pointer (some ⟨b, 0, none⟩)] #[])], ownE (some ⟨b131, 0, none⟩) (nn + 1) (nn + 1) 3 1 (glC s.gl), ownE Aw s.ws.length cw 45 3 (wordC s.ws), ownE Aa nn ca 33 1 (ptrN us), ownE As nn csx 36 1 (ptrS us), allE (s.us.map (unitE long))]) (I := fun (j : Nat) (s : Sy) (Aw : Option Addr) (cw : Nat) => j ≤ lim ∧ Ok nn long (j : Int) (13 * j : Int) s ∧ s.us.map Un.bN = us.map Un.bN ∧ s.us.map Un.bS = us.map Un.bS) (μ := fun (j : Nat) (s : Sy) (Aw : Option Addr) (cw : Nat) => lim - j) (j + 1) s2 Aw2 cw2 ⟨by omega, by exact hok2.mono (by omega) (by omega), hbN2, hbS2⟩ (by omega) (subCons (mca m5) (subCons (mca m6) (subCons (mca m7) (subCons (mca m8) (subCons (mca m9) (subCons (mca m10) (subCons (mca m11) (subCons (mca m12) (subCons (mca m13) (subCons (mca m14) (subCons (mca m15) (subCons (mca m16) (subCons (mca m17) (subCons (mca m18) (subCons (mca m19) (subCons (mca m20) (subCons (mca m0) subNil))))))))))))))))) (Pm.perm (by repeat (first | exact .nil | refine .cons (by repeat (first | exact .hd | apply Take.tl)) ?_)))
   ·
    try simp only [Bool.and_eq_true, Bool.or_eq_true, Bool.not_eq_true', Bool.not_eq_false', Bool.and_eq_false_iff, Bool.or_eq_false_iff, decide_eq_true_eq, decide_eq_false_iff_not, beq_iff_eq, Bool.not_eq_true, Bool.not_eq_false] at hc3
    obtain ⟨_, hok, hbN, hbS⟩ := hI
    obtain ⟨v, hv⟩ : ∃ v, s.us[0]? = some v := ⟨_, List.getElem?_eq_getElem (by have := hok.uslen; omega)⟩
    have hvN := ptrN_get hbN hv
    have hvin := unit_at (long := long) hv
    have hvid := hok.ids 0 v hv
    refine tr_exit ?_
    refine qt_then_exit ?_
    refine qt_loop_exit ?_
    refine qt_block_hit ?_
    refine qt_then ?_
    refine tr_seq ?_
    -- region 131
    refine tr_plain ?_
    refine r_move .none (.t m4) rfl rfl ?_
    refine r_move .none (.t m3) rfl rfl ?_
    refine r_add .none (.t m0) (.c _ _) (fun _ => by omega) rfl rfl ?_
    refine r_build [_, _, _] bd45 .none (.cons (.c _ _) (.cons (.t m0) (.cons (.c _ _) .nil))) rfl rfl rfl ?_
    refine r_ans en10 .none (.f _ _) (.cons (.t m3) (.cons (.t m0) .nil)) (fun hg w hw => CHearNone_ans _ _ _ _ _ _ _ _ _ _ _ 1 ((nn : Int) + 1) 1 (by omega) (by omega) (by omega) w (hw.in_ m0)) (fun _ _ => trivial) rfl rfl ?_
    refine r_move .none (.t m0) rfl rfl ?_
    refine r_extract .none (.t m0) rfl rfl rfl ?_
    refine r_extract .none (.t m1) rfl rfl rfl ?_
    refine r_assign .none (.t m0) rfl rfl ?_
    refine tl_nil ?_
    refine qt_kp (.k (.d (.d (.d (.d (.d (.d (.d (.d (.d (.k (.d (.d (.k (.d (.k (.d (.d (.d (.d (.d (.d (.d (.d (.d (.d (.d .all))))))))))))))))))))))))))) ?_
    refine qt_then ?_
    refine tr_seq ?_
    -- region 132
    refine tr_plain ?_
    refine r_move .none (.t m2) rfl rfl ?_
    refine r_build [_, _, _] bd45 .none (.cons (.c _ _) (.cons (.c _ _) (.cons (.c _ _) .nil))) rfl rfl rfl ?_
    refine r_ans en10 .none (.f _ _) (.cons (.t m1) (.cons (.t m0) .nil)) (fun hg w hw => CHearArg_ans _ _ _ _ _ _ _ _ _ _ _ 4 1 1 (by omega) w (hw.in_ m0)) (fun _ _ => trivial) rfl rfl ?_
    refine r_move .none (.t m0) rfl rfl ?_
    refine r_extract .none (.t m0) rfl rfl rfl ?_
    refine r_extract .none (.t m1) rfl rfl rfl ?_
    refine r_assign .none (.t m0) rfl rfl ?_
    refine tl_nil ?_
    refine qt_kp (.k (.d (.d (.d (.d (.d (.d (.k (.k (.d .all)))))))))) ?_
    refine qt_then ?_
    refine tr_seq ?_
    -- region 133
    refine tr_plain ?_
    refine r_move .none (.t m1) rfl rfl ?_
    refine r_eql .none (.t m0) (.c _ _) rfl rfl ?_
    refine r_move .none (.t m0) rfl rfl ?_
    refine r_move (.pos rfl m0) (.t m3) rfl rfl ?_
    refine r_eql (.pos rfl m1) (.s m0) (.c _ _) rfl rfl ?_
    refine r_and .none (.t m2) (.s m0) rfl rfl ?_
    refine r_move .none (.t m0) rfl rfl ?_
    refine r_move (.pos rfl m0) (.t m10) rfl rfl ?_
    refine r_indexAddr sl31 (by first | (refine sees_l ?_; (repeat (first | exact hd | apply tl)); done) | (apply sees_own; apply sees_l; (repeat (first | exact hd | apply tl)); done) | exact sees_r (by assumption)) (.pos rfl m1) (.s m0) (.c _ _) (fun hg => by simp only [Bool.and_eq_true, Bool.or_eq_true, Bool.not_eq_true', Bool.not_eq_false', Bool.and_eq_false_iff, Bool.or_eq_false_iff, decide_eq_true_eq, decide_eq_false_iff_not, beq_iff_eq, Bool.not_eq_true, Bool.not_eq_false] at hg; omega) rfl rfl ?_
    refine r_loadEl [_] ty33 (by first | (refine sees_l ?_; (repeat (first | exact hd | apply tl)); done) | (apply sees_own; apply sees_l; (repeat (first | exact hd | apply tl)); done) | exact sees_r (by assumption)) (.pos rfl m2) (.s m0) (fun _ => hvN) rfl rfl (.one _) rfl rfl ?_
    refine r_build [_, _, _] bd45 (.pos rfl m3) (.cons (.c _ _) (.cons (.c _ _) (.cons (.c _ _) .nil))) rfl rfl rfl ?_
    refine r_ans en9 (.pos rfl m4) (.f _ _) (.cons (.s m1) (.cons (.s m0) .nil)) (fun hg w hw => HearArg_ans _ _ _ _ _ _ _ _ _ 2 2 1 (by omega) w (((hw.in_ m7)).big hvin m0)) (fun _ _ => trivial) rfl rfl ?_
    refine r_eql (.pos rfl m5) (.s m0) (.c _ _) rfl rfl ?_
    refine r_and .none (.t m6) (.s m0) rfl rfl ?_
    refine tl_kp (.k (.k (.k (.k (.k (.k (.k (.k (.k (.k (.k (.k (.k (.k (.k (.k (.d .all))))))))))))))))) ?_
    refine r_assign .none (.t m0) rfl rfl ?_
    refine tl_nil ?_
    refine qt_kp (.k (.d (.d (.d (.d (.d (.d (.d (.d (.d (.d (.d (.d (.d (.d (.d (.d (.d .all)))))))))))))))))) ?_
    refine qt_then ?_
    refine tr_ret ?_
    refine qt_fin_ret rfl Try.results3 (.t m0 .nil) (fun w hw => ?_)
    exact ⟨by simp [one], hw.sub (List.nil_sublist _)⟩
end Go.Proofs.Ytpmnbenmjkeacaa
