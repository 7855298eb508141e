/- A part of the proof of this claim's statement: contracts and walks. -/
import Derived.Test.YtpmnbenmjkeacaaD
set_option linter.unusedVariables false
set_option linter.unusedSimpArgs false
set_option maxHeartbeats 1000000
namespace Go.Proofs.Ytpmnbenmjkeacaa
open Go Go.RowKit Go.Sep
theorem sl40 : SlS Try.prog 40 3 1 := .of (by kernel_rfl)
theorem fd61_1 : FdS Try.prog 61 1 false 1 1 := .of (by kernel_rfl)
theorem fd64_6 : FdS Try.prog 64 6 false 8 1 := .of (by kernel_rfl)
theorem ty62 : TyS Try.prog 62 false 1 := .of (by kernel_rfl)
theorem ke3 : KeyEnc Try.prog 3 (.int .i64) (Value.int .i64) := keyInt Try.underlying3
theorem el65 : ElS Try.prog 65 (.nilFunc) 1 8 := ⟨by kernel_rfl, rfl⟩
theorem en22 : EntersF Try.prog 22 := Go.Proofs.enters_of Try.func22 (by kernel_rfl) rfl
theorem en23 : EntersF Try.prog 23 := Go.Proofs.enters_of Try.func23 (by kernel_rfl) rfl
theorem bd70 : BdS Try.prog 70 [.int .i64 0, .bool false, .int .i64 0, .int .i64 0, .int .i64 0, .int .i64 0, .slice none 0 0] [(0, 1), (1, 1), (2, 1), (3, 1), (4, 1), (5, 1), (6, 1)] := .of (by kernel_rfl) (by kernel_rfl)
theorem en5 : EntersF Try.prog 5 := Go.Proofs.enters_of Try.func5 (by kernel_rfl) rfl
theorem bd64 : BdS Try.prog 64 [.int .i64 0, .int .i64 0, .int .i64 0, .int .i64 0, .bool false, .int .i64 0, .int .i64 0, .slice none 0 0, .map none] [(0, 1), (1, 3), (4, 1), (5, 1), (6, 1), (7, 1), (8, 1)] := .of (by kernel_rfl) (by kernel_rfl)
theorem ask_old (b : Nat) (now node num since wait wanted : Int) (A : Option Addr) (n c mb : Nat) (gl : List Int) (i : Nat) (m g : Int) (hg : gl[i]? = some g) (hm : m ≤ g) (w : World) (h0 : St w (· ∈ (allE [boxE b 64 [.int .i64 now, .int .i64 node, .int .i64 num, .int .i64 since, .bool true, .int .i64 wait, .int .i64 wanted, .slice A n c, .map (some mb)], ownE A n c 3 1 (gl.map fun g => [Value.int .i64 g])]).foot) [boxE b 64 [.int .i64 now, .int .i64 node, .int .i64 num, .int .i64 since, .bool true, .int .i64 wait, .int .i64 wanted, .slice A n c, .map (some mb)], ownE A n c 3 1 (gl.map fun g => [Value.int .i64 g])] w)  : Calls Try.prog 22 #[.pointer (some ⟨b, 0, none⟩), .agg #[.int .i64 1, .int .i64 (i : Int), .int .i64 m]] w (Gives w (· ∈ (allE [boxE b 64 [.int .i64 now, .int .i64 node, .int .i64 num, .int .i64 since, .bool true, .int .i64 wait, .int .i64 wanted, .slice A n c, .map (some mb)], ownE A n c 3 1 (gl.map fun g => [Value.int .i64 g])]).foot) (fun (_ : Unit) => .agg #[.int .i64 0, .int .i64 0, .int .i64 0]) (fun (_ : Unit) => True) (fun (_ : Unit) => [boxE b 64 [.int .i64 now, .int .i64 node, .int .i64 num, .int .i64 since, .bool true, .int .i64 wait, .int .i64 wanted, .slice A n c, .map (some mb)], ownE A n c 3 1 (gl.map fun g => [Value.int .i64 g])])) := by
 have hlen : gl.length = n := by have := (h0.ok _ (m1 : _ ∈ _)).1; simpa using this
 have hi := (List.getElem?_eq_some_iff.1 hg).1
 have hge : (gl.map fun g => [Value.int .i64 g])[i]? = some [Value.int .i64 g] := by simp [hg]
 refine calls_args Try.func22 rfl 70 Try.ntmps22 rfl h0 ?_
 refine tr_kp .all ?_
 refine tr_seq ?_
 -- region 0
 refine tr_plain ?_
 refine r_box [_, _, _] .none (.t m1) rfl (fun _ _ _ => trivial) rfl rfl (fun b3 => ?_)
 refine r_alloc [.int .i64 0, .int .i64 0, .int .i64 0] el45 rfl .none (fun _ _ _ => trivial) rfl rfl (fun b4 => ?_)
 refine tl_nil ?_
 refine qt_kp (.k (.k (.k (.d .all)))) ?_
 refine qt_then ?_
 refine tr_seq ?_
 refine tr_seq ?_
 -- region 1 draws
 refine tr_ord [(0, false), (1, false), (2, false), (3, false), (4, false), (5, false), (6, false), (7, false), (8, false), (9, false), (10, false)] [] _ _ (List.Sublist.refl _) (List.Sublist.refl _) mixedO (by kernel_rfl) ?_
 -- all early
 refine r_fieldAddr fd45_2 .none (.t m1) rfl rfl ?_
 refine r_load [_] ty3 .none (.t m0) (by first | (refine sees_c ?_; (repeat (first | exact hd | apply tl)); done) | (apply sees_own; apply sees_c; (repeat (first | exact hd | apply tl)); done) | exact sees_rc (by assumption)) rfl rfl (.one _) rfl rfl ?_
 refine r_move .none (.t m4) rfl rfl ?_
 refine r_nilCheckP .none (.t m0) rfl rfl ?_
 refine r_fieldAddr fd64_5 .none (.t m0) rfl rfl ?_
 refine r_load [_] ty40 .none (.t m0) (by first | (refine sees_c ?_; (repeat (first | exact hd | apply tl)); done) | (apply sees_own; apply sees_c; (repeat (first | exact hd | apply tl)); done) | exact sees_rc (by assumption)) rfl rfl (.one _) rfl rfl ?_
 refine r_fieldAddr fd45_1 .none (.t m7) rfl rfl ?_
 refine r_load [_] ty3 .none (.t m0) (by first | (refine sees_c ?_; (repeat (first | exact hd | apply tl)); done) | (apply sees_own; apply sees_c; (repeat (first | exact hd | apply tl)); done) | exact sees_rc (by assumption)) rfl rfl (.one _) rfl rfl ?_
 refine r_indexAddr sl40 (by first | (refine sees_c ?_; (repeat (first | exact hd | apply tl)); done) | (apply sees_own; apply sees_c; (repeat (first | exact hd | apply tl)); done) | exact sees_rc (by assumption)) .none (.t m2) (.t m0) (fun _ => by omega) rfl rfl ?_
 refine r_loadEl [_] ty3 (by first | (refine sees_c ?_; (repeat (first | exact hd | apply tl)); done) | (apply sees_own; apply sees_c; (repeat (first | exact hd | apply tl)); done) | exact sees_rc (by assumption)) .none (.t m0) (fun _ => hge) rfl rfl (.one _) rfl rfl ?_
 refine r_leq .none (.t m8) (.t m0) rfl rfl ?_
 refine tl_nil ?_
 refine qt_late (List.Sublist.refl _) ?_
 refine tl_nil ?_
 refine qt_kp (.k (.d (.d (.d (.d (.d (.d (.d (.d (.d (.d .all))))))))))) ?_
 refine qt_then ?_
 -- c0
 refine tr_cond (.t m0) (fun hc0 => ?_) (fun hc0 => ?_)
 ·
  try simp only [Bool.and_eq_true, Bool.or_eq_true, Bool.not_eq_true', Bool.not_eq_false', Bool.and_eq_false_iff, Bool.or_eq_false_iff, decide_eq_true_eq, decide_eq_false_iff_not, beq_iff_eq, Bool.not_eq_true, Bool.not_eq_false] at hc0
  refine tr_seq ?_
  -- region 2
  refine tr_plain ?_
  refine r_build [_, _, _] bd45 .none .nil rfl rfl rfl ?_
  refine r_store [_, _, _] ty45 .none (.t m2) (.t m0) (Take.perm (by repeat (first | exact .hd | apply Take.tl))) rfl rfl rfl rfl (fun _ _ => trivial) ?_
  refine tl_nil ?_
  refine qt_kp (.d (.d .all)) ?_
  refine qt_then ?_
  refine tr_ret ?_
  refine qt_then_ret ?_
  refine qt_fin_ret rfl Try.results22 (.c [_, _, _] ty45 m0 (by repeat (first | exact hd | apply tl)) rfl rfl (.agg _) .nil) (fun w hw => ?_)
  exact ⟨(), trivial, rfl, hw.kl (.cons (by repeat (first | exact .hd | apply Take.tl)) (.cons (by repeat (first | exact .hd | apply Take.tl)) .nil))⟩
 · exfalso; first | (simp at hc0; done) | (simp only [Bool.and_eq_true, Bool.or_eq_true, Bool.not_eq_true', Bool.not_eq_false', Bool.and_eq_false_iff, Bool.or_eq_false_iff, decide_eq_true_eq, decide_eq_false_iff_not, beq_iff_eq, Bool.not_eq_true, Bool.not_eq_false] at hc0; omega) | (simp at hc0; omega)
theorem ask_no (b : Nat) (now node num since wait wanted : Int) (A : Option Addr) (n c mb : Nat) (gl : List Int) (i : Nat) (m g : Int) (hg : gl[i]? = some g) (hm : g < m) (hno : (i : Int) ≠ wanted ∨ (node ≠ 0 ∧ node ≠ i)) (w : World) (h0 : St w (· ∈ (allE [boxE b 64 [.int .i64 now, .int .i64 node, .int .i64 num, .int .i64 since, .bool true, .int .i64 wait, .int .i64 wanted, .slice A n c, .map (some mb)], ownE A n c 3 1 (gl.map fun g => [Value.int .i64 g])]).foot) [boxE b 64 [.int .i64 now, .int .i64 node, .int .i64 num, .int .i64 since, .bool true, .int .i64 wait, .int .i64 wanted, .slice A n c, .map (some mb)], ownE A n c 3 1 (gl.map fun g => [Value.int .i64 g])] w)  : Calls Try.prog 22 #[.pointer (some ⟨b, 0, none⟩), .agg #[.int .i64 1, .int .i64 (i : Int), .int .i64 m]] w (Gives w (· ∈ (allE [boxE b 64 [.int .i64 now, .int .i64 node, .int .i64 num, .int .i64 since, .bool true, .int .i64 wait, .int .i64 wanted, .slice A n c, .map (some mb)], ownE A n c 3 1 (gl.map fun g => [Value.int .i64 g])]).foot) (fun (_ : Unit) => .agg #[.int .i64 0, .int .i64 0, .int .i64 0]) (fun (_ : Unit) => True) (fun (_ : Unit) => [boxE b 64 [.int .i64 now, .int .i64 node, .int .i64 num, .int .i64 since, .bool true, .int .i64 wait, .int .i64 wanted, .slice A n c, .map (some mb)], ownE A n c 3 1 (((gl.set i m).map fun g => [Value.int .i64 g]))])) := by
 have hlen : gl.length = n := by have := (h0.ok _ (m1 : _ ∈ _)).1; simpa using this
 have hi := (List.getElem?_eq_some_iff.1 hg).1
 have hge : (gl.map fun g => [Value.int .i64 g])[i]? = some [Value.int .i64 g] := by simp [hg]
 refine calls_args Try.func22 rfl 70 Try.ntmps22 rfl h0 ?_
 refine tr_kp .all ?_
 refine tr_seq ?_
 -- region 0
 refine tr_plain ?_
 refine r_box [_, _, _] .none (.t m1) rfl (fun _ _ _ => trivial) rfl rfl (fun b3 => ?_)
 refine r_alloc [.int .i64 0, .int .i64 0, .int .i64 0] el45 rfl .none (fun _ _ _ => trivial) rfl rfl (fun b4 => ?_)
 refine tl_nil ?_
 refine qt_kp (.k (.k (.k (.d .all)))) ?_
 refine qt_then ?_
 refine tr_seq ?_
 refine tr_seq ?_
 -- region 1 draws
 refine tr_ord [(0, false), (1, false), (2, false), (3, false), (4, false), (5, false), (6, false), (7, false), (8, false), (9, false), (10, false)] [] _ _ (List.Sublist.refl _) (List.Sublist.refl _) mixedO (by kernel_rfl) ?_
 -- all early
 refine r_fieldAddr fd45_2 .none (.t m1) rfl rfl ?_
 refine r_load [_] ty3 .none (.t m0) (by first | (refine sees_c ?_; (repeat (first | exact hd | apply tl)); done) | (apply sees_own; apply sees_c; (repeat (first | exact hd | apply tl)); done) | exact sees_rc (by assumption)) rfl rfl (.one _) rfl rfl ?_
 refine r_move .none (.t m4) rfl rfl ?_
 refine r_nilCheckP .none (.t m0) rfl rfl ?_
 refine r_fieldAddr fd64_5 .none (.t m0) rfl rfl ?_
 refine r_load [_] ty40 .none (.t m0) (by first | (refine sees_c ?_; (repeat (first | exact hd | apply tl)); done) | (apply sees_own; apply sees_c; (repeat (first | exact hd | apply tl)); done) | exact sees_rc (by assumption)) rfl rfl (.one _) rfl rfl ?_
 refine r_fieldAddr fd45_1 .none (.t m7) rfl rfl ?_
 refine r_load [_] ty3 .none (.t m0) (by first | (refine sees_c ?_; (repeat (first | exact hd | apply tl)); done) | (apply sees_own; apply sees_c; (repeat (first | exact hd | apply tl)); done) | exact sees_rc (by assumption)) rfl rfl (.one _) rfl rfl ?_
 refine r_indexAddr sl40 (by first | (refine sees_c ?_; (repeat (first | exact hd | apply tl)); done) | (apply sees_own; apply sees_c; (repeat (first | exact hd | apply tl)); done) | exact sees_rc (by assumption)) .none (.t m2) (.t m0) (fun _ => by omega) rfl rfl ?_
 refine r_loadEl [_] ty3 (by first | (refine sees_c ?_; (repeat (first | exact hd | apply tl)); done) | (apply sees_own; apply sees_c; (repeat (first | exact hd | apply tl)); done) | exact sees_rc (by assumption)) .none (.t m0) (fun _ => hge) rfl rfl (.one _) rfl rfl ?_
 refine r_leq .none (.t m8) (.t m0) rfl rfl ?_
 refine tl_nil ?_
 refine qt_late (List.Sublist.refl _) ?_
 refine tl_nil ?_
 refine qt_kp (.k (.d (.d (.d (.d (.d (.d (.d (.d (.d (.d .all))))))))))) ?_
 refine qt_then ?_
 -- c0
 refine tr_cond (.t m0) (fun hc0 => ?_) (fun hc0 => ?_)
 · exfalso; first | (simp at hc0; done) | (simp only [Bool.and_eq_true, Bool.or_eq_true, Bool.not_eq_true', Bool.not_eq_false', Bool.and_eq_false_iff, Bool.or_eq_false_iff, decide_eq_true_eq, decide_eq_false_iff_not, beq_iff_eq, Bool.not_eq_true, Bool.not_eq_false] at hc0; omega) | (simp at hc0; omega)
 ·
  try simp only [Bool.and_eq_true, Bool.or_eq_true, Bool.not_eq_true', Bool.not_eq_false', Bool.and_eq_false_iff, Bool.or_eq_false_iff, decide_eq_true_eq, decide_eq_false_iff_not, beq_iff_eq, Bool.not_eq_true, Bool.not_eq_false] at hc0
  refine tr_skip ?_
  refine qt_then ?_
  refine tr_seq ?_
  -- region 3 draws
  refine tr_ord [(0, false), (1, false), (2, false), (3, false), (4, false), (5, false), (6, false), (7, false), (8, false)] [(9, true)] _ _ (List.Sublist.refl _) (.cons_cons _ (.cons_cons _ (.cons_cons _ (List.nil_sublist _)))) mixedO (by kernel_rfl) ?_
  refine r_move .none (.t m3) rfl rfl ?_
  refine r_nilCheckP .none (.t m0) rfl rfl ?_
  refine r_fieldAddr fd64_5 .none (.t m0) rfl rfl ?_
  refine r_load [_] ty40 .none (.t m0) (by first | (refine sees_c ?_; (repeat (first | exact hd | apply tl)); done) | (apply sees_own; apply sees_c; (repeat (first | exact hd | apply tl)); done) | exact sees_rc (by assumption)) rfl rfl (.one _) rfl rfl ?_
  refine r_fieldAddr fd45_1 .none (.t m6) rfl rfl ?_
  refine r_load [_] ty3 .none (.t m0) (by first | (refine sees_c ?_; (repeat (first | exact hd | apply tl)); done) | (apply sees_own; apply sees_c; (repeat (first | exact hd | apply tl)); done) | exact sees_rc (by assumption)) rfl rfl (.one _) rfl rfl ?_
  refine r_fieldAddr fd45_2 .none (.t m8) rfl rfl ?_
  refine r_load [_] ty3 .none (.t m0) (by first | (refine sees_c ?_; (repeat (first | exact hd | apply tl)); done) | (apply sees_own; apply sees_c; (repeat (first | exact hd | apply tl)); done) | exact sees_rc (by assumption)) rfl rfl (.one _) rfl rfl ?_
  refine r_indexAddr sl40 (by first | (refine sees_c ?_; (repeat (first | exact hd | apply tl)); done) | (apply sees_own; apply sees_c; (repeat (first | exact hd | apply tl)); done) | exact sees_rc (by assumption)) .none (.t m4) (.t m2) (fun _ => by omega) rfl rfl ?_
  refine tl_nil ?_
  refine qt_late (.cons_cons _ (.cons_cons _ (.cons_cons _ (List.nil_sublist _)))) ?_
  refine r_storeEl [_] ty3 (by decide) .none (.t m0) (.t m1) (by repeat (first | exact .hd | apply Take.tl)) hge rfl rfl (by decide) rfl (keepC (.cons _ (List.Sublist.refl _))) ?_
  refine tl_nil ?_
  refine qt_kp (.d (.d (.d (.d (.d (.d (.d (.d (.d (.d .all)))))))))) ?_
  refine qt_then ?_
  refine tr_seq ?_
  refine tr_seq ?_
  -- region 4 draws
  refine tr_ord [(0, false), (1, false), (2, false), (3, false), (4, false), (5, false), (6, false), (7, false), (8, false), (9, false), (10, false), (11, false), (12, false), (13, false), (14, false), (15, false), (16, false), (17, false), (18, false), (19, false), (20, false), (21, false), (22, false), (23, false), (24, false)] [] _ _ (List.Sublist.refl _) (List.Sublist.refl _) mixedO (by kernel_rfl) ?_
  -- all early
  refine r_fieldAddr fd45_1 .none (.t m1) rfl rfl ?_
  refine r_load [_] ty3 .none (.t m0) (by first | (refine sees_c ?_; (repeat (first | exact hd | apply tl)); done) | (apply sees_own; apply sees_c; (repeat (first | exact hd | apply tl)); done) | exact sees_rc (by assumption)) rfl rfl (.one _) rfl rfl ?_
  refine r_move .none (.t m4) rfl rfl ?_
  refine r_nilCheckP .none (.t m0) rfl rfl ?_
  refine r_fieldAddr fd64_4 .none (.t m0) rfl rfl ?_
  refine r_load [_] ty3 .none (.t m0) (by first | (refine sees_c ?_; (repeat (first | exact hd | apply tl)); done) | (apply sees_own; apply sees_c; (repeat (first | exact hd | apply tl)); done) | exact sees_rc (by assumption)) rfl rfl (.one _) rfl rfl ?_
  refine r_neq .none (.t m4) (.t m0) rfl rfl ?_
  refine r_move .none (.t m0) rfl rfl ?_
  refine r_move (.neg rfl m0) (.t m10) rfl rfl ?_
  refine r_nilCheckP (.neg rfl m1) (.s m0) rfl rfl ?_
  refine r_fieldAddr fd64_1 (.neg rfl m2) (.s m0) rfl rfl ?_
  refine r_fieldAddr fd61_0 (.neg rfl m3) (.s m0) rfl rfl ?_
  refine r_load [_] ty3 (.neg rfl m4) (.s m0) (by first | (refine sees_c ?_; (repeat (first | exact hd | apply tl)); done) | (apply sees_own; apply sees_c; (repeat (first | exact hd | apply tl)); done) | exact sees_rc (by assumption)) rfl rfl (.one _) rfl rfl ?_
  refine r_neq (.neg rfl m5) (.s m0) (.c _ _) rfl rfl ?_
  refine r_move (.neg rfl m6) (.s m0) rfl rfl ?_
  refine r_move (.pos2 rfl m0) (.t m17) rfl rfl ?_
  refine r_nilCheckP (.pos2 rfl m1) (.s m0) rfl rfl ?_
  refine r_fieldAddr fd64_1 (.pos2 rfl m2) (.s m0) rfl rfl ?_
  refine r_fieldAddr fd61_0 (.pos2 rfl m3) (.s m0) rfl rfl ?_
  refine r_load [_] ty3 (.pos2 rfl m4) (.s m0) (by first | (refine sees_c ?_; (repeat (first | exact hd | apply tl)); done) | (apply sees_own; apply sees_c; (repeat (first | exact hd | apply tl)); done) | exact sees_rc (by assumption)) rfl rfl (.one _) rfl rfl ?_
  refine r_fieldAddr fd45_1 (.pos2 rfl m5) (.t m21) rfl rfl ?_
  refine r_load [_] ty3 (.pos2 rfl m6) (.s m0) (by first | (refine sees_c ?_; (repeat (first | exact hd | apply tl)); done) | (apply sees_own; apply sees_c; (repeat (first | exact hd | apply tl)); done) | exact sees_rc (by assumption)) rfl rfl (.one _) rfl rfl ?_
  refine r_neq (.pos2 rfl m7) (.s m2) (.s m0) rfl rfl ?_
  refine r_and (.neg rfl m15) (.s m8) (.s m0) rfl rfl ?_
  refine r_or .none (.t m16) (.s m0) rfl rfl ?_
  refine tl_nil ?_
  refine qt_late (List.Sublist.refl _) ?_
  refine tl_nil ?_
  refine qt_kp (.k (.d (.d (.d (.d (.d (.d (.d (.d (.d (.d (.d (.d (.d (.d (.d (.d (.d (.d (.d (.d (.d (.d (.d (.d .all))))))))))))))))))))))))) ?_
  refine qt_then ?_
  -- c1
  refine tr_cond (.t m0) (fun hc1 => ?_) (fun hc1 => ?_)
  ·
   try simp only [Bool.and_eq_true, Bool.or_eq_true, Bool.not_eq_true', Bool.not_eq_false', Bool.and_eq_false_iff, Bool.or_eq_false_iff, decide_eq_true_eq, decide_eq_false_iff_not, beq_iff_eq, Bool.not_eq_true, Bool.not_eq_false] at hc1
   refine tr_seq ?_
   -- region 5
   refine tr_plain ?_
   refine r_build [_, _, _] bd45 .none .nil rfl rfl rfl ?_
   refine r_store [_, _, _] ty45 .none (.t m2) (.t m0) (Take.perm (by repeat (first | exact .hd | apply Take.tl))) rfl rfl rfl rfl (fun _ _ => trivial) ?_
   refine tl_nil ?_
   refine qt_kp (.d (.d .all)) ?_
   refine qt_then ?_
   refine tr_ret ?_
   refine qt_then_ret ?_
   refine qt_fin_ret rfl Try.results22 (.c [_, _, _] ty45 m0 (by repeat (first | exact hd | apply tl)) rfl rfl (.agg _) .nil) (fun w hw => ?_)
   refine ⟨(), trivial, rfl, ?_⟩
   rw [List.map_set]
   exact hw.kl (.cons (by repeat (first | exact .hd | apply Take.tl)) (.cons (by repeat (first | exact .hd | apply Take.tl)) .nil))
  · exfalso; first | (simp at hc1; done) | (simp only [Bool.and_eq_true, Bool.or_eq_true, Bool.not_eq_true', Bool.not_eq_false', Bool.and_eq_false_iff, Bool.or_eq_false_iff, decide_eq_true_eq, decide_eq_false_iff_not, beq_iff_eq, Bool.not_eq_true, Bool.not_eq_false] at hc1; omega) | (simp at hc1; omega)
theorem ask_yes (b : Nat) (now node num since wait wanted : Int) (A : Option Addr) (n c mb : Nat) (gl : List Int) (i : Nat) (m g : Int) (hg : gl[i]? = some g) (hm : g < m) (hyes : (i : Int) = wanted ∧ (node = 0 ∨ node = i)) (w : World) (h0 : St w (· ∈ (allE [boxE b 64 [.int .i64 now, .int .i64 node, .int .i64 num, .int .i64 since, .bool true, .int .i64 wait, .int .i64 wanted, .slice A n c, .map (some mb)], ownE A n c 3 1 (gl.map fun g => [Value.int .i64 g])]).foot) [boxE b 64 [.int .i64 now, .int .i64 node, .int .i64 num, .int .i64 since, .bool true, .int .i64 wait, .int .i64 wanted, .slice A n c, .map (some mb)], ownE A n c 3 1 (gl.map fun g => [Value.int .i64 g])] w)  : Calls Try.prog 22 #[.pointer (some ⟨b, 0, none⟩), .agg #[.int .i64 1, .int .i64 (i : Int), .int .i64 m]] w (Gives w (· ∈ (allE [boxE b 64 [.int .i64 now, .int .i64 node, .int .i64 num, .int .i64 since, .bool true, .int .i64 wait, .int .i64 wanted, .slice A n c, .map (some mb)], ownE A n c 3 1 (gl.map fun g => [Value.int .i64 g])]).foot) (fun (_ : Unit) => .agg #[.int .i64 2, .int .i64 (i : Int), .int .i64 m]) (fun (_ : Unit) => True) (fun (_ : Unit) => [boxE b 64 [.int .i64 now, .int .i64 (i : Int), .int .i64 m, .int .i64 now, .bool true, .int .i64 wait, .int .i64 wanted, .slice A n c, .map (some mb)], ownE A n c 3 1 (((gl.set i m).map fun g => [Value.int .i64 g]))])) := by
 have hlen : gl.length = n := by have := (h0.ok _ (m1 : _ ∈ _)).1; simpa using this
 have hi := (List.getElem?_eq_some_iff.1 hg).1
 have hge : (gl.map fun g => [Value.int .i64 g])[i]? = some [Value.int .i64 g] := by simp [hg]
 refine calls_args Try.func22 rfl 70 Try.ntmps22 rfl h0 ?_
 refine tr_kp .all ?_
 refine tr_seq ?_
 -- region 0
 refine tr_plain ?_
 refine r_box [_, _, _] .none (.t m1) rfl (fun _ _ _ => trivial) rfl rfl (fun b3 => ?_)
 refine r_alloc [.int .i64 0, .int .i64 0, .int .i64 0] el45 rfl .none (fun _ _ _ => trivial) rfl rfl (fun b4 => ?_)
 refine tl_nil ?_
 refine qt_kp (.k (.k (.k (.d .all)))) ?_
 refine qt_then ?_
 refine tr_seq ?_
 refine tr_seq ?_
 -- region 1 draws
 refine tr_ord [(0, false), (1, false), (2, false), (3, false), (4, false), (5, false), (6, false), (7, false), (8, false), (9, false), (10, false)] [] _ _ (List.Sublist.refl _) (List.Sublist.refl _) mixedO (by kernel_rfl) ?_
 -- all early
 refine r_fieldAddr fd45_2 .none (.t m1) rfl rfl ?_
 refine r_load [_] ty3 .none (.t m0) (by first | (refine sees_c ?_; (repeat (first | exact hd | apply tl)); done) | (apply sees_own; apply sees_c; (repeat (first | exact hd | apply tl)); done) | exact sees_rc (by assumption)) rfl rfl (.one _) rfl rfl ?_
 refine r_move .none (.t m4) rfl rfl ?_
 refine r_nilCheckP .none (.t m0) rfl rfl ?_
 refine r_fieldAddr fd64_5 .none (.t m0) rfl rfl ?_
 refine r_load [_] ty40 .none (.t m0) (by first | (refine sees_c ?_; (repeat (first | exact hd | apply tl)); done) | (apply sees_own; apply sees_c; (repeat (first | exact hd | apply tl)); done) | exact sees_rc (by assumption)) rfl rfl (.one _) rfl rfl ?_
 refine r_fieldAddr fd45_1 .none (.t m7) rfl rfl ?_
 refine r_load [_] ty3 .none (.t m0) (by first | (refine sees_c ?_; (repeat (first | exact hd | apply tl)); done) | (apply sees_own; apply sees_c; (repeat (first | exact hd | apply tl)); done) | exact sees_rc (by assumption)) rfl rfl (.one _) rfl rfl ?_
 refine r_indexAddr sl40 (by first | (refine sees_c ?_; (repeat (first | exact hd | apply tl)); done) | (apply sees_own; apply sees_c; (repeat (first | exact hd | apply tl)); done) | exact sees_rc (by assumption)) .none (.t m2) (.t m0) (fun _ => by omega) rfl rfl ?_
 refine r_loadEl [_] ty3 (by first | (refine sees_c ?_; (repeat (first | exact hd | apply tl)); done) | (apply sees_own; apply sees_c; (repeat (first | exact hd | apply tl)); done) | exact sees_rc (by assumption)) .none (.t m0) (fun _ => hge) rfl rfl (.one _) rfl rfl ?_
 refine r_leq .none (.t m8) (.t m0) rfl rfl ?_
 refine tl_nil ?_
 refine qt_late (List.Sublist.refl _) ?_
 refine tl_nil ?_
 refine qt_kp (.k (.d (.d (.d (.d (.d (.d (.d (.d (.d (.d .all))))))))))) ?_
 refine qt_then ?_
 -- c0
 refine tr_cond (.t m0) (fun hc0 => ?_) (fun hc0 => ?_)
 · exfalso; first | (simp at hc0; done) | (simp only [Bool.and_eq_true, Bool.or_eq_true, Bool.not_eq_true', Bool.not_eq_false', Bool.and_eq_false_iff, Bool.or_eq_false_iff, decide_eq_true_eq, decide_eq_false_iff_not, beq_iff_eq, Bool.not_eq_true, Bool.not_eq_false] at hc0; omega) | (simp at hc0; omega)
 ·
  try simp only [Bool.and_eq_true, Bool.or_eq_true, Bool.not_eq_true', Bool.not_eq_false', Bool.and_eq_false_iff, Bool.or_eq_false_iff, decide_eq_true_eq, decide_eq_false_iff_not, beq_iff_eq, Bool.not_eq_true, Bool.not_eq_false] at hc0
  refine tr_skip ?_
  refine qt_then ?_
  refine tr_seq ?_
  -- region 3 draws
  refine tr_ord [(0, false), (1, false), (2, false), (3, false), (4, false), (5, false), (6, false), (7, false), (8, false)] [(9, true)] _ _ (List.Sublist.refl _) (.cons_cons _ (.cons_cons _ (.cons_cons _ (List.nil_sublist _)))) mixedO (by kernel_rfl) ?_
  refine r_move .none (.t m3) rfl rfl ?_
  refine r_nilCheckP .none (.t m0) rfl rfl ?_
  refine r_fieldAddr fd64_5 .none (.t m0) rfl rfl ?_
  refine r_load [_] ty40 .none (.t m0) (by first | (refine sees_c ?_; (repeat (first | exact hd | apply tl)); done) | (apply sees_own; apply sees_c; (repeat (first | exact hd | apply tl)); done) | exact sees_rc (by assumption)) rfl rfl (.one _) rfl rfl ?_
  refine r_fieldAddr fd45_1 .none (.t m6) rfl rfl ?_
  refine r_load [_] ty3 .none (.t m0) (by first | (refine sees_c ?_; (repeat (first | exact hd | apply tl)); done) | (apply sees_own; apply sees_c; (repeat (first | exact hd | apply tl)); done) | exact sees_rc (by assumption)) rfl rfl (.one _) rfl rfl ?_
  refine r_fieldAddr fd45_2 .none (.t m8) rfl rfl ?_
  refine r_load [_] ty3 .none (.t m0) (by first | (refine sees_c ?_; (repeat (first | exact hd | apply tl)); done) | (apply sees_own; apply sees_c; (repeat (first | exact hd | apply tl)); done) | exact sees_rc (by assumption)) rfl rfl (.one _) rfl rfl ?_
  refine r_indexAddr sl40 (by first | (refine sees_c ?_; (repeat (first | exact hd | apply tl)); done) | (apply sees_own; apply sees_c; (repeat (first | exact hd | apply tl)); done) | exact sees_rc (by assumption)) .none (.t m4) (.t m2) (fun _ => by omega) rfl rfl ?_
  refine tl_nil ?_
  refine qt_late (.cons_cons _ (.cons_cons _ (.cons_cons _ (List.nil_sublist _)))) ?_
  refine r_storeEl [_] ty3 (by decide) .none (.t m0) (.t m1) (by repeat (first | exact .hd | apply Take.tl)) hge rfl rfl (by decide) rfl (keepC (.cons _ (List.Sublist.refl _))) ?_
  refine tl_nil ?_
  refine qt_kp (.d (.d (.d (.d (.d (.d (.d (.d (.d (.d .all)))))))))) ?_
  refine qt_then ?_
  refine tr_seq ?_
  refine tr_seq ?_
  -- region 4 draws
  refine tr_ord [(0, false), (1, false), (2, false), (3, false), (4, false), (5, false), (6, false), (7, false), (8, false), (9, false), (10, false), (11, false), (12, false), (13, false), (14, false), (15, false), (16, false), (17, false), (18, false), (19, false), (20, false), (21, false), (22, false), (23, false), (24, false)] [] _ _ (List.Sublist.refl _) (List.Sublist.refl _) mixedO (by kernel_rfl) ?_
  -- all early
  refine r_fieldAddr fd45_1 .none (.t m1) rfl rfl ?_
  refine r_load [_] ty3 .none (.t m0) (by first | (refine sees_c ?_; (repeat (first | exact hd | apply tl)); done) | (apply sees_own; apply sees_c; (repeat (first | exact hd | apply tl)); done) | exact sees_rc (by assumption)) rfl rfl (.one _) rfl rfl ?_
  refine r_move .none (.t m4) rfl rfl ?_
  refine r_nilCheckP .none (.t m0) rfl rfl ?_
  refine r_fieldAddr fd64_4 .none (.t m0) rfl rfl ?_
  refine r_load [_] ty3 .none (.t m0) (by first | (refine sees_c ?_; (repeat (first | exact hd | apply tl)); done) | (apply sees_own; apply sees_c; (repeat (first | exact hd | apply tl)); done) | exact sees_rc (by assumption)) rfl rfl (.one _) rfl rfl ?_
  refine r_neq .none (.t m4) (.t m0) rfl rfl ?_
  refine r_move .none (.t m0) rfl rfl ?_
  refine r_move (.neg rfl m0) (.t m10) rfl rfl ?_
  refine r_nilCheckP (.neg rfl m1) (.s m0) rfl rfl ?_
  refine r_fieldAddr fd64_1 (.neg rfl m2) (.s m0) rfl rfl ?_
  refine r_fieldAddr fd61_0 (.neg rfl m3) (.s m0) rfl rfl ?_
  refine r_load [_] ty3 (.neg rfl m4) (.s m0) (by first | (refine sees_c ?_; (repeat (first | exact hd | apply tl)); done) | (apply sees_own; apply sees_c; (repeat (first | exact hd | apply tl)); done) | exact sees_rc (by assumption)) rfl rfl (.one _) rfl rfl ?_
  refine r_neq (.neg rfl m5) (.s m0) (.c _ _) rfl rfl ?_
  refine r_move (.neg rfl m6) (.s m0) rfl rfl ?_
  refine r_move (.pos2 rfl m0) (.t m17) rfl rfl ?_
  refine r_nilCheckP (.pos2 rfl m1) (.s m0) rfl rfl ?_
  refine r_fieldAddr fd64_1 (.pos2 rfl m2) (.s m0) rfl rfl ?_
  refine r_fieldAddr fd61_0 (.pos2 rfl m3) (.s m0) rfl rfl ?_
  refine r_load [_] ty3 (.pos2 rfl m4) (.s m0) (by first | (refine sees_c ?_; (repeat (first | exact hd | apply tl)); done) | (apply sees_own; apply sees_c; (repeat (first | exact hd | apply tl)); done) | exact sees_rc (by assumption)) rfl rfl (.one _) rfl rfl ?_
  refine r_fieldAddr fd45_1 (.pos2 rfl m5) (.t m21) rfl rfl ?_
  refine r_load [_] ty3 (.pos2 rfl m6) (.s m0) (by first | (refine sees_c ?_; (repeat (first | exact hd | apply tl)); done) | (apply sees_own; apply sees_c; (repeat (first | exact hd | apply tl)); done) | exact sees_rc (by assumption)) rfl rfl (.one _) rfl rfl ?_
  refine r_neq (.pos2 rfl m7) (.s m2) (.s m0) rfl rfl ?_
  refine r_and (.neg rfl m15) (.s m8) (.s m0) rfl rfl ?_
  refine r_or .none (.t m16) (.s m0) rfl rfl ?_
  refine tl_nil ?_
  refine qt_late (List.Sublist.refl _) ?_
  refine tl_nil ?_
  refine qt_kp (.k (.d (.d (.d (.d (.d (.d (.d (.d (.d (.d (.d (.d (.d (.d (.d (.d (.d (.d (.d (.d (.d (.d (.d (.d .all))))))))))))))))))))))))) ?_
  refine qt_then ?_
  -- c1
  refine tr_cond (.t m0) (fun hc1 => ?_) (fun hc1 => ?_)
  · exfalso; first | (simp at hc1; done) | (simp only [Bool.and_eq_true, Bool.or_eq_true, Bool.not_eq_true', Bool.not_eq_false', Bool.and_eq_false_iff, Bool.or_eq_false_iff, decide_eq_true_eq, decide_eq_false_iff_not, beq_iff_eq, Bool.not_eq_true, Bool.not_eq_false] at hc1; omega) | (simp at hc1; omega)
  ·
   try simp only [Bool.and_eq_true, Bool.or_eq_true, Bool.not_eq_true', Bool.not_eq_false', Bool.and_eq_false_iff, Bool.or_eq_false_iff, decide_eq_true_eq, decide_eq_false_iff_not, beq_iff_eq, Bool.not_eq_true, Bool.not_eq_false] at hc1
   refine tr_skip ?_
   refine qt_then ?_
   refine tr_seq ?_
   -- region 6 draws
   refine tr_ord [(0, false), (1, false), (2, false), (3, false), (4, false), (5, false), (6, false), (7, false), (8, false), (9, false), (10, false), (11, false), (12, false)] [(13, true)] _ _ (List.Sublist.refl _) (.cons_cons _ (.cons_cons _ (.cons_cons _ (List.nil_sublist _)))) mixedO (by kernel_rfl) ?_
   refine r_move .none (.t m3) rfl rfl ?_
   refine r_fieldAddr fd45_1 .none (.t m3) rfl rfl ?_
   refine r_load [_] ty3 .none (.t m0) (by first | (refine sees_c ?_; (repeat (first | exact hd | apply tl)); done) | (apply sees_own; apply sees_c; (repeat (first | exact hd | apply tl)); done) | exact sees_rc (by assumption)) rfl rfl (.one _) rfl rfl ?_
   refine r_fieldAddr fd45_2 .none (.t m5) rfl rfl ?_
   refine r_load [_] ty3 .none (.t m0) (by first | (refine sees_c ?_; (repeat (first | exact hd | apply tl)); done) | (apply sees_own; apply sees_c; (repeat (first | exact hd | apply tl)); done) | exact sees_rc (by assumption)) rfl rfl (.one _) rfl rfl ?_
   refine r_move .none (.t m8) rfl rfl ?_
   refine r_nilCheckP .none (.t m0) rfl rfl ?_
   refine r_fieldAddr fd64_0 .none (.t m0) rfl rfl ?_
   refine r_fieldAddr fd59_0 .none (.t m0) rfl rfl ?_
   refine r_load [_] ty3 .none (.t m0) (by first | (refine sees_c ?_; (repeat (first | exact hd | apply tl)); done) | (apply sees_own; apply sees_c; (repeat (first | exact hd | apply tl)); done) | exact sees_rc (by assumption)) rfl rfl (.one _) rfl rfl ?_
   refine r_build [_, _, _] bd61 .none (.cons (.t m7) (.cons (.t m5) (.cons (.t m0) .nil))) rfl rfl rfl ?_
   refine r_nilCheckP .none (.t m10) rfl rfl ?_
   refine r_fieldAddr fd64_1 .none (.t m0) rfl rfl ?_
   refine tl_nil ?_
   refine qt_late (.cons_cons _ (.cons_cons _ (.cons_cons _ (List.nil_sublist _)))) ?_
   refine r_store [_, _, _, _, _, _, _, _, _] ty61 .none (.t m0) (.t m2) (Take.perm (by repeat (first | exact .hd | apply Take.tl))) rfl rfl rfl rfl (keepC (.cons _ (List.Sublist.refl _))) ?_
   refine tl_nil ?_
   refine qt_kp (.d (.d (.d (.d (.d (.d (.d (.d (.d (.d (.d (.d (.d (.d (.k (.k (.d .all))))))))))))))))) ?_
   refine qt_then ?_
   refine tr_seq ?_
   -- region 7
   refine tr_plain ?_
   refine r_fieldAddr fd45_1 .none (.t m1) rfl rfl ?_
   refine r_load [_] ty3 .none (.t m0) (by first | (refine sees_l ?_; (repeat (first | exact hd | apply tl)); done) | (apply sees_own; apply sees_l; (repeat (first | exact hd | apply tl)); done) | exact sees_r (by assumption)) rfl rfl (.one _) rfl rfl ?_
   refine r_fieldAddr fd45_2 .none (.t m3) rfl rfl ?_
   refine r_load [_] ty3 .none (.t m0) (by first | (refine sees_l ?_; (repeat (first | exact hd | apply tl)); done) | (apply sees_own; apply sees_l; (repeat (first | exact hd | apply tl)); done) | exact sees_r (by assumption)) rfl rfl (.one _) rfl rfl ?_
   refine r_build [_, _, _] bd45 .none (.cons (.c _ _) (.cons (.t m2) (.cons (.t m0) .nil))) rfl rfl rfl ?_
   refine r_store [_, _, _] ty45 .none (.t m5) (.t m0) (Take.perm (by repeat (first | exact .hd | apply Take.tl))) rfl rfl rfl rfl (fun _ _ => trivial) ?_
   refine tl_nil ?_
   refine qt_kp (.d (.d (.d (.d (.d (.k (.d .all))))))) ?_
   refine qt_then ?_
   refine tr_ret ?_
   refine qt_fin_ret rfl Try.results22 (.c [_, _, _] ty45 m0 (by repeat (first | exact hd | apply tl)) rfl rfl (.agg _) .nil) (fun w hw => ?_)
   refine ⟨(), trivial, rfl, ?_⟩
   rw [List.map_set]
   exact hw.kl (.cons (by repeat (first | exact .hd | apply Take.tl)) (.cons (by repeat (first | exact .hd | apply Take.tl)) .nil))
theorem back_yes (b : Nat) (now node num since wait wanted : Int) (A : Option Addr) (n c mb : Nat) (gl : List Int) (i : Nat) (m g : Int) (hg : gl[i]? = some g) (hc : node = i ∧ num ≤ m) (w : World) (h0 : St w (· ∈ (allE [boxE b 64 [.int .i64 now, .int .i64 node, .int .i64 num, .int .i64 since, .bool true, .int .i64 wait, .int .i64 wanted, .slice A n c, .map (some mb)], ownE A n c 3 1 (gl.map fun g => [Value.int .i64 g])]).foot) [boxE b 64 [.int .i64 now, .int .i64 node, .int .i64 num, .int .i64 since, .bool true, .int .i64 wait, .int .i64 wanted, .slice A n c, .map (some mb)], ownE A n c 3 1 (gl.map fun g => [Value.int .i64 g])] w)  : Calls Try.prog 23 #[.pointer (some ⟨b, 0, none⟩), .agg #[.int .i64 3, .int .i64 (i : Int), .int .i64 m]] w (Gives w (· ∈ (allE [boxE b 64 [.int .i64 now, .int .i64 node, .int .i64 num, .int .i64 since, .bool true, .int .i64 wait, .int .i64 wanted, .slice A n c, .map (some mb)], ownE A n c 3 1 (gl.map fun g => [Value.int .i64 g])]).foot) (fun (_ : Unit) => .agg #[.int .i64 0, .int .i64 0, .int .i64 0]) (fun (_ : Unit) => True) (fun (_ : Unit) => [boxE b 64 [.int .i64 now, .int .i64 0, .int .i64 0, .int .i64 0, .bool true, .int .i64 wait, .int .i64 wanted, .slice A n c, .map (some mb)], ownE A n c 3 1 (((gl.set i (max g m)).map fun g => [Value.int .i64 g]))])) := by
 have hlen : gl.length = n := by have := (h0.ok _ (m1 : _ ∈ _)).1; simpa using this
 have hi := (List.getElem?_eq_some_iff.1 hg).1
 have hge : (gl.map fun g => [Value.int .i64 g])[i]? = some [Value.int .i64 g] := by simp [hg]
 refine calls_args Try.func23 rfl 46 Try.ntmps23 rfl h0 ?_
 refine tr_kp .all ?_
 refine tr_seq ?_
 -- region 0
 refine tr_plain ?_
 refine r_box [_, _, _] .none (.t m1) rfl (fun _ _ _ => trivial) rfl rfl (fun b3 => ?_)
 refine r_alloc [.int .i64 0, .int .i64 0, .int .i64 0] el45 rfl .none (fun _ _ _ => trivial) rfl rfl (fun b4 => ?_)
 refine tl_nil ?_
 refine qt_kp (.k (.k (.k (.d .all)))) ?_
 refine qt_then ?_
 refine tr_seq ?_
 -- region 1 draws
 refine tr_ord [(0, false), (1, false), (2, false), (3, false), (4, false), (5, false), (6, false), (7, false), (8, false), (9, false), (10, false), (11, false), (12, false), (13, false), (14, false), (15, false), (16, false), (17, false)] [(18, true)] _ _ (List.Sublist.refl _) (.cons_cons _ (.cons_cons _ (.cons_cons _ (List.nil_sublist _)))) mixedO (by kernel_rfl) ?_
 refine r_move .none (.t m2) rfl rfl ?_
 refine r_nilCheckP .none (.t m0) rfl rfl ?_
 refine r_fieldAddr fd64_5 .none (.t m0) rfl rfl ?_
 refine r_load [_] ty40 .none (.t m0) (by first | (refine sees_c ?_; (repeat (first | exact hd | apply tl)); done) | (apply sees_own; apply sees_c; (repeat (first | exact hd | apply tl)); done) | exact sees_rc (by assumption)) rfl rfl (.one _) rfl rfl ?_
 refine r_fieldAddr fd45_1 .none (.t m5) rfl rfl ?_
 refine r_load [_] ty3 .none (.t m0) (by first | (refine sees_c ?_; (repeat (first | exact hd | apply tl)); done) | (apply sees_own; apply sees_c; (repeat (first | exact hd | apply tl)); done) | exact sees_rc (by assumption)) rfl rfl (.one _) rfl rfl ?_
 refine r_move .none (.t m8) rfl rfl ?_
 refine r_nilCheckP .none (.t m0) rfl rfl ?_
 refine r_fieldAddr fd64_5 .none (.t m0) rfl rfl ?_
 refine r_load [_] ty40 .none (.t m0) (by first | (refine sees_c ?_; (repeat (first | exact hd | apply tl)); done) | (apply sees_own; apply sees_c; (repeat (first | exact hd | apply tl)); done) | exact sees_rc (by assumption)) rfl rfl (.one _) rfl rfl ?_
 refine r_fieldAddr fd45_1 .none (.t m11) rfl rfl ?_
 refine r_load [_] ty3 .none (.t m0) (by first | (refine sees_c ?_; (repeat (first | exact hd | apply tl)); done) | (apply sees_own; apply sees_c; (repeat (first | exact hd | apply tl)); done) | exact sees_rc (by assumption)) rfl rfl (.one _) rfl rfl ?_
 refine r_indexAddr sl40 (by first | (refine sees_c ?_; (repeat (first | exact hd | apply tl)); done) | (apply sees_own; apply sees_c; (repeat (first | exact hd | apply tl)); done) | exact sees_rc (by assumption)) .none (.t m2) (.t m0) (fun _ => by omega) rfl rfl ?_
 refine r_loadEl [_] ty3 (by first | (refine sees_c ?_; (repeat (first | exact hd | apply tl)); done) | (apply sees_own; apply sees_c; (repeat (first | exact hd | apply tl)); done) | exact sees_rc (by assumption)) .none (.t m0) (fun _ => hge) rfl rfl (.one _) rfl rfl ?_
 refine r_fieldAddr fd45_2 .none (.t m15) rfl rfl ?_
 refine r_load [_] ty3 .none (.t m0) (by first | (refine sees_c ?_; (repeat (first | exact hd | apply tl)); done) | (apply sees_own; apply sees_c; (repeat (first | exact hd | apply tl)); done) | exact sees_rc (by assumption)) rfl rfl (.one _) rfl rfl ?_
 refine r_maxI .none (.t m2) (.t m0) rfl rfl ?_
 refine r_indexAddr sl40 (by first | (refine sees_c ?_; (repeat (first | exact hd | apply tl)); done) | (apply sees_own; apply sees_c; (repeat (first | exact hd | apply tl)); done) | exact sees_rc (by assumption)) .none (.t m13) (.t m11) (fun _ => by omega) rfl rfl ?_
 refine tl_nil ?_
 refine qt_late (.cons_cons _ (.cons_cons _ (.cons_cons _ (List.nil_sublist _)))) ?_
 refine r_storeEl [_] ty3 (by decide) .none (.t m0) (.t m1) (by repeat (first | exact .hd | apply Take.tl)) hge rfl rfl (by decide) rfl (keepC (.cons _ (List.Sublist.refl _))) ?_
 refine tl_nil ?_
 refine qt_kp (.d (.d (.d (.d (.d (.d (.d (.d (.d (.d (.d (.d (.d (.d (.d (.d (.d (.d .all)))))))))))))))))) ?_
 refine qt_then ?_
 refine tr_seq ?_
 refine tr_seq ?_
 -- region 2 draws
 refine tr_ord [(0, false), (1, false), (2, false), (3, false), (4, false), (5, false), (6, false), (7, false), (8, false), (9, false), (10, false), (11, false), (12, false), (13, false), (14, false), (15, false), (16, false), (17, false)] [] _ _ (List.Sublist.refl _) (List.Sublist.refl _) mixedO (by kernel_rfl) ?_
 -- all early
 refine r_move .none (.t m2) rfl rfl ?_
 refine r_nilCheckP .none (.t m0) rfl rfl ?_
 refine r_fieldAddr fd64_1 .none (.t m0) rfl rfl ?_
 refine r_fieldAddr fd61_0 .none (.t m0) rfl rfl ?_
 refine r_load [_] ty3 .none (.t m0) (by first | (refine sees_c ?_; (repeat (first | exact hd | apply tl)); done) | (apply sees_own; apply sees_c; (repeat (first | exact hd | apply tl)); done) | exact sees_rc (by assumption)) rfl rfl (.one _) rfl rfl ?_
 refine r_fieldAddr fd45_1 .none (.t m6) rfl rfl ?_
 refine r_load [_] ty3 .none (.t m0) (by first | (refine sees_c ?_; (repeat (first | exact hd | apply tl)); done) | (apply sees_own; apply sees_c; (repeat (first | exact hd | apply tl)); done) | exact sees_rc (by assumption)) rfl rfl (.one _) rfl rfl ?_
 refine r_eql .none (.t m2) (.t m0) rfl rfl ?_
 refine r_move .none (.t m0) rfl rfl ?_
 refine r_move (.pos rfl m0) (.t m11) rfl rfl ?_
 refine r_nilCheckP (.pos rfl m1) (.s m0) rfl rfl ?_
 refine r_fieldAddr fd64_1 (.pos rfl m2) (.s m0) rfl rfl ?_
 refine r_fieldAddr fd61_1 (.pos rfl m3) (.s m0) rfl rfl ?_
 refine r_load [_] ty3 (.pos rfl m4) (.s m0) (by first | (refine sees_c ?_; (repeat (first | exact hd | apply tl)); done) | (apply sees_own; apply sees_c; (repeat (first | exact hd | apply tl)); done) | exact sees_rc (by assumption)) rfl rfl (.one _) rfl rfl ?_
 refine r_fieldAddr fd45_2 (.pos rfl m5) (.t m15) rfl rfl ?_
 refine r_load [_] ty3 (.pos rfl m6) (.s m0) (by first | (refine sees_c ?_; (repeat (first | exact hd | apply tl)); done) | (apply sees_own; apply sees_c; (repeat (first | exact hd | apply tl)); done) | exact sees_rc (by assumption)) rfl rfl (.one _) rfl rfl ?_
 refine r_leq (.pos rfl m7) (.s m2) (.s m0) rfl rfl ?_
 refine r_and .none (.t m8) (.s m0) rfl rfl ?_
 refine tl_nil ?_
 refine qt_late (List.Sublist.refl _) ?_
 refine tl_nil ?_
 refine qt_kp (.k (.d (.d (.d (.d (.d (.d (.d (.d (.d (.d (.d (.d (.d (.d (.d (.d (.d (.k (.d .all)))))))))))))))))))) ?_
 refine qt_then ?_
 -- c0
 refine tr_cond (.t m0) (fun hc0 => ?_) (fun hc0 => ?_)
 ·
  try simp only [Bool.and_eq_true, Bool.or_eq_true, Bool.not_eq_true', Bool.not_eq_false', Bool.and_eq_false_iff, Bool.or_eq_false_iff, decide_eq_true_eq, decide_eq_false_iff_not, beq_iff_eq, Bool.not_eq_true, Bool.not_eq_false] at hc0
  -- region 3
  refine tr_plain ?_
  refine r_move .none (.t m2) rfl rfl ?_
  refine r_build [_, _, _] bd61 .none .nil rfl rfl rfl ?_
  refine r_nilCheckP .none (.t m1) rfl rfl ?_
  refine r_fieldAddr fd64_1 .none (.t m0) rfl rfl ?_
  refine r_store [_, _, _, _, _, _, _, _, _] ty61 .none (.t m0) (.t m2) (Take.perm (by repeat (first | exact .hd | apply Take.tl))) rfl rfl rfl rfl (fun _ _ => trivial) ?_
  refine tl_nil ?_
  refine qt_kp (.d (.d (.d (.d (.d (.k (.d .all))))))) ?_
  refine qt_then ?_
  refine tr_seq ?_
  -- region 4
  refine tr_plain ?_
  refine r_build [_, _, _] bd45 .none .nil rfl rfl rfl ?_
  refine r_store [_, _, _] ty45 .none (.t m1) (.t m0) (Take.perm (by repeat (first | exact .hd | apply Take.tl))) rfl rfl rfl rfl (fun _ _ => trivial) ?_
  refine tl_nil ?_
  refine qt_kp (.d .all) ?_
  refine qt_then ?_
  refine tr_ret ?_
  refine qt_fin_ret rfl Try.results23 (.c [_, _, _] ty45 m0 (by repeat (first | exact hd | apply tl)) rfl rfl (.agg _) .nil) (fun w hw => ?_)
  refine ⟨(), trivial, rfl, ?_⟩
  rw [List.map_set]
  exact hw.kl (.cons (by repeat (first | exact .hd | apply Take.tl)) (.cons (by repeat (first | exact .hd | apply Take.tl)) .nil))
 · exfalso; first | (simp at hc0; done) | (simp only [Bool.and_eq_true, Bool.or_eq_true, Bool.not_eq_true', Bool.not_eq_false', Bool.and_eq_false_iff, Bool.or_eq_false_iff, decide_eq_true_eq, decide_eq_false_iff_not, beq_iff_eq, Bool.not_eq_true, Bool.not_eq_false] at hc0; omega) | (simp at hc0; omega)
theorem back_no (b : Nat) (now node num since wait wanted : Int) (A : Option Addr) (n c mb : Nat) (gl : List Int) (i : Nat) (m g : Int) (hg : gl[i]? = some g) (hc : ¬ (node = i ∧ num ≤ m)) (w : World) (h0 : St w (· ∈ (allE [boxE b 64 [.int .i64 now, .int .i64 node, .int .i64 num, .int .i64 since, .bool true, .int .i64 wait, .int .i64 wanted, .slice A n c, .map (some mb)], ownE A n c 3 1 (gl.map fun g => [Value.int .i64 g])]).foot) [boxE b 64 [.int .i64 now, .int .i64 node, .int .i64 num, .int .i64 since, .bool true, .int .i64 wait, .int .i64 wanted, .slice A n c, .map (some mb)], ownE A n c 3 1 (gl.map fun g => [Value.int .i64 g])] w)  : Calls Try.prog 23 #[.pointer (some ⟨b, 0, none⟩), .agg #[.int .i64 3, .int .i64 (i : Int), .int .i64 m]] w (Gives w (· ∈ (allE [boxE b 64 [.int .i64 now, .int .i64 node, .int .i64 num, .int .i64 since, .bool true, .int .i64 wait, .int .i64 wanted, .slice A n c, .map (some mb)], ownE A n c 3 1 (gl.map fun g => [Value.int .i64 g])]).foot) (fun (_ : Unit) => .agg #[.int .i64 0, .int .i64 0, .int .i64 0]) (fun (_ : Unit) => True) (fun (_ : Unit) => [boxE b 64 [.int .i64 now, .int .i64 node, .int .i64 num, .int .i64 since, .bool true, .int .i64 wait, .int .i64 wanted, .slice A n c, .map (some mb)], ownE A n c 3 1 (((gl.set i (max g m)).map fun g => [Value.int .i64 g]))])) := by
 have hlen : gl.length = n := by have := (h0.ok _ (m1 : _ ∈ _)).1; simpa using this
 have hi := (List.getElem?_eq_some_iff.1 hg).1
 have hge : (gl.map fun g => [Value.int .i64 g])[i]? = some [Value.int .i64 g] := by simp [hg]
 refine calls_args Try.func23 rfl 46 Try.ntmps23 rfl h0 ?_
 refine tr_kp .all ?_
 refine tr_seq ?_
 -- region 0
 refine tr_plain ?_
 refine r_box [_, _, _] .none (.t m1) rfl (fun _ _ _ => trivial) rfl rfl (fun b3 => ?_)
 refine r_alloc [.int .i64 0, .int .i64 0, .int .i64 0] el45 rfl .none (fun _ _ _ => trivial) rfl rfl (fun b4 => ?_)
 refine tl_nil ?_
 refine qt_kp (.k (.k (.k (.d .all)))) ?_
 refine qt_then ?_
 refine tr_seq ?_
 -- region 1 draws
 refine tr_ord [(0, false), (1, false), (2, false), (3, false), (4, false), (5, false), (6, false), (7, false), (8, false), (9, false), (10, false), (11, false), (12, false), (13, false), (14, false), (15, false), (16, false), (17, false)] [(18, true)] _ _ (List.Sublist.refl _) (.cons_cons _ (.cons_cons _ (.cons_cons _ (List.nil_sublist _)))) mixedO (by kernel_rfl) ?_
 refine r_move .none (.t m2) rfl rfl ?_
 refine r_nilCheckP .none (.t m0) rfl rfl ?_
 refine r_fieldAddr fd64_5 .none (.t m0) rfl rfl ?_
 refine r_load [_] ty40 .none (.t m0) (by first | (refine sees_c ?_; (repeat (first | exact hd | apply tl)); done) | (apply sees_own; apply sees_c; (repeat (first | exact hd | apply tl)); done) | exact sees_rc (by assumption)) rfl rfl (.one _) rfl rfl ?_
 refine r_fieldAddr fd45_1 .none (.t m5) rfl rfl ?_
 refine r_load [_] ty3 .none (.t m0) (by first | (refine sees_c ?_; (repeat (first | exact hd | apply tl)); done) | (apply sees_own; apply sees_c; (repeat (first | exact hd | apply tl)); done) | exact sees_rc (by assumption)) rfl rfl (.one _) rfl rfl ?_
 refine r_move .none (.t m8) rfl rfl ?_
 refine r_nilCheckP .none (.t m0) rfl rfl ?_
 refine r_fieldAddr fd64_5 .none (.t m0) rfl rfl ?_
 refine r_load [_] ty40 .none (.t m0) (by first | (refine sees_c ?_; (repeat (first | exact hd | apply tl)); done) | (apply sees_own; apply sees_c; (repeat (first | exact hd | apply tl)); done) | exact sees_rc (by assumption)) rfl rfl (.one _) rfl rfl ?_
 refine r_fieldAddr fd45_1 .none (.t m11) rfl rfl ?_
 refine r_load [_] ty3 .none (.t m0) (by first | (refine sees_c ?_; (repeat (first | exact hd | apply tl)); done) | (apply sees_own; apply sees_c; (repeat (first | exact hd | apply tl)); done) | exact sees_rc (by assumption)) rfl rfl (.one _) rfl rfl ?_
 refine r_indexAddr sl40 (by first | (refine sees_c ?_; (repeat (first | exact hd | apply tl)); done) | (apply sees_own; apply sees_c; (repeat (first | exact hd | apply tl)); done) | exact sees_rc (by assumption)) .none (.t m2) (.t m0) (fun _ => by omega) rfl rfl ?_
 refine r_loadEl [_] ty3 (by first | (refine sees_c ?_; (repeat (first | exact hd | apply tl)); done) | (apply sees_own; apply sees_c; (repeat (first | exact hd | apply tl)); done) | exact sees_rc (by assumption)) .none (.t m0) (fun _ => hge) rfl rfl (.one _) rfl rfl ?_
 refine r_fieldAddr fd45_2 .none (.t m15) rfl rfl ?_
 refine r_load [_] ty3 .none (.t m0) (by first | (refine sees_c ?_; (repeat (first | exact hd | apply tl)); done) | (apply sees_own; apply sees_c; (repeat (first | exact hd | apply tl)); done) | exact sees_rc (by assumption)) rfl rfl (.one _) rfl rfl ?_
 refine r_maxI .none (.t m2) (.t m0) rfl rfl ?_
 refine r_indexAddr sl40 (by first | (refine sees_c ?_; (repeat (first | exact hd | apply tl)); done) | (apply sees_own; apply sees_c; (repeat (first | exact hd | apply tl)); done) | exact sees_rc (by assumption)) .none (.t m13) (.t m11) (fun _ => by omega) rfl rfl ?_
 refine tl_nil ?_
 refine qt_late (.cons_cons _ (.cons_cons _ (.cons_cons _ (List.nil_sublist _)))) ?_
 refine r_storeEl [_] ty3 (by decide) .none (.t m0) (.t m1) (by repeat (first | exact .hd | apply Take.tl)) hge rfl rfl (by decide) rfl (keepC (.cons _ (List.Sublist.refl _))) ?_
 refine tl_nil ?_
 refine qt_kp (.d (.d (.d (.d (.d (.d (.d (.d (.d (.d (.d (.d (.d (.d (.d (.d (.d (.d .all)))))))))))))))))) ?_
 refine qt_then ?_
 refine tr_seq ?_
 refine tr_seq ?_
 -- region 2 draws
 refine tr_ord [(0, false), (1, false), (2, false), (3, false), (4, false), (5, false), (6, false), (7, false), (8, false), (9, false), (10, false), (11, false), (12, false), (13, false), (14, false), (15, false), (16, false), (17, false)] [] _ _ (List.Sublist.refl _) (List.Sublist.refl _) mixedO (by kernel_rfl) ?_
 -- all early
 refine r_move .none (.t m2) rfl rfl ?_
 refine r_nilCheckP .none (.t m0) rfl rfl ?_
 refine r_fieldAddr fd64_1 .none (.t m0) rfl rfl ?_
 refine r_fieldAddr fd61_0 .none (.t m0) rfl rfl ?_
 refine r_load [_] ty3 .none (.t m0) (by first | (refine sees_c ?_; (repeat (first | exact hd | apply tl)); done) | (apply sees_own; apply sees_c; (repeat (first | exact hd | apply tl)); done) | exact sees_rc (by assumption)) rfl rfl (.one _) rfl rfl ?_
 refine r_fieldAddr fd45_1 .none (.t m6) rfl rfl ?_
 refine r_load [_] ty3 .none (.t m0) (by first | (refine sees_c ?_; (repeat (first | exact hd | apply tl)); done) | (apply sees_own; apply sees_c; (repeat (first | exact hd | apply tl)); done) | exact sees_rc (by assumption)) rfl rfl (.one _) rfl rfl ?_
 refine r_eql .none (.t m2) (.t m0) rfl rfl ?_
 refine r_move .none (.t m0) rfl rfl ?_
 refine r_move (.pos rfl m0) (.t m11) rfl rfl ?_
 refine r_nilCheckP (.pos rfl m1) (.s m0) rfl rfl ?_
 refine r_fieldAddr fd64_1 (.pos rfl m2) (.s m0) rfl rfl ?_
 refine r_fieldAddr fd61_1 (.pos rfl m3) (.s m0) rfl rfl ?_
 refine r_load [_] ty3 (.pos rfl m4) (.s m0) (by first | (refine sees_c ?_; (repeat (first | exact hd | apply tl)); done) | (apply sees_own; apply sees_c; (repeat (first | exact hd | apply tl)); done) | exact sees_rc (by assumption)) rfl rfl (.one _) rfl rfl ?_
 refine r_fieldAddr fd45_2 (.pos rfl m5) (.t m15) rfl rfl ?_
 refine r_load [_] ty3 (.pos rfl m6) (.s m0) (by first | (refine sees_c ?_; (repeat (first | exact hd | apply tl)); done) | (apply sees_own; apply sees_c; (repeat (first | exact hd | apply tl)); done) | exact sees_rc (by assumption)) rfl rfl (.one _) rfl rfl ?_
 refine r_leq (.pos rfl m7) (.s m2) (.s m0) rfl rfl ?_
 refine r_and .none (.t m8) (.s m0) rfl rfl ?_
 refine tl_nil ?_
 refine qt_late (List.Sublist.refl _) ?_
 refine tl_nil ?_
 refine qt_kp (.k (.d (.d (.d (.d (.d (.d (.d (.d (.d (.d (.d (.d (.d (.d (.d (.d (.d (.k (.d .all)))))))))))))))))))) ?_
 refine qt_then ?_
 -- c0
 refine tr_cond (.t m0) (fun hc0 => ?_) (fun hc0 => ?_)
 · exfalso; first | (simp at hc0; done) | (simp only [Bool.and_eq_true, Bool.or_eq_true, Bool.not_eq_true', Bool.not_eq_false', Bool.and_eq_false_iff, Bool.or_eq_false_iff, decide_eq_true_eq, decide_eq_false_iff_not, beq_iff_eq, Bool.not_eq_true, Bool.not_eq_false] at hc0; omega) | (simp at hc0; omega)
 ·
  try simp only [Bool.and_eq_true, Bool.or_eq_true, Bool.not_eq_true', Bool.not_eq_false', Bool.and_eq_false_iff, Bool.or_eq_false_iff, decide_eq_true_eq, decide_eq_false_iff_not, beq_iff_eq, Bool.not_eq_true, Bool.not_eq_false] at hc0
  refine tr_skip ?_
  refine qt_then ?_
  refine tr_seq ?_
  -- region 4
  refine tr_plain ?_
  refine r_build [_, _, _] bd45 .none .nil rfl rfl rfl ?_
  refine r_store [_, _, _] ty45 .none (.t m2) (.t m0) (Take.perm (by repeat (first | exact .hd | apply Take.tl))) rfl rfl rfl rfl (fun _ _ => trivial) ?_
  refine tl_nil ?_
  refine qt_kp (.d (.d (.k (.d .all)))) ?_
  refine qt_then ?_
  refine tr_ret ?_
  refine qt_fin_ret rfl Try.results23 (.c [_, _, _] ty45 m0 (by repeat (first | exact hd | apply tl)) rfl rfl (.agg _) .nil) (fun w hw => ?_)
  refine ⟨(), trivial, rfl, ?_⟩
  rw [List.map_set]
  exact hw.kl (.cons (by repeat (first | exact .hd | apply Take.tl)) (.cons (by repeat (first | exact .hd | apply Take.tl)) .nil))
theorem CHearAsk (b : Nat) (now node num since wait wanted : Int) (A : Option Addr) (n c mb : Nat) (gl : List Int) (i : Nat) (m : Int) (hi : i < n) (hi2 : 1 ≤ i ∧ i ≤ 8) (hm : 1 ≤ m ∧ m ≤ 1000000) (a1 a2 a3 : Int) (e1 e2 : Ent) (hcall : ∀ w, St w (· ∈ (allE [boxE b 64 [.int .i64 now, .int .i64 node, .int .i64 num, .int .i64 since, .bool true, .int .i64 wait, .int .i64 wanted, .slice A n c, .map (some mb)], ownE A n c 3 1 (gl.map fun g => [Value.int .i64 g])]).foot) [boxE b 64 [.int .i64 now, .int .i64 node, .int .i64 num, .int .i64 since, .bool true, .int .i64 wait, .int .i64 wanted, .slice A n c, .map (some mb)], ownE A n c 3 1 (gl.map fun g => [Value.int .i64 g])] w → Calls Try.prog 22 #[.pointer (some ⟨b, 0, none⟩), .agg #[.int .i64 1, .int .i64 (i : Int), .int .i64 m]] w (Gives w (· ∈ (allE [boxE b 64 [.int .i64 now, .int .i64 node, .int .i64 num, .int .i64 since, .bool true, .int .i64 wait, .int .i64 wanted, .slice A n c, .map (some mb)], ownE A n c 3 1 (gl.map fun g => [Value.int .i64 g])]).foot) (fun _ : Unit => .agg #[.int .i64 a1, .int .i64 a2, .int .i64 a3]) (fun _ => True) (fun _ => [e1, e2]))) (w : World) (h0 : St w (· ∈ (allE [boxE b 64 [.int .i64 now, .int .i64 node, .int .i64 num, .int .i64 since, .bool true, .int .i64 wait, .int .i64 wanted, .slice A n c, .map (some mb)], ownE A n c 3 1 (gl.map fun g => [Value.int .i64 g])]).foot) [boxE b 64 [.int .i64 now, .int .i64 node, .int .i64 num, .int .i64 since, .bool true, .int .i64 wait, .int .i64 wanted, .slice A n c, .map (some mb)], ownE A n c 3 1 (gl.map fun g => [Value.int .i64 g])] w) (hh : Ro w (· ∈ (allE [boxE b 64 [.int .i64 now, .int .i64 node, .int .i64 num, .int .i64 since, .bool true, .int .i64 wait, .int .i64 wanted, .slice A n c, .map (some mb)], ownE A n c 3 1 (gl.map fun g => [Value.int .i64 g])]).foot) (mapE (Value.int .i64) mb [(1, .func (.func 22) #[.pointer (some ⟨b, 0, none⟩)] #[]), (3, .func (.func 23) #[.pointer (some ⟨b, 0, none⟩)] #[])])) : Calls Try.prog 10 #[.pointer (some ⟨b, 0, none⟩), .agg #[.int .i64 1, .int .i64 (i : Int), .int .i64 m]] w (Gives w (· ∈ (allE [boxE b 64 [.int .i64 now, .int .i64 node, .int .i64 num, .int .i64 since, .bool true, .int .i64 wait, .int .i64 wanted, .slice A n c, .map (some mb)], ownE A n c 3 1 (gl.map fun g => [Value.int .i64 g])]).foot) (fun (_ : Unit) => .tuple #[.agg #[.int .i64 a1, .int .i64 a2, .int .i64 a3], .int .i64 0]) (fun (_ : Unit) => True) (fun (_ : Unit) => [e1, e2])) := by
 refine calls_args Try.func10 rfl 43 Try.ntmps10 rfl h0 ?_
 refine tr_kp .all ?_
 refine tr_seq ?_
 -- region 0
 refine tr_plain ?_
 refine r_box [_, _, _] .none (.t m1) rfl (fun _ _ _ => trivial) rfl rfl (fun b3 => ?_)
 refine r_alloc [.int .i64 0, .int .i64 0, .int .i64 0] el45 rfl .none (fun _ _ _ => trivial) rfl rfl (fun b4 => ?_)
 refine r_assign .none (.c _ _) rfl rfl ?_
 refine tl_nil ?_
 refine qt_kp (.k (.k (.k (.k (.d .all))))) ?_
 refine qt_then ?_
 refine tr_seq ?_
 refine tr_block ?_
 refine tr_seq ?_
 -- region 1
 refine tr_plain ?_
 refine r_move .none (.t m3) rfl rfl ?_
 refine r_ans en28 .none (.f _ _) (.cons (.t m0) .nil) (fun hg w hw => cis_ans _ _ _ _ _ _ _ _ _ _ _ w (hw.in_ m2)) (fun _ _ => trivial) rfl rfl ?_
 refine r_not .none (.t m0) rfl rfl ?_
 refine r_assign .none (.t m0) rfl rfl ?_
 refine tl_nil ?_
 refine qt_kp (.k (.d (.d (.d .all)))) ?_
 refine qt_then ?_
 -- c0
 refine tr_cond (.t m0) (fun hc0 => ?_) (fun hc0 => ?_)
 · exfalso; first | (simp at hc0; done) | (simp only [Bool.and_eq_true, Bool.or_eq_true, Bool.not_eq_true', Bool.not_eq_false', Bool.and_eq_false_iff, Bool.or_eq_false_iff, decide_eq_true_eq, decide_eq_false_iff_not, beq_iff_eq, Bool.not_eq_true, Bool.not_eq_false] at hc0; omega) | (simp at hc0; omega)
 ·
  try simp only [Bool.and_eq_true, Bool.or_eq_true, Bool.not_eq_true', Bool.not_eq_false', Bool.and_eq_false_iff, Bool.or_eq_false_iff, decide_eq_true_eq, decide_eq_false_iff_not, beq_iff_eq, Bool.not_eq_true, Bool.not_eq_false] at hc0
  refine tr_seq ?_
  -- region 3
  refine tr_plain ?_
  refine r_load [_, _, _] ty45 .none (.t m3) (by first | (refine sees_l ?_; (repeat (first | exact hd | apply tl)); done) | (apply sees_own; apply sees_l; (repeat (first | exact hd | apply tl)); done) | exact sees_r (by assumption)) rfl rfl (.agg _) rfl rfl ?_
  refine r_ans en26 .none (.f _ _) (.cons (.t m0) .nil) (fun hg w hw => valid_ans _ _ _ w) (fun _ _ => trivial) rfl rfl ?_
  refine r_not .none (.t m0) rfl rfl ?_
  refine r_assign .none (.t m0) rfl rfl ?_
  refine tl_nil ?_
  refine qt_kp (.k (.d (.d (.d (.d .all))))) ?_
  refine qt_then ?_
  -- c1
  refine tr_cond (.t m0) (fun hc1 => ?_) (fun hc1 => ?_)
  · exfalso; first | (simp at hc1; done) | (simp only [Bool.and_eq_true, Bool.or_eq_true, Bool.not_eq_true', Bool.not_eq_false', Bool.and_eq_false_iff, Bool.or_eq_false_iff, decide_eq_true_eq, decide_eq_false_iff_not, beq_iff_eq, Bool.not_eq_true, Bool.not_eq_false] at hc1; omega) | (simp at hc1; omega)
  ·
   try simp only [Bool.and_eq_true, Bool.or_eq_true, Bool.not_eq_true', Bool.not_eq_false', Bool.and_eq_false_iff, Bool.or_eq_false_iff, decide_eq_true_eq, decide_eq_false_iff_not, beq_iff_eq, Bool.not_eq_true, Bool.not_eq_false] at hc1
   refine tr_seq ?_
   -- region 5 draws
   refine tr_ord [(0, false), (1, false), (2, false), (3, false), (4, false), (5, false), (6, false), (7, false), (8, false)] [] _ _ (List.Sublist.refl _) (List.Sublist.refl _) mixedO (by kernel_rfl) ?_
   -- all early
   refine r_fieldAddr fd45_1 .none (.t m3) rfl rfl ?_
   refine r_load [_] ty3 .none (.t m0) (by first | (refine sees_c ?_; (repeat (first | exact hd | apply tl)); done) | (apply sees_own; apply sees_c; (repeat (first | exact hd | apply tl)); done) | exact sees_rc (by assumption)) rfl rfl (.one _) rfl rfl ?_
   refine r_move .none (.t m6) rfl rfl ?_
   refine r_nilCheckP .none (.t m0) rfl rfl ?_
   refine r_fieldAddr fd64_5 .none (.t m0) rfl rfl ?_
   refine r_load [_] ty40 .none (.t m0) (by first | (refine sees_c ?_; (repeat (first | exact hd | apply tl)); done) | (apply sees_own; apply sees_c; (repeat (first | exact hd | apply tl)); done) | exact sees_rc (by assumption)) rfl rfl (.one _) rfl rfl ?_
   refine r_lenSl Try.underlying40 .none (.t m0) rfl rfl ?_
   refine r_geq .none (.t m5) (.t m0) rfl rfl ?_
   refine r_assign .none (.t m0) rfl rfl ?_
   refine tl_nil ?_
   refine qt_late (List.Sublist.refl _) ?_
   refine tl_nil ?_
   refine qt_kp (.k (.d (.d (.d (.d (.d (.d (.d (.d (.d .all)))))))))) ?_
   refine qt_then ?_
   -- c2
   refine tr_cond (.t m0) (fun hc2 => ?_) (fun hc2 => ?_)
   · exfalso; first | (simp at hc2; done) | (simp only [Bool.and_eq_true, Bool.or_eq_true, Bool.not_eq_true', Bool.not_eq_false', Bool.and_eq_false_iff, Bool.or_eq_false_iff, decide_eq_true_eq, decide_eq_false_iff_not, beq_iff_eq, Bool.not_eq_true, Bool.not_eq_false] at hc2; omega) | (simp at hc2; omega)
   ·
    try simp only [Bool.and_eq_true, Bool.or_eq_true, Bool.not_eq_true', Bool.not_eq_false', Bool.and_eq_false_iff, Bool.or_eq_false_iff, decide_eq_true_eq, decide_eq_false_iff_not, beq_iff_eq, Bool.not_eq_true, Bool.not_eq_false] at hc2
    refine tr_skip ?_
    refine qt_block ?_
    refine qt_then ?_
    refine tr_seq ?_
    refine tr_seq ?_
    -- region 7 draws
    refine tr_ord [(0, false), (1, false), (2, false), (3, false), (4, false), (5, false), (6, false), (7, false), (8, false), (9, false), (10, false), (11, false)] [] _ _ (List.Sublist.refl _) (List.Sublist.refl _) mixedO (by kernel_rfl) ?_
    -- all early
    refine r_move .none (.t m4) rfl rfl ?_
    refine r_nilCheckP .none (.t m0) rfl rfl ?_
    refine r_fieldAddr fd64_6 .none (.t m0) rfl rfl ?_
    refine r_load [_] ty62 .none (.t m0) (by first | (refine sees_c ?_; (repeat (first | exact hd | apply tl)); done) | (apply sees_own; apply sees_c; (repeat (first | exact hd | apply tl)); done) | exact sees_rc (by assumption)) rfl rfl (.one _) rfl rfl ?_
    refine r_fieldAddr fd45_0 .none (.t m7) rfl rfl ?_
    refine r_load [_] ty3 .none (.t m0) (by first | (refine sees_c ?_; (repeat (first | exact hd | apply tl)); done) | (apply sees_own; apply sees_c; (repeat (first | exact hd | apply tl)); done) | exact sees_rc (by assumption)) rfl rfl (.one _) rfl rfl ?_
    refine r_lookupOk Try.underlying62 ke3 el65 (by first | (refine sees_c ?_; (repeat (first | exact hd | apply tl)); done) | (apply sees_own; apply sees_c; (repeat (first | exact hd | apply tl)); done) | exact sees_rc (by assumption)) .none (.t m2) (.t m0) rfl rfl ?_
    refine tl_valh (v' := .tuple #[.func (.func 22) #[.pointer (some ⟨b, 0, none⟩)] #[], .bool true]) (by simp [Sep.look]) ?_
    refine r_move .none (.t m0) rfl rfl ?_
    refine r_extract .none (.t m0) rfl rfl rfl ?_
    refine r_extract .none (.t m1) rfl rfl rfl ?_
    refine r_assign .none (.t m1) rfl rfl ?_
    refine r_assign .none (.t m1) rfl rfl ?_
    refine tl_nil ?_
    refine qt_late (List.Sublist.refl _) ?_
    refine tl_nil ?_
    refine qt_kp (.k (.k (.d (.d (.d (.d (.d (.d (.d (.d (.d (.d (.d (.k (.k (.k (.d .all))))))))))))))))) ?_
    refine qt_then ?_
    refine tr_seq ?_
    -- region 8
    refine tr_plain ?_
    refine r_move .none (.t m0) rfl rfl ?_
    refine tl_nil ?_
    refine qt_kp (.k (.d .all)) ?_
    refine qt_then ?_
    -- c3
    refine tr_cond (.t m0) (fun hc3 => ?_) (fun hc3 => ?_)
    ·
     try simp only [Bool.and_eq_true, Bool.or_eq_true, Bool.not_eq_true', Bool.not_eq_false', Bool.and_eq_false_iff, Bool.or_eq_false_iff, decide_eq_true_eq, decide_eq_false_iff_not, beq_iff_eq, Bool.not_eq_true, Bool.not_eq_false] at hc3
     -- region 9
     refine tr_plain ?_
     refine r_move .none (.t m1) rfl rfl ?_
     refine r_load [_, _, _] ty45 .none (.t m5) (by first | (refine sees_l ?_; (repeat (first | exact hd | apply tl)); done) | (apply sees_own; apply sees_l; (repeat (first | exact hd | apply tl)); done) | exact sees_r (by assumption)) rfl rfl (.agg _) rfl rfl ?_
     refine r_callF _ _ _ en22 .none (.t m1) (.cons (.t m0) .nil) (fun w hw => callL (.cons (.tl (.tl .hd)) (.cons (.tl (.tl .hd)) .nil)) hw (fun h => hcall w h)) (fun _ _ _ _ => trivial) rfl rfl ?_
     rintro ⟨⟩ _
     refine r_store [_, _, _] ty45 .none (.t m6) (.t m0) (Take.perm (by repeat (first | exact .hd | apply Take.tl))) rfl rfl rfl rfl (fun _ _ => trivial) ?_
     refine tl_nil ?_
     refine qt_kp (.d (.d (.d (.d (.d (.k (.k (.d .all)))))))) ?_
     refine qt_then ?_
     refine tr_seq ?_
     -- region 10
     refine tr_plain ?_
     refine r_load [_, _, _] ty45 .none (.t m1) (by first | (refine sees_l ?_; (repeat (first | exact hd | apply tl)); done) | (apply sees_own; apply sees_l; (repeat (first | exact hd | apply tl)); done) | exact sees_r (by assumption)) rfl rfl (.agg _) rfl rfl ?_
     refine r_store [_, _, _] ty45 .none (.t m2) (.t m0) (Take.perm (by repeat (first | exact .hd | apply Take.tl))) rfl rfl rfl rfl (fun _ _ => trivial) ?_
     refine tl_kp (.k (.d .all)) ?_
     refine r_assign .none (.c _ _) rfl rfl ?_
     refine tl_nil ?_
     refine qt_kp (.k (.d .all)) ?_
     refine qt_then ?_
     refine tr_ret ?_
     refine qt_fin_ret rfl Try.results10 (.c [_, _, _] ty45 m1 (by repeat (first | exact hd | apply tl)) rfl rfl (.agg _) (.t m0 .nil)) (fun w hw => ?_)
     exact ⟨(), trivial, rfl, hw.kl (.cons (by repeat (first | exact .hd | apply Take.tl)) (.cons (by repeat (first | exact .hd | apply Take.tl)) .nil))⟩
    · exfalso; first | (simp at hc3; done) | (simp only [Bool.and_eq_true, Bool.or_eq_true, Bool.not_eq_true', Bool.not_eq_false', Bool.and_eq_false_iff, Bool.or_eq_false_iff, decide_eq_true_eq, decide_eq_false_iff_not, beq_iff_eq, Bool.not_eq_true, Bool.not_eq_false] at hc3; omega) | (simp at hc3; omega)
theorem CHearBack (b : Nat) (now node num since wait wanted : Int) (A : Option Addr) (n c mb : Nat) (gl : List Int) (i : Nat) (m : Int) (hi : i < n) (hi2 : 1 ≤ i ∧ i ≤ 8) (hm : 1 ≤ m ∧ m ≤ 1000000) (a1 a2 a3 : Int) (e1 e2 : Ent) (hcall : ∀ w, St w (· ∈ (allE [boxE b 64 [.int .i64 now, .int .i64 node, .int .i64 num, .int .i64 since, .bool true, .int .i64 wait, .int .i64 wanted, .slice A n c, .map (some mb)], ownE A n c 3 1 (gl.map fun g => [Value.int .i64 g])]).foot) [boxE b 64 [.int .i64 now, .int .i64 node, .int .i64 num, .int .i64 since, .bool true, .int .i64 wait, .int .i64 wanted, .slice A n c, .map (some mb)], ownE A n c 3 1 (gl.map fun g => [Value.int .i64 g])] w → Calls Try.prog 23 #[.pointer (some ⟨b, 0, none⟩), .agg #[.int .i64 3, .int .i64 (i : Int), .int .i64 m]] w (Gives w (· ∈ (allE [boxE b 64 [.int .i64 now, .int .i64 node, .int .i64 num, .int .i64 since, .bool true, .int .i64 wait, .int .i64 wanted, .slice A n c, .map (some mb)], ownE A n c 3 1 (gl.map fun g => [Value.int .i64 g])]).foot) (fun _ : Unit => .agg #[.int .i64 a1, .int .i64 a2, .int .i64 a3]) (fun _ => True) (fun _ => [e1, e2]))) (w : World) (h0 : St w (· ∈ (allE [boxE b 64 [.int .i64 now, .int .i64 node, .int .i64 num, .int .i64 since, .bool true, .int .i64 wait, .int .i64 wanted, .slice A n c, .map (some mb)], ownE A n c 3 1 (gl.map fun g => [Value.int .i64 g])]).foot) [boxE b 64 [.int .i64 now, .int .i64 node, .int .i64 num, .int .i64 since, .bool true, .int .i64 wait, .int .i64 wanted, .slice A n c, .map (some mb)], ownE A n c 3 1 (gl.map fun g => [Value.int .i64 g])] w) (hh : Ro w (· ∈ (allE [boxE b 64 [.int .i64 now, .int .i64 node, .int .i64 num, .int .i64 since, .bool true, .int .i64 wait, .int .i64 wanted, .slice A n c, .map (some mb)], ownE A n c 3 1 (gl.map fun g => [Value.int .i64 g])]).foot) (mapE (Value.int .i64) mb [(1, .func (.func 22) #[.pointer (some ⟨b, 0, none⟩)] #[]), (3, .func (.func 23) #[.pointer (some ⟨b, 0, none⟩)] #[])])) : Calls Try.prog 10 #[.pointer (some ⟨b, 0, none⟩), .agg #[.int .i64 3, .int .i64 (i : Int), .int .i64 m]] w (Gives w (· ∈ (allE [boxE b 64 [.int .i64 now, .int .i64 node, .int .i64 num, .int .i64 since, .bool true, .int .i64 wait, .int .i64 wanted, .slice A n c, .map (some mb)], ownE A n c 3 1 (gl.map fun g => [Value.int .i64 g])]).foot) (fun (_ : Unit) => .tuple #[.agg #[.int .i64 a1, .int .i64 a2, .int .i64 a3], .int .i64 0]) (fun (_ : Unit) => True) (fun (_ : Unit) => [e1, e2])) := by
 refine calls_args Try.func10 rfl 43 Try.ntmps10 rfl h0 ?_
 refine tr_kp .all ?_
 refine tr_seq ?_
 -- region 0
 refine tr_plain ?_
 refine r_box [_, _, _] .none (.t m1) rfl (fun _ _ _ => trivial) rfl rfl (fun b3 => ?_)
 refine r_alloc [.int .i64 0, .int .i64 0, .int .i64 0] el45 rfl .none (fun _ _ _ => trivial) rfl rfl (fun b4 => ?_)
 refine r_assign .none (.c _ _) rfl rfl ?_
 refine tl_nil ?_
 refine qt_kp (.k (.k (.k (.k (.d .all))))) ?_
 refine qt_then ?_
 refine tr_seq ?_
 refine tr_block ?_
 refine tr_seq ?_
 -- region 1
 refine tr_plain ?_
 refine r_move .none (.t m3) rfl rfl ?_
 refine r_ans en28 .none (.f _ _) (.cons (.t m0) .nil) (fun hg w hw => cis_ans _ _ _ _ _ _ _ _ _ _ _ w (hw.in_ m2)) (fun _ _ => trivial) rfl rfl ?_
 refine r_not .none (.t m0) rfl rfl ?_
 refine r_assign .none (.t m0) rfl rfl ?_
 refine tl_nil ?_
 refine qt_kp (.k (.d (.d (.d .all)))) ?_
 refine qt_then ?_
 -- c0
 refine tr_cond (.t m0) (fun hc0 => ?_) (fun hc0 => ?_)
 · exfalso; first | (simp at hc0; done) | (simp only [Bool.and_eq_true, Bool.or_eq_true, Bool.not_eq_true', Bool.not_eq_false', Bool.and_eq_false_iff, Bool.or_eq_false_iff, decide_eq_true_eq, decide_eq_false_iff_not, beq_iff_eq, Bool.not_eq_true, Bool.not_eq_false] at hc0; omega) | (simp at hc0; omega)
 ·
  try simp only [Bool.and_eq_true, Bool.or_eq_true, Bool.not_eq_true', Bool.not_eq_false', Bool.and_eq_false_iff, Bool.or_eq_false_iff, decide_eq_true_eq, decide_eq_false_iff_not, beq_iff_eq, Bool.not_eq_true, Bool.not_eq_false] at hc0
  refine tr_seq ?_
  -- region 3
  refine tr_plain ?_
  refine r_load [_, _, _] ty45 .none (.t m3) (by first | (refine sees_l ?_; (repeat (first | exact hd | apply tl)); done) | (apply sees_own; apply sees_l; (repeat (first | exact hd | apply tl)); done) | exact sees_r (by assumption)) rfl rfl (.agg _) rfl rfl ?_
  refine r_ans en26 .none (.f _ _) (.cons (.t m0) .nil) (fun hg w hw => valid_ans _ _ _ w) (fun _ _ => trivial) rfl rfl ?_
  refine r_not .none (.t m0) rfl rfl ?_
  refine r_assign .none (.t m0) rfl rfl ?_
  refine tl_nil ?_
  refine qt_kp (.k (.d (.d (.d (.d .all))))) ?_
  refine qt_then ?_
  -- c1
  refine tr_cond (.t m0) (fun hc1 => ?_) (fun hc1 => ?_)
  · exfalso; first | (simp at hc1; done) | (simp only [Bool.and_eq_true, Bool.or_eq_true, Bool.not_eq_true', Bool.not_eq_false', Bool.and_eq_false_iff, Bool.or_eq_false_iff, decide_eq_true_eq, decide_eq_false_iff_not, beq_iff_eq, Bool.not_eq_true, Bool.not_eq_false] at hc1; omega) | (simp at hc1; omega)
  ·
   try simp only [Bool.and_eq_true, Bool.or_eq_true, Bool.not_eq_true', Bool.not_eq_false', Bool.and_eq_false_iff, Bool.or_eq_false_iff, decide_eq_true_eq, decide_eq_false_iff_not, beq_iff_eq, Bool.not_eq_true, Bool.not_eq_false] at hc1
   refine tr_seq ?_
   -- region 5 draws
   refine tr_ord [(0, false), (1, false), (2, false), (3, false), (4, false), (5, false), (6, false), (7, false), (8, false)] [] _ _ (List.Sublist.refl _) (List.Sublist.refl _) mixedO (by kernel_rfl) ?_
   -- all early
   refine r_fieldAddr fd45_1 .none (.t m3) rfl rfl ?_
   refine r_load [_] ty3 .none (.t m0) (by first | (refine sees_c ?_; (repeat (first | exact hd | apply tl)); done) | (apply sees_own; apply sees_c; (repeat (first | exact hd | apply tl)); done) | exact sees_rc (by assumption)) rfl rfl (.one _) rfl rfl ?_
   refine r_move .none (.t m6) rfl rfl ?_
   refine r_nilCheckP .none (.t m0) rfl rfl ?_
   refine r_fieldAddr fd64_5 .none (.t m0) rfl rfl ?_
   refine r_load [_] ty40 .none (.t m0) (by first | (refine sees_c ?_; (repeat (first | exact hd | apply tl)); done) | (apply sees_own; apply sees_c; (repeat (first | exact hd | apply tl)); done) | exact sees_rc (by assumption)) rfl rfl (.one _) rfl rfl ?_
   refine r_lenSl Try.underlying40 .none (.t m0) rfl rfl ?_
   refine r_geq .none (.t m5) (.t m0) rfl rfl ?_
   refine r_assign .none (.t m0) rfl rfl ?_
   refine tl_nil ?_
   refine qt_late (List.Sublist.refl _) ?_
   refine tl_nil ?_
   refine qt_kp (.k (.d (.d (.d (.d (.d (.d (.d (.d (.d .all)))))))))) ?_
   refine qt_then ?_
   -- c2
   refine tr_cond (.t m0) (fun hc2 => ?_) (fun hc2 => ?_)
   · exfalso; first | (simp at hc2; done) | (simp only [Bool.and_eq_true, Bool.or_eq_true, Bool.not_eq_true', Bool.not_eq_false', Bool.and_eq_false_iff, Bool.or_eq_false_iff, decide_eq_true_eq, decide_eq_false_iff_not, beq_iff_eq, Bool.not_eq_true, Bool.not_eq_false] at hc2; omega) | (simp at hc2; omega)
   ·
    try simp only [Bool.and_eq_true, Bool.or_eq_true, Bool.not_eq_true', Bool.not_eq_false', Bool.and_eq_false_iff, Bool.or_eq_false_iff, decide_eq_true_eq, decide_eq_false_iff_not, beq_iff_eq, Bool.not_eq_true, Bool.not_eq_false] at hc2
    refine tr_skip ?_
    refine qt_block ?_
    refine qt_then ?_
    refine tr_seq ?_
    refine tr_seq ?_
    -- region 7 draws
    refine tr_ord [(0, false), (1, false), (2, false), (3, false), (4, false), (5, false), (6, false), (7, false), (8, false), (9, false), (10, false), (11, false)] [] _ _ (List.Sublist.refl _) (List.Sublist.refl _) mixedO (by kernel_rfl) ?_
    -- all early
    refine r_move .none (.t m4) rfl rfl ?_
    refine r_nilCheckP .none (.t m0) rfl rfl ?_
    refine r_fieldAddr fd64_6 .none (.t m0) rfl rfl ?_
    refine r_load [_] ty62 .none (.t m0) (by first | (refine sees_c ?_; (repeat (first | exact hd | apply tl)); done) | (apply sees_own; apply sees_c; (repeat (first | exact hd | apply tl)); done) | exact sees_rc (by assumption)) rfl rfl (.one _) rfl rfl ?_
    refine r_fieldAddr fd45_0 .none (.t m7) rfl rfl ?_
    refine r_load [_] ty3 .none (.t m0) (by first | (refine sees_c ?_; (repeat (first | exact hd | apply tl)); done) | (apply sees_own; apply sees_c; (repeat (first | exact hd | apply tl)); done) | exact sees_rc (by assumption)) rfl rfl (.one _) rfl rfl ?_
    refine r_lookupOk Try.underlying62 ke3 el65 (by first | (refine sees_c ?_; (repeat (first | exact hd | apply tl)); done) | (apply sees_own; apply sees_c; (repeat (first | exact hd | apply tl)); done) | exact sees_rc (by assumption)) .none (.t m2) (.t m0) rfl rfl ?_
    refine tl_valh (v' := .tuple #[.func (.func 23) #[.pointer (some ⟨b, 0, none⟩)] #[], .bool true]) (by simp [Sep.look]) ?_
    refine r_move .none (.t m0) rfl rfl ?_
    refine r_extract .none (.t m0) rfl rfl rfl ?_
    refine r_extract .none (.t m1) rfl rfl rfl ?_
    refine r_assign .none (.t m1) rfl rfl ?_
    refine r_assign .none (.t m1) rfl rfl ?_
    refine tl_nil ?_
    refine qt_late (List.Sublist.refl _) ?_
    refine tl_nil ?_
    refine qt_kp (.k (.k (.d (.d (.d (.d (.d (.d (.d (.d (.d (.d (.d (.k (.k (.k (.d .all))))))))))))))))) ?_
    refine qt_then ?_
    refine tr_seq ?_
    -- region 8
    refine tr_plain ?_
    refine r_move .none (.t m0) rfl rfl ?_
    refine tl_nil ?_
    refine qt_kp (.k (.d .all)) ?_
    refine qt_then ?_
    -- c3
    refine tr_cond (.t m0) (fun hc3 => ?_) (fun hc3 => ?_)
    ·
     try simp only [Bool.and_eq_true, Bool.or_eq_true, Bool.not_eq_true', Bool.not_eq_false', Bool.and_eq_false_iff, Bool.or_eq_false_iff, decide_eq_true_eq, decide_eq_false_iff_not, beq_iff_eq, Bool.not_eq_true, Bool.not_eq_false] at hc3
     -- region 9
     refine tr_plain ?_
     refine r_move .none (.t m1) rfl rfl ?_
     refine r_load [_, _, _] ty45 .none (.t m5) (by first | (refine sees_l ?_; (repeat (first | exact hd | apply tl)); done) | (apply sees_own; apply sees_l; (repeat (first | exact hd | apply tl)); done) | exact sees_r (by assumption)) rfl rfl (.agg _) rfl rfl ?_
     refine r_callF _ _ _ en23 .none (.t m1) (.cons (.t m0) .nil) (fun w hw => callL (.cons (.tl (.tl .hd)) (.cons (.tl (.tl .hd)) .nil)) hw (fun h => hcall w h)) (fun _ _ _ _ => trivial) rfl rfl ?_
     rintro ⟨⟩ _
     refine r_store [_, _, _] ty45 .none (.t m6) (.t m0) (Take.perm (by repeat (first | exact .hd | apply Take.tl))) rfl rfl rfl rfl (fun _ _ => trivial) ?_
     refine tl_nil ?_
     refine qt_kp (.d (.d (.d (.d (.d (.k (.k (.d .all)))))))) ?_
     refine qt_then ?_
     refine tr_seq ?_
     -- region 10
     refine tr_plain ?_
     refine r_load [_, _, _] ty45 .none (.t m1) (by first | (refine sees_l ?_; (repeat (first | exact hd | apply tl)); done) | (apply sees_own; apply sees_l; (repeat (first | exact hd | apply tl)); done) | exact sees_r (by assumption)) rfl rfl (.agg _) rfl rfl ?_
     refine r_store [_, _, _] ty45 .none (.t m2) (.t m0) (Take.perm (by repeat (first | exact .hd | apply Take.tl))) rfl rfl rfl rfl (fun _ _ => trivial) ?_
     refine tl_kp (.k (.d .all)) ?_
     refine r_assign .none (.c _ _) rfl rfl ?_
     refine tl_nil ?_
     refine qt_kp (.k (.d .all)) ?_
     refine qt_then ?_
     refine tr_ret ?_
     refine qt_fin_ret rfl Try.results10 (.c [_, _, _] ty45 m1 (by repeat (first | exact hd | apply tl)) rfl rfl (.agg _) (.t m0 .nil)) (fun w hw => ?_)
     exact ⟨(), trivial, rfl, hw.kl (.cons (by repeat (first | exact .hd | apply Take.tl)) (.cons (by repeat (first | exact .hd | apply Take.tl)) .nil))⟩
    · exfalso; first | (simp at hc3; done) | (simp only [Bool.and_eq_true, Bool.or_eq_true, Bool.not_eq_true', Bool.not_eq_false', Bool.and_eq_false_iff, Bool.or_eq_false_iff, decide_eq_true_eq, decide_eq_false_iff_not, beq_iff_eq, Bool.not_eq_true, Bool.not_eq_false] at hc3; omega) | (simp at hc3; omega)
theorem CHearNone_ans (b : Nat) (now node num since wait wanted : Int) (A : Option Addr) (n c mb : Nat) (k x m : Int) (hk : 1 ≤ k ∧ k ≤ 3) (hx : 1 ≤ x ∧ x ≤ 8 ∧ (n : Int) ≤ x) (hm : 1 ≤ m ∧ m ≤ 1000000) (w : World) (hin : In w (boxE b 64 [.int .i64 now, .int .i64 node, .int .i64 num, .int .i64 since, .bool true, .int .i64 wait, .int .i64 wanted, .slice A n c, .map (some mb)])) : Calls Try.prog 10 #[.pointer (some ⟨b, 0, none⟩), .agg #[.int .i64 k, .int .i64 x, .int .i64 m]] w (Ans w (.tuple #[.agg #[.int .i64 0, .int .i64 0, .int .i64 0], .int .i64 7])) := by
 have hR := hin.ro
 refine calls_args Try.func10 rfl 43 Try.ntmps10 rfl (St.refl _ no) ?_
 refine tr_kp .all ?_
 refine tr_seq ?_
 -- region 0
 refine tr_plain ?_
 refine r_box [_, _, _] .none (.t m1) rfl (fun _ _ _ => trivial) rfl rfl (fun b3 => ?_)
 refine r_alloc [.int .i64 0, .int .i64 0, .int .i64 0] el45 rfl .none (fun _ _ _ => trivial) rfl rfl (fun b4 => ?_)
 refine r_assign .none (.c _ _) rfl rfl ?_
 refine tl_nil ?_
 refine qt_kp (.k (.k (.k (.k (.d .all))))) ?_
 refine qt_then ?_
 refine tr_seq ?_
 refine tr_block ?_
 refine tr_seq ?_
 -- region 1
 refine tr_plain ?_
 refine r_move .none (.t m3) rfl rfl ?_
 refine r_ans en28 .none (.f _ _) (.cons (.t m0) .nil) (fun hg w hw => cis_ans _ _ _ _ _ _ _ _ _ _ _ w (hw.ro hR)) (fun _ _ => trivial) rfl rfl ?_
 refine r_not .none (.t m0) rfl rfl ?_
 refine r_assign .none (.t m0) rfl rfl ?_
 refine tl_nil ?_
 refine qt_kp (.k (.d (.d (.d .all)))) ?_
 refine qt_then ?_
 -- c0
 refine tr_cond (.t m0) (fun hc0 => ?_) (fun hc0 => ?_)
 · exfalso; first | (simp at hc0; done) | (simp only [Bool.and_eq_true, Bool.or_eq_true, Bool.not_eq_true', Bool.not_eq_false', Bool.and_eq_false_iff, Bool.or_eq_false_iff, decide_eq_true_eq, decide_eq_false_iff_not, beq_iff_eq, Bool.not_eq_true, Bool.not_eq_false] at hc0; omega) | (simp at hc0; omega)
 ·
  try simp only [Bool.and_eq_true, Bool.or_eq_true, Bool.not_eq_true', Bool.not_eq_false', Bool.and_eq_false_iff, Bool.or_eq_false_iff, decide_eq_true_eq, decide_eq_false_iff_not, beq_iff_eq, Bool.not_eq_true, Bool.not_eq_false] at hc0
  refine tr_seq ?_
  -- region 3
  refine tr_plain ?_
  refine r_load [_, _, _] ty45 .none (.t m3) (by first | (refine sees_l ?_; (repeat (first | exact hd | apply tl)); done) | (apply sees_own; apply sees_l; (repeat (first | exact hd | apply tl)); done) | exact sees_r (by assumption)) rfl rfl (.agg _) rfl rfl ?_
  refine r_ans en26 .none (.f _ _) (.cons (.t m0) .nil) (fun hg w hw => valid_ans _ _ _ w) (fun _ _ => trivial) rfl rfl ?_
  refine r_not .none (.t m0) rfl rfl ?_
  refine r_assign .none (.t m0) rfl rfl ?_
  refine tl_nil ?_
  refine qt_kp (.k (.d (.d (.d (.d .all))))) ?_
  refine qt_then ?_
  -- c1
  refine tr_cond (.t m0) (fun hc1 => ?_) (fun hc1 => ?_)
  · exfalso; first | (simp at hc1; done) | (simp only [Bool.and_eq_true, Bool.or_eq_true, Bool.not_eq_true', Bool.not_eq_false', Bool.and_eq_false_iff, Bool.or_eq_false_iff, decide_eq_true_eq, decide_eq_false_iff_not, beq_iff_eq, Bool.not_eq_true, Bool.not_eq_false] at hc1; omega) | (simp at hc1; omega)
  ·
   try simp only [Bool.and_eq_true, Bool.or_eq_true, Bool.not_eq_true', Bool.not_eq_false', Bool.and_eq_false_iff, Bool.or_eq_false_iff, decide_eq_true_eq, decide_eq_false_iff_not, beq_iff_eq, Bool.not_eq_true, Bool.not_eq_false] at hc1
   refine tr_seq ?_
   -- region 5 draws
   refine tr_ord [(0, false), (1, false), (2, false), (3, false), (4, false), (5, false), (6, false), (7, false), (8, false)] [] _ _ (List.Sublist.refl _) (List.Sublist.refl _) mixedO (by kernel_rfl) ?_
   -- all early
   refine r_fieldAddr fd45_1 .none (.t m3) rfl rfl ?_
   refine r_load [_] ty3 .none (.t m0) (by first | (refine sees_c ?_; (repeat (first | exact hd | apply tl)); done) | (apply sees_own; apply sees_c; (repeat (first | exact hd | apply tl)); done) | exact sees_rc (by assumption)) rfl rfl (.one _) rfl rfl ?_
   refine r_move .none (.t m6) rfl rfl ?_
   refine r_nilCheckP .none (.t m0) rfl rfl ?_
   refine r_fieldAddr fd64_5 .none (.t m0) rfl rfl ?_
   refine r_load [_] ty40 .none (.t m0) (by first | (refine sees_c ?_; (repeat (first | exact hd | apply tl)); done) | (apply sees_own; apply sees_c; (repeat (first | exact hd | apply tl)); done) | exact sees_rc (by assumption)) rfl rfl (.one _) rfl rfl ?_
   refine r_lenSl Try.underlying40 .none (.t m0) rfl rfl ?_
   refine r_geq .none (.t m5) (.t m0) rfl rfl ?_
   refine r_assign .none (.t m0) rfl rfl ?_
   refine tl_nil ?_
   refine qt_late (List.Sublist.refl _) ?_
   refine tl_nil ?_
   refine qt_kp (.k (.d (.d (.d (.d (.d (.d (.d (.d (.d .all)))))))))) ?_
   refine qt_then ?_
   -- c2
   refine tr_cond (.t m0) (fun hc2 => ?_) (fun hc2 => ?_)
   ·
    try simp only [Bool.and_eq_true, Bool.or_eq_true, Bool.not_eq_true', Bool.not_eq_false', Bool.and_eq_false_iff, Bool.or_eq_false_iff, decide_eq_true_eq, decide_eq_false_iff_not, beq_iff_eq, Bool.not_eq_true, Bool.not_eq_false] at hc2
    refine tr_seq ?_
    -- region 6
    refine tr_plain ?_
    refine r_build [_, _, _] bd45 .none .nil rfl rfl rfl ?_
    refine r_store [_, _, _] ty45 .none (.t m3) (.t m0) (Take.perm (by repeat (first | exact .hd | apply Take.tl))) rfl rfl rfl rfl (fun _ _ => trivial) ?_
    refine tl_kp (.k (.k (.d .all))) ?_
    refine r_assign .none (.c _ _) rfl rfl ?_
    refine tl_nil ?_
    refine qt_kp (.k (.d (.d .all))) ?_
    refine qt_then ?_
    refine tr_ret ?_
    refine qt_block_ret ?_
    refine qt_then_ret ?_
    refine qt_fin_ret rfl Try.results10 (.c [_, _, _] ty45 m1 (by repeat (first | exact hd | apply tl)) rfl rfl (.agg _) (.t m0 .nil)) (fun w hw => ?_)
    exact ⟨rfl, hw.sub (List.nil_sublist _)⟩
   · exfalso; first | (simp at hc2; done) | (simp only [Bool.and_eq_true, Bool.or_eq_true, Bool.not_eq_true', Bool.not_eq_false', Bool.and_eq_false_iff, Bool.or_eq_false_iff, decide_eq_true_eq, decide_eq_false_iff_not, beq_iff_eq, Bool.not_eq_true, Bool.not_eq_false] at hc2; omega) | (simp at hc2; omega)
theorem CHearArg_ans (b : Nat) (now node num since wait wanted : Int) (A : Option Addr) (n c mb : Nat) (k x m : Int) (hk : ¬ ((1 ≤ k ∧ k ≤ 3) ∧ (1 ≤ x ∧ x ≤ 8) ∧ 1 ≤ m ∧ m ≤ 1099511627776)) (w : World) (hin : In w (boxE b 64 [.int .i64 now, .int .i64 node, .int .i64 num, .int .i64 since, .bool true, .int .i64 wait, .int .i64 wanted, .slice A n c, .map (some mb)])) : Calls Try.prog 10 #[.pointer (some ⟨b, 0, none⟩), .agg #[.int .i64 k, .int .i64 x, .int .i64 m]] w (Ans w (.tuple #[.agg #[.int .i64 0, .int .i64 0, .int .i64 0], .int .i64 2])) := by
 have hR := hin.ro
 refine calls_args Try.func10 rfl 43 Try.ntmps10 rfl (St.refl _ no) ?_
 refine tr_kp .all ?_
 refine tr_seq ?_
 -- region 0
 refine tr_plain ?_
 refine r_box [_, _, _] .none (.t m1) rfl (fun _ _ _ => trivial) rfl rfl (fun b3 => ?_)
 refine r_alloc [.int .i64 0, .int .i64 0, .int .i64 0] el45 rfl .none (fun _ _ _ => trivial) rfl rfl (fun b4 => ?_)
 refine r_assign .none (.c _ _) rfl rfl ?_
 refine tl_nil ?_
 refine qt_kp (.k (.k (.k (.k (.d .all))))) ?_
 refine qt_then ?_
 refine tr_seq ?_
 refine tr_block ?_
 refine tr_seq ?_
 -- region 1
 refine tr_plain ?_
 refine r_move .none (.t m3) rfl rfl ?_
 refine r_ans en28 .none (.f _ _) (.cons (.t m0) .nil) (fun hg w hw => cis_ans _ _ _ _ _ _ _ _ _ _ _ w (hw.ro hR)) (fun _ _ => trivial) rfl rfl ?_
 refine r_not .none (.t m0) rfl rfl ?_
 refine r_assign .none (.t m0) rfl rfl ?_
 refine tl_nil ?_
 refine qt_kp (.k (.d (.d (.d .all)))) ?_
 refine qt_then ?_
 -- c0
 refine tr_cond (.t m0) (fun hc0 => ?_) (fun hc0 => ?_)
 · exfalso; first | (simp at hc0; done) | (simp only [Bool.and_eq_true, Bool.or_eq_true, Bool.not_eq_true', Bool.not_eq_false', Bool.and_eq_false_iff, Bool.or_eq_false_iff, decide_eq_true_eq, decide_eq_false_iff_not, beq_iff_eq, Bool.not_eq_true, Bool.not_eq_false] at hc0; omega) | (simp at hc0; omega)
 ·
  try simp only [Bool.and_eq_true, Bool.or_eq_true, Bool.not_eq_true', Bool.not_eq_false', Bool.and_eq_false_iff, Bool.or_eq_false_iff, decide_eq_true_eq, decide_eq_false_iff_not, beq_iff_eq, Bool.not_eq_true, Bool.not_eq_false] at hc0
  refine tr_seq ?_
  -- region 3
  refine tr_plain ?_
  refine r_load [_, _, _] ty45 .none (.t m3) (by first | (refine sees_l ?_; (repeat (first | exact hd | apply tl)); done) | (apply sees_own; apply sees_l; (repeat (first | exact hd | apply tl)); done) | exact sees_r (by assumption)) rfl rfl (.agg _) rfl rfl ?_
  refine r_ans en26 .none (.f _ _) (.cons (.t m0) .nil) (fun hg w hw => valid_ans _ _ _ w) (fun _ _ => trivial) rfl rfl ?_
  refine r_not .none (.t m0) rfl rfl ?_
  refine r_assign .none (.t m0) rfl rfl ?_
  refine tl_nil ?_
  refine qt_kp (.k (.d (.d (.d (.d .all))))) ?_
  refine qt_then ?_
  -- c1
  refine tr_cond (.t m0) (fun hc1 => ?_) (fun hc1 => ?_)
  ·
   try simp only [Bool.and_eq_true, Bool.or_eq_true, Bool.not_eq_true', Bool.not_eq_false', Bool.and_eq_false_iff, Bool.or_eq_false_iff, decide_eq_true_eq, decide_eq_false_iff_not, beq_iff_eq, Bool.not_eq_true, Bool.not_eq_false] at hc1
   refine tr_seq ?_
   -- region 4
   refine tr_plain ?_
   refine r_build [_, _, _] bd45 .none .nil rfl rfl rfl ?_
   refine r_store [_, _, _] ty45 .none (.t m3) (.t m0) (Take.perm (by repeat (first | exact .hd | apply Take.tl))) rfl rfl rfl rfl (fun _ _ => trivial) ?_
   refine tl_kp (.k (.k (.d .all))) ?_
   refine r_assign .none (.c _ _) rfl rfl ?_
   refine tl_nil ?_
   refine qt_kp (.k (.d (.d .all))) ?_
   refine qt_then ?_
   refine tr_ret ?_
   refine qt_block_ret ?_
   refine qt_then_ret ?_
   refine qt_fin_ret rfl Try.results10 (.c [_, _, _] ty45 m1 (by repeat (first | exact hd | apply tl)) rfl rfl (.agg _) (.t m0 .nil)) (fun w hw => ?_)
   exact ⟨rfl, hw.sub (List.nil_sublist _)⟩
  · exfalso; first | (simp at hc1; done) | (simp only [Bool.and_eq_true, Bool.or_eq_true, Bool.not_eq_true', Bool.not_eq_false', Bool.and_eq_false_iff, Bool.or_eq_false_iff, decide_eq_true_eq, decide_eq_false_iff_not, beq_iff_eq, Bool.not_eq_true, Bool.not_eq_false] at hc1; omega) | (simp at hc1; omega)
theorem NewNode_new (number term : Int) (h : (1 ≤ number ∧ number ≤ 8) ∧ 1 ≤ term ∧ term ≤ 100000) (w : World) : Calls Try.prog 7 #[.int .i64 number, .int .i64 term] w (Gives w no (fun b : Nat => .tuple #[.pointer (some ⟨b, 0, none⟩), .int .i64 0]) (fun _ => True) (fun b => [boxE b 70 [.int .i64 0, .bool true, .int .i64 number, .int .i64 term, .int .i64 0, .int .i64 0, .slice none 0 0]])) := by
 refine calls_args Try.func7 rfl 18 Try.ntmps7 rfl (St.refl _ no) ?_
 refine tr_kp .all ?_
 refine tr_seq ?_
 -- region 0
 refine tr_plain ?_
 refine r_assign .none (.c _ _) rfl rfl ?_
 refine r_assign .none (.c _ _) rfl rfl ?_
 refine tl_nil ?_
 refine qt_then ?_
 refine tr_seq ?_
 refine tr_seq ?_
 -- region 1
 refine tr_plain ?_
 refine r_move .none (.t m2) rfl rfl ?_
 refine r_ans en21 .none (.f _ _) (.cons (.t m0) (.cons (.c _ _) (.cons (.c _ _) .nil))) (fun hg w hw => within_ans _ _ _ w) (fun _ _ => trivial) rfl rfl ?_
 refine r_not .none (.t m0) rfl rfl ?_
 refine r_move .none (.t m0) rfl rfl ?_
 refine r_move (.neg rfl m0) (.t m7) rfl rfl ?_
 refine r_ans en21 (.neg rfl m1) (.f _ _) (.cons (.s m0) (.cons (.c _ _) (.cons (.c _ _) .nil))) (fun hg w hw => within_ans _ _ _ w) (fun _ _ => trivial) rfl rfl ?_
 refine r_not (.neg rfl m2) (.s m0) rfl rfl ?_
 refine r_or .none (.t m3) (.s m0) rfl rfl ?_
 refine tl_nil ?_
 refine qt_kp (.k (.d (.d (.d (.d (.d (.d (.d .all)))))))) ?_
 refine qt_then ?_
 -- c0
 refine tr_cond (.t m0) (fun hc0 => ?_) (fun hc0 => ?_)
 · exfalso; first | (simp at hc0; done) | (simp only [Bool.and_eq_true, Bool.or_eq_true, Bool.not_eq_true', Bool.not_eq_false', Bool.and_eq_false_iff, Bool.or_eq_false_iff, decide_eq_true_eq, decide_eq_false_iff_not, beq_iff_eq, Bool.not_eq_true, Bool.not_eq_false] at hc0; omega) | (simp at hc0; omega)
 ·
  try simp only [Bool.and_eq_true, Bool.or_eq_true, Bool.not_eq_true', Bool.not_eq_false', Bool.and_eq_false_iff, Bool.or_eq_false_iff, decide_eq_true_eq, decide_eq_false_iff_not, beq_iff_eq, Bool.not_eq_true, Bool.not_eq_false] at hc0
  refine tr_skip ?_
  refine qt_then ?_
  refine tr_seq ?_
  -- region 3
  refine tr_plain ?_
  refine r_move .none (.t m3) rfl rfl ?_
  refine r_move .none (.t m5) rfl rfl ?_
  refine r_build [_, _, _, _, _, _, _] bd70 .none (.cons (.c _ _) (.cons (.t m1) (.cons (.t m0) .nil))) rfl rfl rfl ?_
  refine r_box [_, _, _, _, _, _, _] .none (.t m0) rfl (fun _ _ _ => trivial) rfl rfl (fun b17 => ?_)
  refine tl_kp (.k (.k (.k (.k (.k (.k (.d .all))))))) ?_
  refine r_assign .none (.t m0) rfl rfl ?_
  refine tl_kp (.k (.k (.k (.k (.k (.k (.d .all))))))) ?_
  refine r_assign .none (.c _ _) rfl rfl ?_
  refine tl_nil ?_
  refine qt_kp (.k (.k (.d (.d (.d (.d (.d (.d (.d .all))))))))) ?_
  refine qt_then ?_
  refine tr_ret ?_
  refine qt_fin_ret rfl Try.results7 (.t m1 (.t m0 .nil)) (fun w hw => ?_)
  exact ⟨b17, trivial, rfl, hw.kl (.cons (by repeat (first | exact .hd | apply Take.tl)) .nil)⟩
theorem NewCentre_new (nn : Nat) (t s : Int) (hn : 1 ≤ nn ∧ nn ≤ 8) (h : (1 ≤ t ∧ t ≤ 100000) ∧ 0 ≤ s ∧ s ≤ 1000) (w : World) : Calls Try.prog 4 #[.int .i64 (nn : Int), .int .i64 t, .int .i64 s] w (Gives w no (fun i : Nat × Nat × Nat => .tuple #[.pointer (some ⟨i.1, 0, none⟩), .int .i64 0]) (fun _ => True) (fun i => [boxE i.1 64 [.int .i64 0, .int .i64 0, .int .i64 0, .int .i64 0, .bool true, .int .i64 (((t * (1000 + s) + 1000 - 1) / 1000 + 1)), .int .i64 0, .slice (some ⟨i.2.1, 0, none⟩) (nn + 1) (nn + 1), .map (some i.2.2)], ownE (some ⟨i.2.1, 0, none⟩) (nn + 1) (nn + 1) 3 1 (((List.replicate (nn + 1) (0 : Int)).map fun g => [Value.int .i64 g])), mapE (Value.int .i64) i.2.2 [(1, .func (.func 22) #[.pointer (some ⟨i.1, 0, none⟩)] #[]), (3, .func (.func 23) #[.pointer (some ⟨i.1, 0, none⟩)] #[])]])) := by
 refine calls_args Try.func4 rfl 40 Try.ntmps4 rfl (St.refl _ no) ?_
 refine tr_kp .all ?_
 refine tr_seq ?_
 -- region 0
 refine tr_plain ?_
 refine r_assign .none (.c _ _) rfl rfl ?_
 refine r_assign .none (.c _ _) rfl rfl ?_
 refine tl_nil ?_
 refine qt_then ?_
 refine tr_seq ?_
 -- region 1
 refine tr_plain ?_
 refine r_move .none (.t m3) rfl rfl ?_
 refine r_move .none (.t m5) rfl rfl ?_
 refine r_ans en5 .none (.f _ _) (.cons (.t m1) (.cons (.t m0) .nil)) (fun hg w hw => wait_ans t s w h) (fun _ _ => trivial) rfl rfl ?_
 refine r_move .none (.t m0) rfl rfl ?_
 refine r_extract .none (.t m0) rfl rfl rfl ?_
 refine r_extract .none (.t m1) rfl rfl rfl ?_
 refine r_assign .none (.t m1) rfl rfl ?_
 refine r_assign .none (.t m1) rfl rfl ?_
 refine tl_nil ?_
 refine qt_kp (.k (.k (.d (.d (.d (.d (.d (.d (.k (.k (.k (.d (.d .all))))))))))))) ?_
 refine qt_then ?_
 refine tr_seq ?_
 refine tr_seq ?_
 -- region 2
 refine tr_plain ?_
 refine r_move .none (.t m0) rfl rfl ?_
 refine r_neq .none (.t m0) (.c _ _) rfl rfl ?_
 refine r_move .none (.t m0) rfl rfl ?_
 refine r_move (.neg rfl m0) (.t m7) rfl rfl ?_
 refine r_ans en21 (.neg rfl m1) (.f _ _) (.cons (.s m0) (.cons (.c _ _) (.cons (.c _ _) .nil))) (fun hg w hw => within_ans _ _ _ w) (fun _ _ => trivial) rfl rfl ?_
 refine r_not (.neg rfl m2) (.s m0) rfl rfl ?_
 refine r_or .none (.t m3) (.s m0) rfl rfl ?_
 refine tl_nil ?_
 refine qt_kp (.k (.d (.d (.d (.d (.d (.d (.d .all)))))))) ?_
 refine qt_then ?_
 -- c0
 refine tr_cond (.t m0) (fun hc0 => ?_) (fun hc0 => ?_)
 · exfalso; first | (simp at hc0; done) | (simp only [Bool.and_eq_true, Bool.or_eq_true, Bool.not_eq_true', Bool.not_eq_false', Bool.and_eq_false_iff, Bool.or_eq_false_iff, decide_eq_true_eq, decide_eq_false_iff_not, beq_iff_eq, Bool.not_eq_true, Bool.not_eq_false] at hc0; omega) | (simp at hc0; omega)
 ·
  try simp only [Bool.and_eq_true, Bool.or_eq_true, Bool.not_eq_true', Bool.not_eq_false', Bool.and_eq_false_iff, Bool.or_eq_false_iff, decide_eq_true_eq, decide_eq_false_iff_not, beq_iff_eq, Bool.not_eq_true, Bool.not_eq_false] at hc0
  refine tr_skip ?_
  refine qt_then ?_
  refine tr_seq ?_
  -- region 4
  refine tr_plain ?_
  refine r_move .none (.t m1) rfl rfl ?_
  refine r_move .none (.t m5) rfl rfl ?_
  refine r_add .none (.t m0) (.c _ _) (fun _ => by omega) rfl rfl ?_
  refine r_makeSlice (n := (nn + 1)) sl40 el3 .none (.t m0) (.t m0) (by omega) (by omega) (by omega) (fun _ _ _ => trivial) rfl rfl (fun b27 => ?_)
  refine r_build [_, _, _, _, _, _, _, _, _] bd64 .none (.cons (.c _ _) (.cons (.t m3) (.cons (.t m0) .nil))) rfl rfl rfl ?_
  refine r_box [_, _, _, _, _, _, _, _, _] .none (.t m0) rfl (fun _ _ _ => trivial) rfl rfl (fun b29 => ?_)
  refine r_assign .none (.t m0) rfl rfl ?_
  refine tl_nil ?_
  refine qt_kp (.k (.d (.d (.d (.d (.d (.d (.d (.d (.k (.k (.d .all)))))))))))) ?_
  refine qt_then ?_
  refine tr_seq ?_
  -- region 5
  refine tr_plain ?_
  refine r_move .none (.t m0) rfl rfl ?_
  refine r_makeMap (Value.int .i64) .none (fun _ _ _ => trivial) rfl rfl (fun mb31 => ?_)
  refine r_move .none (.t m2) rfl rfl ?_
  refine r_makeFuncF .none (.cons (.t m0) .nil) .nil rfl rfl ?_
  refine r_insert Try.underlying62 ke3 .none (.t m2) (.c _ _) (.t m0) (by repeat (first | exact .hd | apply Take.tl)) (fun _ _ => trivial) ?_
  refine r_move .none (.t m4) rfl rfl ?_
  refine r_makeFuncF .none (.cons (.t m0) .nil) .nil rfl rfl ?_
  refine r_insert Try.underlying62 ke3 .none (.t m4) (.c _ _) (.t m0) (by repeat (first | exact .hd | apply Take.tl)) (fun _ _ => trivial) ?_
  refine r_move .none (.t m4) rfl rfl ?_
  refine r_nilCheckP .none (.t m6) rfl rfl ?_
  refine r_fieldAddr fd64_6 .none (.t m0) rfl rfl ?_
  refine r_store [_, _, _, _, _, _, _, _, _] ty62 .none (.t m0) (.t m2) (Take.perm (by repeat (first | exact .hd | apply Take.tl))) rfl rfl rfl rfl (fun _ _ => trivial) ?_
  refine tl_nil ?_
  refine qt_kp (.d (.d (.d (.d (.d (.d (.d (.d (.d .all))))))))) ?_
  refine qt_then ?_
  refine tr_seq ?_
  -- region 6
  refine tr_plain ?_
  refine r_move .none (.t m0) rfl rfl ?_
  refine tl_kp (.k (.k (.k (.d .all)))) ?_
  refine r_assign .none (.t m0) rfl rfl ?_
  refine tl_kp (.k (.k (.k (.d .all)))) ?_
  refine r_assign .none (.c _ _) rfl rfl ?_
  refine tl_nil ?_
  refine qt_kp (.k (.k (.d (.d .all)))) ?_
  refine qt_then ?_
  refine tr_ret ?_
  refine qt_fin_ret rfl Try.results4 (.t m1 (.t m0 .nil)) (fun w hw => ?_)
  refine ⟨(b29, b27, mb31), trivial, rfl, ?_⟩
  rw [List.map_replicate]
  exact hw.kl (.cons (by repeat (first | exact .hd | apply Take.tl)) (.cons (by repeat (first | exact .hd | apply Take.tl)) (.cons (by repeat (first | exact .hd | apply Take.tl)) .nil)))
end Go.Proofs.Ytpmnbenmjkeacaa
