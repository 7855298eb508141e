/- A part of the proof of this claim's statement: contracts and walks. -/
import Derived.Test.YtpmnbenmjkeacaaProg
import Derived.Test.YtpmnbenmjkeacaaSepK
set_option linter.unusedVariables false
set_option linter.unusedSimpArgs false
set_option maxHeartbeats 1000000
namespace Go.Proofs.Ytpmnbenmjkeacaa
open Go Go.RowKit Go.Sep
theorem fd64_2 : FdS Try.prog 64 2 false 4 1 := .of (by kernel_rfl)
theorem ty4 : TyS Try.prog 4 false 1 := .of (by kernel_rfl)
theorem fd70_1 : FdS Try.prog 70 1 false 1 1 := .of (by kernel_rfl)
theorem fd45_0 : FdS Try.prog 45 0 false 0 1 := .of (by kernel_rfl)
theorem ty3 : TyS Try.prog 3 false 1 := .of (by kernel_rfl)
theorem en21 : EntersF Try.prog 21 := Go.Proofs.enters_of Try.func21 (by kernel_rfl) rfl
theorem fd45_1 : FdS Try.prog 45 1 false 1 1 := .of (by kernel_rfl)
theorem fd45_2 : FdS Try.prog 45 2 false 2 1 := .of (by kernel_rfl)
theorem within_ans (n l m : Int) (w : World) : Calls Try.prog 21 #[.int .i64 n, .int .i64 l, .int .i64 m] w (Ans w (.bool (decide (l ≤ n) && decide (n ≤ m)))) := by
 refine calls_args Try.func21 rfl 15 Try.ntmps21 rfl (St.refl _ no) ?_
 refine tr_kp .all ?_
 refine tr_seq ?_
 -- region 0
 refine tr_plain ?_
 refine r_assign .none (.c _ _) rfl rfl ?_
 refine tl_nil ?_
 refine qt_then ?_
 refine tr_seq ?_
 -- region 1
 refine tr_plain ?_
 refine r_move .none (.t m2) rfl rfl ?_
 refine r_move .none (.t m2) rfl rfl ?_
 refine r_leq .none (.t m1) (.t m0) rfl rfl ?_
 refine r_move .none (.t m0) rfl rfl ?_
 refine r_move (.pos rfl m0) (.t m5) rfl rfl ?_
 refine r_move (.pos rfl m1) (.t m8) rfl rfl ?_
 refine r_leq (.pos rfl m2) (.s m1) (.s m0) rfl rfl ?_
 refine r_and .none (.t m3) (.s m0) rfl rfl ?_
 refine tl_kp (.k (.k (.k (.k (.k (.k (.k (.k (.d .all))))))))) ?_
 refine r_assign .none (.t m0) rfl rfl ?_
 refine tl_nil ?_
 refine qt_kp (.k (.d (.d (.d (.d (.d (.d (.d (.d (.d (.d (.d .all)))))))))))) ?_
 refine qt_then ?_
 refine tr_ret ?_
 refine qt_fin_ret rfl Try.results21 (.t m0 .nil) (fun w hw => ?_)
 exact ⟨rfl, hw.sub (List.nil_sublist _)⟩
theorem upped_ans (n d : Int) (w : World) (hn : 0 ≤ n) (hn2 : n ≤ 1000000000000) (hd : 0 < d) (hd2 : d ≤ 1000000000000) : Calls Try.prog 6 #[.int .i64 n, .int .i64 d] w (Ans w (.int .i64 ((n + d - 1) / d))) := by
 refine calls_args Try.func6 rfl 11 Try.ntmps6 rfl (St.refl _ no) ?_
 refine tr_kp .all ?_
 refine tr_seq ?_
 -- region 0
 refine tr_plain ?_
 refine r_assign .none (.c _ _) rfl rfl ?_
 refine tl_nil ?_
 refine qt_then ?_
 refine tr_seq ?_
 -- region 1
 refine tr_plain ?_
 refine r_move .none (.t m1) rfl rfl ?_
 refine r_move .none (.t m3) rfl rfl ?_
 refine r_add .none (.t m1) (.t m0) (fun _ => by omega) rfl rfl ?_
 refine r_sub .none (.t m0) (.c _ _) (fun _ => by omega) rfl rfl ?_
 refine r_move .none (.t m6) rfl rfl ?_
 refine r_quo .none (.t m1) (.t m0) (fun _ => by omega) (fun _ => by omega) rfl rfl ?_
 refine tl_kp (.k (.k (.k (.k (.k (.k (.d .all))))))) ?_
 refine r_assign .none (.t m0) rfl rfl ?_
 refine tl_nil ?_
 refine qt_kp (.k (.d (.d (.d (.d (.d (.d (.d (.d .all))))))))) ?_
 refine qt_then ?_
 refine tr_ret ?_
 refine qt_fin_ret rfl Try.results6 (.t m0 .nil) (fun w hw => ?_)
 refine ⟨?_, hw.sub (List.nil_sublist _)⟩
 rw [Int.tdiv_eq_ediv_of_nonneg (by omega)]; rfl
theorem cis_ans (b : Nat) (now node num since wait wanted : Int) (A : Option Addr) (n c mb : Nat) (w : World) (hin : In w (boxE b 64 [.int .i64 now, .int .i64 node, .int .i64 num, .int .i64 since, .bool true, .int .i64 wait, .int .i64 wanted, .slice A n c, .map (some mb)])) : Calls Try.prog 28 #[.pointer (some ⟨b, 0, none⟩)] w (Ans w (.bool true)) := by
 have hR := hin.ro
 refine calls_args Try.func28 rfl 11 Try.ntmps28 rfl (St.refl _ no) ?_
 refine tr_kp .all ?_
 refine tr_seq ?_
 -- region 0
 refine tr_plain ?_
 refine r_assign .none (.c _ _) rfl rfl ?_
 refine tl_nil ?_
 refine qt_then ?_
 refine tr_seq ?_
 -- region 1
 refine tr_plain ?_
 refine r_move .none (.t m1) rfl rfl ?_
 refine r_neqNil Try.underlying24 .none (.t m0) rfl rfl ?_
 refine r_move .none (.t m0) rfl rfl ?_
 refine r_move (.pos rfl m0) (.t m4) rfl rfl ?_
 refine r_nilCheckP (.pos rfl m1) (.s m0) rfl rfl ?_
 refine r_fieldAddr fd64_2 (.pos rfl m2) (.s m0) rfl rfl ?_
 refine r_load [_] ty4 (.pos rfl m3) (.s m0) (by first | (refine sees_l ?_; (repeat (first | exact hd | apply tl)); done) | (apply sees_own; apply sees_l; (repeat (first | exact hd | apply tl)); done) | exact sees_r (by assumption)) rfl rfl (.one _) rfl rfl ?_
 refine r_and .none (.t m4) (.s m0) rfl rfl ?_
 refine tl_kp (.k (.k (.k (.k (.k (.k (.k (.k (.d .all))))))))) ?_
 refine r_assign .none (.t m0) rfl rfl ?_
 refine tl_nil ?_
 refine qt_kp (.k (.d (.d (.d (.d (.d (.d (.d (.d (.d .all)))))))))) ?_
 refine qt_then ?_
 refine tr_ret ?_
 refine qt_fin_ret rfl Try.results28 (.t m0 .nil) (fun w hw => ?_)
 exact ⟨rfl, hw.sub (List.nil_sublist _)⟩
theorem nis_ans (b : Nat) (now number term en last : Int) (A : Option Addr) (n c : Nat) (w : World) (hin : In w (boxE b 70 [.int .i64 now, .bool true, .int .i64 number, .int .i64 term, .int .i64 en, .int .i64 last, .slice A n c])) : Calls Try.prog 24 #[.pointer (some ⟨b, 0, none⟩)] w (Ans w (.bool true)) := by
 have hR := hin.ro
 refine calls_args Try.func24 rfl 11 Try.ntmps24 rfl (St.refl _ no) ?_
 refine tr_kp .all ?_
 refine tr_seq ?_
 -- region 0
 refine tr_plain ?_
 refine r_assign .none (.c _ _) rfl rfl ?_
 refine tl_nil ?_
 refine qt_then ?_
 refine tr_seq ?_
 -- region 1
 refine tr_plain ?_
 refine r_move .none (.t m1) rfl rfl ?_
 refine r_neqNil Try.underlying33 .none (.t m0) rfl rfl ?_
 refine r_move .none (.t m0) rfl rfl ?_
 refine r_move (.pos rfl m0) (.t m4) rfl rfl ?_
 refine r_nilCheckP (.pos rfl m1) (.s m0) rfl rfl ?_
 refine r_fieldAddr fd70_1 (.pos rfl m2) (.s m0) rfl rfl ?_
 refine r_load [_] ty4 (.pos rfl m3) (.s m0) (by first | (refine sees_l ?_; (repeat (first | exact hd | apply tl)); done) | (apply sees_own; apply sees_l; (repeat (first | exact hd | apply tl)); done) | exact sees_r (by assumption)) rfl rfl (.one _) rfl rfl ?_
 refine r_and .none (.t m4) (.s m0) rfl rfl ?_
 refine tl_kp (.k (.k (.k (.k (.k (.k (.k (.k (.d .all))))))))) ?_
 refine r_assign .none (.t m0) rfl rfl ?_
 refine tl_nil ?_
 refine qt_kp (.k (.d (.d (.d (.d (.d (.d (.d (.d (.d .all)))))))))) ?_
 refine qt_then ?_
 refine tr_ret ?_
 refine qt_fin_ret rfl Try.results24 (.t m0 .nil) (fun w hw => ?_)
 exact ⟨rfl, hw.sub (List.nil_sublist _)⟩
theorem valid_ans (k n m : Int) (w : World) : Calls Try.prog 26 #[.agg #[.int .i64 k, .int .i64 n, .int .i64 m]] w (Ans w (.bool ((decide (1 ≤ k) && decide (k ≤ 3)) && (decide (1 ≤ n) && decide (n ≤ 8)) && (decide (1 ≤ m) && decide (m ≤ 1099511627776))))) := by
 refine calls_args Try.func26 rfl 16 Try.ntmps26 rfl (St.refl _ no) ?_
 refine tr_kp .all ?_
 refine tr_seq ?_
 -- region 0
 refine tr_plain ?_
 refine r_box [_, _, _] .none (.t m0) rfl (fun _ _ _ => trivial) rfl rfl (fun b1 => ?_)
 refine r_assign .none (.c _ _) rfl rfl ?_
 refine tl_nil ?_
 refine qt_kp (.k (.k (.d .all))) ?_
 refine qt_then ?_
 refine tr_seq ?_
 -- region 1
 refine tr_plain ?_
 refine r_fieldAddr fd45_0 .none (.t m1) rfl rfl ?_
 refine r_load [_] ty3 .none (.t m0) (by first | (refine sees_l ?_; (repeat (first | exact hd | apply tl)); done) | (apply sees_own; apply sees_l; (repeat (first | exact hd | apply tl)); done) | exact sees_r (by assumption)) rfl rfl (.one _) rfl rfl ?_
 refine r_ans en21 .none (.f _ _) (.cons (.t m0) (.cons (.c _ _) (.cons (.c _ _) .nil))) (fun hg w hw => within_ans _ _ _ w) (fun _ _ => trivial) rfl rfl ?_
 refine r_move .none (.t m0) rfl rfl ?_
 refine r_fieldAddr fd45_1 (.pos rfl m0) (.t m5) rfl rfl ?_
 refine r_load [_] ty3 (.pos rfl m1) (.s m0) (by first | (refine sees_l ?_; (repeat (first | exact hd | apply tl)); done) | (apply sees_own; apply sees_l; (repeat (first | exact hd | apply tl)); done) | exact sees_r (by assumption)) rfl rfl (.one _) rfl rfl ?_
 refine r_ans en21 (.pos rfl m2) (.f _ _) (.cons (.s m0) (.cons (.c _ _) (.cons (.c _ _) .nil))) (fun hg w hw => within_ans _ _ _ w) (fun _ _ => trivial) rfl rfl ?_
 refine r_and .none (.t m3) (.s m0) rfl rfl ?_
 refine r_move .none (.t m0) rfl rfl ?_
 refine r_fieldAddr fd45_2 (.pos rfl m0) (.t m10) rfl rfl ?_
 refine r_load [_] ty3 (.pos rfl m1) (.s m0) (by first | (refine sees_l ?_; (repeat (first | exact hd | apply tl)); done) | (apply sees_own; apply sees_l; (repeat (first | exact hd | apply tl)); done) | exact sees_r (by assumption)) rfl rfl (.one _) rfl rfl ?_
 refine r_ans en21 (.pos rfl m2) (.f _ _) (.cons (.s m0) (.cons (.c _ _) (.cons (.c _ _) .nil))) (fun hg w hw => within_ans _ _ _ w) (fun _ _ => trivial) rfl rfl ?_
 refine r_and .none (.t m3) (.s m0) rfl rfl ?_
 refine tl_kp (.k (.k (.k (.k (.k (.k (.k (.k (.k (.k (.k (.k (.k (.d .all)))))))))))))) ?_
 refine r_assign .none (.t m0) rfl rfl ?_
 refine tl_nil ?_
 refine qt_kp (.k (.d (.d (.d (.d (.d (.d (.d (.d (.d (.d (.d (.d (.d (.d .all))))))))))))))) ?_
 refine qt_then ?_
 refine tr_ret ?_
 refine qt_fin_ret rfl Try.results26 (.t m0 .nil) (fun w hw => ?_)
 exact ⟨rfl, hw.sub (List.nil_sublist _)⟩
theorem wait_ans (t s : Int) (w : World) (h : (1 ≤ t ∧ t ≤ 100000) ∧ 0 ≤ s ∧ s ≤ 1000) : Calls Try.prog 5 #[.int .i64 t, .int .i64 s] w (Ans w (.tuple #[.int .i64 ((t * (1000 + s) + 1000 - 1) / 1000 + 1), .int .i64 0])) := by
 refine calls_args Try.func5 rfl 22 Try.ntmps5 rfl (St.refl _ no) ?_
 refine tr_kp .all ?_
 refine tr_seq ?_
 -- region 0
 refine tr_plain ?_
 refine r_assign .none (.c _ _) rfl rfl ?_
 refine r_assign .none (.c _ _) rfl rfl ?_
 refine tl_nil ?_
 refine qt_then ?_
 refine tr_seq ?_
 refine tr_seq ?_
 -- region 1
 refine tr_plain ?_
 refine r_move .none (.t m2) rfl rfl ?_
 refine r_ans en21 .none (.f _ _) (.cons (.t m0) (.cons (.c _ _) (.cons (.c _ _) .nil))) (fun hg w hw => within_ans _ _ _ w) (fun _ _ => trivial) rfl rfl ?_
 refine r_not .none (.t m0) rfl rfl ?_
 refine r_move .none (.t m0) rfl rfl ?_
 refine r_move (.neg rfl m0) (.t m7) rfl rfl ?_
 refine r_ans en21 (.neg rfl m1) (.f _ _) (.cons (.s m0) (.cons (.c _ _) (.cons (.c _ _) .nil))) (fun hg w hw => within_ans _ _ _ w) (fun _ _ => trivial) rfl rfl ?_
 refine r_not (.neg rfl m2) (.s m0) rfl rfl ?_
 refine r_or .none (.t m3) (.s m0) rfl rfl ?_
 refine tl_nil ?_
 refine qt_kp (.k (.d (.d (.d (.d (.d (.d (.d .all)))))))) ?_
 refine qt_then ?_
 -- c0
 refine tr_cond (.t m0) (fun hc0 => ?_) (fun hc0 => ?_)
 · exfalso; first | (simp at hc0; done) | (simp only [Bool.and_eq_true, Bool.or_eq_true, Bool.not_eq_true', Bool.not_eq_false', Bool.and_eq_false_iff, Bool.or_eq_false_iff, decide_eq_true_eq, decide_eq_false_iff_not, beq_iff_eq, Bool.not_eq_true, Bool.not_eq_false] at hc0; omega) | (simp at hc0; omega)
 ·
  refine tr_skip ?_
  refine qt_then ?_
  refine tr_seq ?_
  -- region 3
  have hm1 : 0 ≤ t * (1000 + s) := Int.mul_nonneg (by omega) (by omega)
  have hm2 : t * (1000 + s) ≤ 100000 * (1000 + s) := Int.mul_le_mul_of_nonneg_right (by omega) (by omega)
  have hm3 : (t * (1000 + s) + 1000 - 1) / 1000 ≤ t * (1000 + s) + 1000 - 1 := Int.ediv_le_self _ (by omega)
  have hm4 : 0 ≤ (t * (1000 + s) + 1000 - 1) / 1000 := by omega
  have hm5 : (t * (1000 + s) + 1000 - 1).tdiv 1000 = (t * (1000 + s) + 1000 - 1) / 1000 := Int.tdiv_eq_ediv_of_nonneg (by omega)
  refine tr_plain ?_
  refine r_move .none (.t m3) rfl rfl ?_
  refine r_move .none (.t m5) rfl rfl ?_
  refine r_add .none (.c _ _) (.t m0) (fun _ => by omega) rfl rfl ?_
  refine r_mul .none (.t m2) (.t m0) (fun _ => by omega) rfl rfl ?_
  refine r_add .none (.t m0) (.c _ _) (fun _ => by omega) rfl rfl ?_
  refine r_sub .none (.t m0) (.c _ _) (fun _ => by omega) rfl rfl ?_
  refine r_quo .none (.t m0) (.c _ _) (fun _ => by omega) (fun _ => by omega) rfl rfl ?_
  refine r_add .none (.t m0) (.c _ _) (fun _ => by rw [hm5]; omega) rfl rfl ?_
  refine tl_kp (.k (.k (.k (.k (.k (.k (.k (.k (.k (.k (.d .all))))))))))) ?_
  refine r_assign .none (.t m0) rfl rfl ?_
  refine tl_kp (.k (.k (.k (.k (.k (.k (.k (.k (.k (.k (.d .all))))))))))) ?_
  refine r_assign .none (.c _ _) rfl rfl ?_
  refine tl_nil ?_
  refine qt_kp (.k (.k (.d (.d (.d (.d (.d (.d (.d (.d (.d (.d (.d .all))))))))))))) ?_
  refine qt_then ?_
  refine tr_ret ?_
  refine qt_fin_ret rfl Try.results5 (.t m1 (.t m0 .nil)) (fun w hw => ?_)
  refine ⟨?_, hw.sub (List.nil_sublist _)⟩
  rw [hm5]; rfl
end Go.Proofs.Ytpmnbenmjkeacaa
