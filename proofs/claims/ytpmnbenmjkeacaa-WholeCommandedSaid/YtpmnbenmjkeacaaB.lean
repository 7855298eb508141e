/- A part of the proof of this claim's statement: contracts and walks. -/
import Derived.Test.YtpmnbenmjkeacaaA
set_option linter.unusedVariables false
set_option linter.unusedSimpArgs false
set_option maxHeartbeats 1000000
namespace Go.Proofs.Ytpmnbenmjkeacaa
open Go Go.RowKit Go.Sep
theorem fd59_0 : FdS Try.prog 59 0 false 0 1 := .of (by kernel_rfl)
theorem en24 : EntersF Try.prog 24 := Go.Proofs.enters_of Try.func24 (by kernel_rfl) rfl
theorem fd70_0 : FdS Try.prog 70 0 true 0 1 := .of (by kernel_rfl)
theorem en30 : EntersF Try.prog 30 := Go.Proofs.enters_of Try.func30 (by kernel_rfl) rfl
theorem bd68 : BdS Try.prog 68 [.slice none 0 0] [(0, 1)] := .of (by kernel_rfl) (by kernel_rfl)
theorem fd70_4 : FdS Try.prog 70 4 false 4 1 := .of (by kernel_rfl)
theorem fd70_6 : FdS Try.prog 70 6 true 6 1 := .of (by kernel_rfl)
theorem ty68 : TyS Try.prog 68 true 1 := .of (by kernel_rfl)
theorem en29 : EntersF Try.prog 29 := Go.Proofs.enters_of Try.func29 (by kernel_rfl) rfl
theorem el45 : ElS Try.prog 45 (.agg #[.int .i64 0, .int .i64 0, .int .i64 0]) 3 24 := ⟨by kernel_rfl, rfl⟩
theorem fd70_5 : FdS Try.prog 70 5 false 5 1 := .of (by kernel_rfl)
theorem mixedO : Try.prog.follows .mixedOrders = true := by kernel_rfl
theorem fd70_2 : FdS Try.prog 70 2 false 2 1 := .of (by kernel_rfl)
theorem bd45 : BdS Try.prog 45 [.int .i64 0, .int .i64 0, .int .i64 0] [(0, 1), (1, 1), (2, 1)] := .of (by kernel_rfl) (by kernel_rfl)
theorem ty45 : TyS Try.prog 45 true 3 := .of (by kernel_rfl)
theorem en28 : EntersF Try.prog 28 := Go.Proofs.enters_of Try.func28 (by kernel_rfl) rfl
theorem fd64_0 : FdS Try.prog 64 0 true 0 1 := .of (by kernel_rfl)
theorem bd61 : BdS Try.prog 61 [.int .i64 0, .int .i64 0, .int .i64 0] [(0, 1), (1, 1), (2, 1)] := .of (by kernel_rfl) (by kernel_rfl)
theorem fd64_1 : FdS Try.prog 64 1 true 1 3 := .of (by kernel_rfl)
theorem ty61 : TyS Try.prog 61 true 3 := .of (by kernel_rfl)
theorem fd61_0 : FdS Try.prog 61 0 false 0 1 := .of (by kernel_rfl)
theorem fd61_2 : FdS Try.prog 61 2 false 2 1 := .of (by kernel_rfl)
theorem fd64_3 : FdS Try.prog 64 3 false 5 1 := .of (by kernel_rfl)
theorem fd64_5 : FdS Try.prog 64 5 false 7 1 := .of (by kernel_rfl)
theorem ty40 : TyS Try.prog 40 false 1 := .of (by kernel_rfl)
theorem fd64_4 : FdS Try.prog 64 4 false 6 1 := .of (by kernel_rfl)
theorem ntick_turn (b : Nat) (now number term en last : Int) (A : Option Addr) (n c : Nat) (hnow : -4611686018427387904 ≤ now ∧ now ≤ 4611686018427387904) (w : World) (h0 : St w (· ∈ (allE [boxE b 70 [.int .i64 now, .bool true, .int .i64 number, .int .i64 term, .int .i64 en, .int .i64 last, .slice A n c]]).foot) [boxE b 70 [.int .i64 now, .bool true, .int .i64 number, .int .i64 term, .int .i64 en, .int .i64 last, .slice A n c]] w)  : Calls Try.prog 30 #[.pointer (some ⟨b, 0, none⟩)] w (Gives w (· ∈ (allE [boxE b 70 [.int .i64 now, .bool true, .int .i64 number, .int .i64 term, .int .i64 en, .int .i64 last, .slice A n c]]).foot) (fun (_ : Unit) => .tuple #[]) (fun (_ : Unit) => True) (fun (_ : Unit) => [boxE b 70 [.int .i64 (now + 1), .bool true, .int .i64 number, .int .i64 term, .int .i64 en, .int .i64 last, .slice A n c]])) := by
 refine calls_args Try.func30 rfl 9 Try.ntmps30 rfl h0 ?_
 refine tr_kp .all ?_
 -- region 0
 refine tr_plain ?_
 refine r_move .none (.t m0) rfl rfl ?_
 refine r_nilCheckP .none (.t m0) rfl rfl ?_
 refine r_fieldAddr fd59_0 .none (.t m0) rfl rfl ?_
 refine r_load [_] ty3 .none (.t m0) (by first | (refine sees_l ?_; (repeat (first | exact hd | apply tl)); done) | (apply sees_own; apply sees_l; (repeat (first | exact hd | apply tl)); done) | exact sees_r (by assumption)) rfl rfl (.one _) rfl rfl ?_
 refine r_add .none (.t m0) (.c _ _) (fun _ => by omega) rfl rfl ?_
 refine r_nilCheckP .none (.t m4) rfl rfl ?_
 refine r_fieldAddr fd59_0 .none (.t m0) rfl rfl ?_
 refine r_store [_, _, _, _, _, _, _] ty3 .none (.t m0) (.t m2) (Take.perm (by repeat (first | exact .hd | apply Take.tl))) rfl rfl rfl rfl (fun _ _ => trivial) ?_
 refine tl_nil ?_
 refine qt_kp (.d (.d (.d (.d (.d (.d (.d (.d .all)))))))) ?_
 refine qt_fin rfl Try.results30 .nil (fun w hw => ?_)
 exact ⟨(), trivial, rfl, hw.kl (.cons (by repeat (first | exact .hd | apply Take.tl)) .nil)⟩
theorem ctick_turn (b : Nat) (now node num since wait wanted : Int) (A : Option Addr) (n c mb : Nat) (hnow : -4611686018427387904 ≤ now ∧ now ≤ 4611686018427387904) (w : World) (h0 : St w (· ∈ (allE [boxE b 64 [.int .i64 now, .int .i64 node, .int .i64 num, .int .i64 since, .bool true, .int .i64 wait, .int .i64 wanted, .slice A n c, .map (some mb)]]).foot) [boxE b 64 [.int .i64 now, .int .i64 node, .int .i64 num, .int .i64 since, .bool true, .int .i64 wait, .int .i64 wanted, .slice A n c, .map (some mb)]] w)  : Calls Try.prog 30 #[.pointer (some ⟨b, 0, none⟩)] w (Gives w (· ∈ (allE [boxE b 64 [.int .i64 now, .int .i64 node, .int .i64 num, .int .i64 since, .bool true, .int .i64 wait, .int .i64 wanted, .slice A n c, .map (some mb)]]).foot) (fun (_ : Unit) => .tuple #[]) (fun (_ : Unit) => True) (fun (_ : Unit) => [boxE b 64 [.int .i64 (now + 1), .int .i64 node, .int .i64 num, .int .i64 since, .bool true, .int .i64 wait, .int .i64 wanted, .slice A n c, .map (some mb)]])) := by
 refine calls_args Try.func30 rfl 9 Try.ntmps30 rfl h0 ?_
 refine tr_kp .all ?_
 -- region 0
 refine tr_plain ?_
 refine r_move .none (.t m0) rfl rfl ?_
 refine r_nilCheckP .none (.t m0) rfl rfl ?_
 refine r_fieldAddr fd59_0 .none (.t m0) rfl rfl ?_
 refine r_load [_] ty3 .none (.t m0) (by first | (refine sees_l ?_; (repeat (first | exact hd | apply tl)); done) | (apply sees_own; apply sees_l; (repeat (first | exact hd | apply tl)); done) | exact sees_r (by assumption)) rfl rfl (.one _) rfl rfl ?_
 refine r_add .none (.t m0) (.c _ _) (fun _ => by omega) rfl rfl ?_
 refine r_nilCheckP .none (.t m4) rfl rfl ?_
 refine r_fieldAddr fd59_0 .none (.t m0) rfl rfl ?_
 refine r_store [_, _, _, _, _, _, _, _, _] ty3 .none (.t m0) (.t m2) (Take.perm (by repeat (first | exact .hd | apply Take.tl))) rfl rfl rfl rfl (fun _ _ => trivial) ?_
 refine tl_nil ?_
 refine qt_kp (.d (.d (.d (.d (.d (.d (.d (.d .all)))))))) ?_
 refine qt_fin rfl Try.results30 .nil (fun w hw => ?_)
 exact ⟨(), trivial, rfl, hw.kl (.cons (by repeat (first | exact .hd | apply Take.tl)) .nil)⟩
theorem Tick_turn (b : Nat) (now number term en last : Int) (A : Option Addr) (n c : Nat) (hnow : -4611686018427387904 ≤ now ∧ now ≤ 4611686018427387904) (w : World) (h0 : St w (· ∈ (allE [boxE b 70 [.int .i64 now, .bool true, .int .i64 number, .int .i64 term, .int .i64 en, .int .i64 last, .slice A n c]]).foot) [boxE b 70 [.int .i64 now, .bool true, .int .i64 number, .int .i64 term, .int .i64 en, .int .i64 last, .slice A n c]] w)  : Calls Try.prog 13 #[.pointer (some ⟨b, 0, none⟩)] w (Gives w (· ∈ (allE [boxE b 70 [.int .i64 now, .bool true, .int .i64 number, .int .i64 term, .int .i64 en, .int .i64 last, .slice A n c]]).foot) (fun (_ : Unit) => .int .i64 0) (fun (_ : Unit) => True) (fun (_ : Unit) => [boxE b 70 [.int .i64 (now + 1), .bool true, .int .i64 number, .int .i64 term, .int .i64 en, .int .i64 last, .slice A n c]])) := by
 refine calls_args Try.func13 rfl 10 Try.ntmps13 rfl h0 ?_
 refine tr_kp .all ?_
 refine tr_seq ?_
 -- region 0
 refine tr_plain ?_
 refine r_assign .none (.c _ _) rfl rfl ?_
 refine tl_nil ?_
 refine qt_then ?_
 refine tr_seq ?_
 refine tr_seq ?_
 -- region 1
 refine tr_plain ?_
 refine r_move .none (.t m1) rfl rfl ?_
 refine r_ans en24 .none (.f _ _) (.cons (.t m0) .nil) (fun hg w hw => nis_ans _ _ _ _ _ _ _ _ _ w (hw.in_ m0)) (fun _ _ => trivial) rfl rfl ?_
 refine r_not .none (.t m0) rfl rfl ?_
 refine tl_nil ?_
 refine qt_kp (.k (.d (.d .all))) ?_
 refine qt_then ?_
 -- c0
 refine tr_cond (.t m0) (fun hc0 => ?_) (fun hc0 => ?_)
 · exfalso; first | (simp at hc0; done) | (simp only [Bool.and_eq_true, Bool.or_eq_true, Bool.not_eq_true', Bool.not_eq_false', Bool.and_eq_false_iff, Bool.or_eq_false_iff, decide_eq_true_eq, decide_eq_false_iff_not, beq_iff_eq, Bool.not_eq_true, Bool.not_eq_false] at hc0; omega) | (simp at hc0; omega)
 ·
  try simp only [Bool.and_eq_true, Bool.or_eq_true, Bool.not_eq_true', Bool.not_eq_false', Bool.and_eq_false_iff, Bool.or_eq_false_iff, decide_eq_true_eq, decide_eq_false_iff_not, beq_iff_eq, Bool.not_eq_true, Bool.not_eq_false] at hc0
  refine tr_skip ?_
  refine qt_then ?_
  refine tr_seq ?_
  -- region 3
  refine tr_plain ?_
  refine r_move .none (.t m2) rfl rfl ?_
  refine r_nilCheckP .none (.t m0) rfl rfl ?_
  refine r_fieldAddr fd70_0 .none (.t m0) rfl rfl ?_
  refine r_call _ _ _ en30 .none (.f _ _) (.cons (.t m0) .nil) (fun w hw => callL (.cons .hd .nil) hw (fun h => ntick_turn _ _ _ _ _ _ _ _ _ (by omega) w h)) (fun _ _ _ _ => trivial) rfl rfl ?_
  rintro ⟨⟩ _
  refine tl_nil ?_
  refine qt_kp (.d (.d (.d (.d (.d (.k (.d .all))))))) ?_
  refine qt_then ?_
  refine tr_seq ?_
  -- region 4
  refine tr_plain ?_
  refine tl_kp (.d .all) ?_
  refine r_assign .none (.c _ _) rfl rfl ?_
  refine tl_nil ?_
  refine qt_then ?_
  refine tr_ret ?_
  refine qt_fin_ret rfl Try.results13 (.t m0 .nil) (fun w hw => ?_)
  exact ⟨(), trivial, rfl, hw.kl (.cons (by repeat (first | exact .hd | apply Take.tl)) .nil)⟩
theorem fall_turn (b : Nat) (now number term en last : Int) (A : Option Addr) (n c : Nat) (w : World) (h0 : St w (· ∈ (allE [boxE b 70 [.int .i64 now, .bool true, .int .i64 number, .int .i64 term, .int .i64 en, .int .i64 last, .slice A n c]]).foot) [boxE b 70 [.int .i64 now, .bool true, .int .i64 number, .int .i64 term, .int .i64 en, .int .i64 last, .slice A n c]] w)  : Calls Try.prog 29 #[.pointer (some ⟨b, 0, none⟩)] w (Gives w (· ∈ (allE [boxE b 70 [.int .i64 now, .bool true, .int .i64 number, .int .i64 term, .int .i64 en, .int .i64 last, .slice A n c]]).foot) (fun (_ : Unit) => .tuple #[]) (fun (_ : Unit) => True) (fun (_ : Unit) => [boxE b 70 [.int .i64 now, .bool true, .int .i64 number, .int .i64 term, .int .i64 now, .int .i64 last, .slice none 0 0]])) := by
 refine calls_args Try.func29 rfl 14 Try.ntmps29 rfl h0 ?_
 refine tr_kp .all ?_
 -- region 0
 refine tr_plain ?_
 refine r_move .none (.t m0) rfl rfl ?_
 refine r_move .none (.t m1) rfl rfl ?_
 refine r_move .none (.t m2) rfl rfl ?_
 refine r_nilCheckP .none (.t m0) rfl rfl ?_
 refine r_fieldAddr fd70_0 .none (.t m0) rfl rfl ?_
 refine r_fieldAddr fd59_0 .none (.t m0) rfl rfl ?_
 refine r_load [_] ty3 .none (.t m0) (by first | (refine sees_l ?_; (repeat (first | exact hd | apply tl)); done) | (apply sees_own; apply sees_l; (repeat (first | exact hd | apply tl)); done) | exact sees_r (by assumption)) rfl rfl (.one _) rfl rfl ?_
 refine r_build [_] bd68 .none .nil rfl rfl rfl ?_
 refine r_nilCheckP .none (.t m7) rfl rfl ?_
 refine r_fieldAddr fd70_4 .none (.t m0) rfl rfl ?_
 refine r_store [_, _, _, _, _, _, _] ty3 .none (.t m0) (.t m3) (Take.perm (by repeat (first | exact .hd | apply Take.tl))) rfl rfl rfl rfl (fun _ _ => trivial) ?_
 refine r_nilCheckP .none (.t m8) rfl rfl ?_
 refine r_fieldAddr fd70_6 .none (.t m0) rfl rfl ?_
 refine r_store [_, _, _, _, _, _, _] ty68 .none (.t m0) (.t m4) (Take.perm (by repeat (first | exact .hd | apply Take.tl))) rfl rfl rfl rfl (fun _ _ => trivial) ?_
 refine tl_nil ?_
 refine qt_kp (.d (.d (.d (.d (.d (.d (.d (.d (.d (.d (.d (.d (.d .all))))))))))))) ?_
 refine qt_fin rfl Try.results29 .nil (fun w hw => ?_)
 exact ⟨(), trivial, rfl, hw.kl (.cons (by repeat (first | exact .hd | apply Take.tl)) .nil)⟩
theorem Break_turn (b : Nat) (now number term en last : Int) (A : Option Addr) (n c : Nat) (w : World) (h0 : St w (· ∈ (allE [boxE b 70 [.int .i64 now, .bool true, .int .i64 number, .int .i64 term, .int .i64 en, .int .i64 last, .slice A n c]]).foot) [boxE b 70 [.int .i64 now, .bool true, .int .i64 number, .int .i64 term, .int .i64 en, .int .i64 last, .slice A n c]] w)  : Calls Try.prog 15 #[.pointer (some ⟨b, 0, none⟩)] w (Gives w (· ∈ (allE [boxE b 70 [.int .i64 now, .bool true, .int .i64 number, .int .i64 term, .int .i64 en, .int .i64 last, .slice A n c]]).foot) (fun (_ : Unit) => .int .i64 0) (fun (_ : Unit) => True) (fun (_ : Unit) => [boxE b 70 [.int .i64 now, .bool true, .int .i64 number, .int .i64 term, .int .i64 now, .int .i64 last, .slice none 0 0]])) := by
 refine calls_args Try.func15 rfl 8 Try.ntmps15 rfl h0 ?_
 refine tr_kp .all ?_
 refine tr_seq ?_
 -- region 0
 refine tr_plain ?_
 refine r_assign .none (.c _ _) rfl rfl ?_
 refine tl_nil ?_
 refine qt_then ?_
 refine tr_seq ?_
 refine tr_seq ?_
 -- region 1
 refine tr_plain ?_
 refine r_move .none (.t m1) rfl rfl ?_
 refine r_ans en24 .none (.f _ _) (.cons (.t m0) .nil) (fun hg w hw => nis_ans _ _ _ _ _ _ _ _ _ w (hw.in_ m0)) (fun _ _ => trivial) rfl rfl ?_
 refine r_not .none (.t m0) rfl rfl ?_
 refine tl_nil ?_
 refine qt_kp (.k (.d (.d .all))) ?_
 refine qt_then ?_
 -- c0
 refine tr_cond (.t m0) (fun hc0 => ?_) (fun hc0 => ?_)
 · exfalso; first | (simp at hc0; done) | (simp only [Bool.and_eq_true, Bool.or_eq_true, Bool.not_eq_true', Bool.not_eq_false', Bool.and_eq_false_iff, Bool.or_eq_false_iff, decide_eq_true_eq, decide_eq_false_iff_not, beq_iff_eq, Bool.not_eq_true, Bool.not_eq_false] at hc0; omega) | (simp at hc0; omega)
 ·
  try simp only [Bool.and_eq_true, Bool.or_eq_true, Bool.not_eq_true', Bool.not_eq_false', Bool.and_eq_false_iff, Bool.or_eq_false_iff, decide_eq_true_eq, decide_eq_false_iff_not, beq_iff_eq, Bool.not_eq_true, Bool.not_eq_false] at hc0
  refine tr_skip ?_
  refine qt_then ?_
  refine tr_seq ?_
  -- region 3
  refine tr_plain ?_
  refine r_move .none (.t m2) rfl rfl ?_
  refine r_call _ _ _ en29 .none (.f _ _) (.cons (.t m0) .nil) (fun w hw => callL (.cons .hd .nil) hw (fun h => fall_turn _ _ _ _ _ _ _ _ _ w h)) (fun _ _ _ _ => trivial) rfl rfl ?_
  rintro ⟨⟩ _
  refine tl_nil ?_
  refine qt_kp (.d (.d (.d (.k (.d .all))))) ?_
  refine qt_then ?_
  refine tr_seq ?_
  -- region 4
  refine tr_plain ?_
  refine tl_kp (.d .all) ?_
  refine r_assign .none (.c _ _) rfl rfl ?_
  refine tl_nil ?_
  refine qt_then ?_
  refine tr_ret ?_
  refine qt_fin_ret rfl Try.results15 (.t m0 .nil) (fun w hw => ?_)
  exact ⟨(), trivial, rfl, hw.kl (.cons (by repeat (first | exact .hd | apply Take.tl)) .nil)⟩
theorem Return_turn (b : Nat) (now number term en last : Int) (A : Option Addr) (n c : Nat) (hl : last ≠ 0) (w : World) (h0 : St w (· ∈ (allE [boxE b 70 [.int .i64 now, .bool true, .int .i64 number, .int .i64 term, .int .i64 en, .int .i64 last, .slice A n c]]).foot) [boxE b 70 [.int .i64 now, .bool true, .int .i64 number, .int .i64 term, .int .i64 en, .int .i64 last, .slice A n c]] w)  : Calls Try.prog 12 #[.pointer (some ⟨b, 0, none⟩)] w (Gives w (· ∈ (allE [boxE b 70 [.int .i64 now, .bool true, .int .i64 number, .int .i64 term, .int .i64 en, .int .i64 last, .slice A n c]]).foot) (fun (_ : Unit) => .tuple #[.agg #[.int .i64 3, .int .i64 number, .int .i64 last], .int .i64 0]) (fun (_ : Unit) => True) (fun (_ : Unit) => [boxE b 70 [.int .i64 now, .bool true, .int .i64 number, .int .i64 term, .int .i64 now, .int .i64 last, .slice none 0 0]])) := by
 refine calls_args Try.func12 rfl 27 Try.ntmps12 rfl h0 ?_
 refine tr_kp .all ?_
 refine tr_seq ?_
 -- region 0
 refine tr_plain ?_
 refine r_alloc [.int .i64 0, .int .i64 0, .int .i64 0] el45 rfl .none (fun _ _ _ => trivial) rfl rfl (fun b2 => ?_)
 refine r_assign .none (.c _ _) rfl rfl ?_
 refine tl_nil ?_
 refine qt_then ?_
 refine tr_seq ?_
 refine tr_block ?_
 refine tr_seq ?_
 -- region 1
 refine tr_plain ?_
 refine r_move .none (.t m2) rfl rfl ?_
 refine r_ans en24 .none (.f _ _) (.cons (.t m0) .nil) (fun hg w hw => nis_ans _ _ _ _ _ _ _ _ _ w (hw.in_ m1)) (fun _ _ => trivial) rfl rfl ?_
 refine r_not .none (.t m0) rfl rfl ?_
 refine r_assign .none (.t m0) rfl rfl ?_
 refine tl_nil ?_
 refine qt_kp (.k (.d (.d (.d .all)))) ?_
 refine qt_then ?_
 -- c0
 refine tr_cond (.t m0) (fun hc0 => ?_) (fun hc0 => ?_)
 · exfalso; first | (simp at hc0; done) | (simp only [Bool.and_eq_true, Bool.or_eq_true, Bool.not_eq_true', Bool.not_eq_false', Bool.and_eq_false_iff, Bool.or_eq_false_iff, decide_eq_true_eq, decide_eq_false_iff_not, beq_iff_eq, Bool.not_eq_true, Bool.not_eq_false] at hc0; omega) | (simp at hc0; omega)
 ·
  try simp only [Bool.and_eq_true, Bool.or_eq_true, Bool.not_eq_true', Bool.not_eq_false', Bool.and_eq_false_iff, Bool.or_eq_false_iff, decide_eq_true_eq, decide_eq_false_iff_not, beq_iff_eq, Bool.not_eq_true, Bool.not_eq_false] at hc0
  refine tr_seq ?_
  -- region 3
  refine tr_plain ?_
  refine r_move .none (.t m3) rfl rfl ?_
  refine r_nilCheckP .none (.t m0) rfl rfl ?_
  refine r_fieldAddr fd70_5 .none (.t m0) rfl rfl ?_
  refine r_load [_] ty3 .none (.t m0) (by first | (refine sees_l ?_; (repeat (first | exact hd | apply tl)); done) | (apply sees_own; apply sees_l; (repeat (first | exact hd | apply tl)); done) | exact sees_r (by assumption)) rfl rfl (.one _) rfl rfl ?_
  refine r_eql .none (.t m0) (.c _ _) rfl rfl ?_
  refine r_assign .none (.t m0) rfl rfl ?_
  refine tl_nil ?_
  refine qt_kp (.k (.d (.d (.d (.d (.d (.d .all))))))) ?_
  refine qt_then ?_
  -- c1
  refine tr_cond (.t m0) (fun hc1 => ?_) (fun hc1 => ?_)
  · exfalso; first | (simp at hc1; done) | (simp only [Bool.and_eq_true, Bool.or_eq_true, Bool.not_eq_true', Bool.not_eq_false', Bool.and_eq_false_iff, Bool.or_eq_false_iff, decide_eq_true_eq, decide_eq_false_iff_not, beq_iff_eq, Bool.not_eq_true, Bool.not_eq_false] at hc1; omega) | (simp at hc1; omega)
  ·
   try simp only [Bool.and_eq_true, Bool.or_eq_true, Bool.not_eq_true', Bool.not_eq_false', Bool.and_eq_false_iff, Bool.or_eq_false_iff, decide_eq_true_eq, decide_eq_false_iff_not, beq_iff_eq, Bool.not_eq_true, Bool.not_eq_false] at hc1
   refine tr_skip ?_
   refine qt_block ?_
   refine qt_then ?_
   refine tr_seq ?_
   -- region 5
   refine tr_plain ?_
   refine r_move .none (.t m3) rfl rfl ?_
   refine r_call _ _ _ en29 .none (.f _ _) (.cons (.t m0) .nil) (fun w hw => callL (.cons (.tl .hd) .nil) hw (fun h => fall_turn _ _ _ _ _ _ _ _ _ w h)) (fun _ _ _ _ => trivial) rfl rfl ?_
   rintro ⟨⟩ _
   refine tl_nil ?_
   refine qt_kp (.d (.d (.d .all))) ?_
   refine qt_then ?_
   refine tr_seq ?_
   -- region 6 draws
   refine tr_ord [(0, false), (1, false), (2, false), (3, false), (4, false), (5, false), (6, false), (7, false), (8, false)] [(9, true), (10, false)] _ _ (List.Sublist.refl _) (.cons_cons _ (List.nil_sublist _)) mixedO (by kernel_rfl) ?_
   refine r_move .none (.t m2) rfl rfl ?_
   refine r_nilCheckP .none (.t m0) rfl rfl ?_
   refine r_fieldAddr fd70_2 .none (.t m0) rfl rfl ?_
   refine r_load [_] ty3 .none (.t m0) (by first | (refine sees_c ?_; (repeat (first | exact hd | apply tl)); done) | (apply sees_own; apply sees_c; (repeat (first | exact hd | apply tl)); done) | exact sees_rc (by assumption)) rfl rfl (.one _) rfl rfl ?_
   refine r_move .none (.t m6) rfl rfl ?_
   refine r_nilCheckP .none (.t m0) rfl rfl ?_
   refine r_fieldAddr fd70_5 .none (.t m0) rfl rfl ?_
   refine r_load [_] ty3 .none (.t m0) (by first | (refine sees_c ?_; (repeat (first | exact hd | apply tl)); done) | (apply sees_own; apply sees_c; (repeat (first | exact hd | apply tl)); done) | exact sees_rc (by assumption)) rfl rfl (.one _) rfl rfl ?_
   refine r_build [_, _, _] bd45 .none (.cons (.c _ _) (.cons (.t m4) (.cons (.t m0) .nil))) rfl rfl rfl ?_
   refine tl_nil ?_
   refine qt_late (.cons_cons _ (List.nil_sublist _)) ?_
   refine r_store [_, _, _] ty45 .none (.t m10) (.t m0) (Take.perm (by repeat (first | exact .hd | apply Take.tl))) rfl rfl rfl rfl (keepC (.cons _ (List.Sublist.refl _))) ?_
   refine tl_kp (.k (.k (.k (.k (.k (.k (.k (.k (.k (.d .all)))))))))) ?_
   refine r_assign .none (.c _ _) rfl rfl ?_
   refine tl_nil ?_
   refine qt_kp (.k (.d (.d (.d (.d (.d (.d (.d (.d (.d (.k (.d .all)))))))))))) ?_
   refine qt_then ?_
   refine tr_ret ?_
   refine qt_fin_ret rfl Try.results12 (.c [_, _, _] ty45 m1 (by repeat (first | exact hd | apply tl)) rfl rfl (.agg _) (.t m0 .nil)) (fun w hw => ?_)
   exact ⟨(), trivial, rfl, hw.kl (.cons (by repeat (first | exact .hd | apply Take.tl)) .nil)⟩
theorem CBreak_turn (b : Nat) (now node num since wait wanted : Int) (A : Option Addr) (n c mb : Nat) (w : World) (h0 : St w (· ∈ (allE [boxE b 64 [.int .i64 now, .int .i64 node, .int .i64 num, .int .i64 since, .bool true, .int .i64 wait, .int .i64 wanted, .slice A n c, .map (some mb)]]).foot) [boxE b 64 [.int .i64 now, .int .i64 node, .int .i64 num, .int .i64 since, .bool true, .int .i64 wait, .int .i64 wanted, .slice A n c, .map (some mb)]] w)  : Calls Try.prog 16 #[.pointer (some ⟨b, 0, none⟩)] w (Gives w (· ∈ (allE [boxE b 64 [.int .i64 now, .int .i64 node, .int .i64 num, .int .i64 since, .bool true, .int .i64 wait, .int .i64 wanted, .slice A n c, .map (some mb)]]).foot) (fun (_ : Unit) => .int .i64 0) (fun (_ : Unit) => True) (fun (_ : Unit) => [boxE b 64 [.int .i64 now, .int .i64 (-1), .int .i64 0, .int .i64 now, .bool true, .int .i64 wait, .int .i64 wanted, .slice A n c, .map (some mb)]])) := by
 refine calls_args Try.func16 rfl 15 Try.ntmps16 rfl h0 ?_
 refine tr_kp .all ?_
 refine tr_seq ?_
 -- region 0
 refine tr_plain ?_
 refine r_assign .none (.c _ _) rfl rfl ?_
 refine tl_nil ?_
 refine qt_then ?_
 refine tr_seq ?_
 refine tr_seq ?_
 -- region 1
 refine tr_plain ?_
 refine r_move .none (.t m1) rfl rfl ?_
 refine r_ans en28 .none (.f _ _) (.cons (.t m0) .nil) (fun hg w hw => cis_ans _ _ _ _ _ _ _ _ _ _ _ w (hw.in_ m0)) (fun _ _ => trivial) rfl rfl ?_
 refine r_not .none (.t m0) rfl rfl ?_
 refine tl_nil ?_
 refine qt_kp (.k (.d (.d .all))) ?_
 refine qt_then ?_
 -- c0
 refine tr_cond (.t m0) (fun hc0 => ?_) (fun hc0 => ?_)
 · exfalso; first | (simp at hc0; done) | (simp only [Bool.and_eq_true, Bool.or_eq_true, Bool.not_eq_true', Bool.not_eq_false', Bool.and_eq_false_iff, Bool.or_eq_false_iff, decide_eq_true_eq, decide_eq_false_iff_not, beq_iff_eq, Bool.not_eq_true, Bool.not_eq_false] at hc0; omega) | (simp at hc0; omega)
 ·
  try simp only [Bool.and_eq_true, Bool.or_eq_true, Bool.not_eq_true', Bool.not_eq_false', Bool.and_eq_false_iff, Bool.or_eq_false_iff, decide_eq_true_eq, decide_eq_false_iff_not, beq_iff_eq, Bool.not_eq_true, Bool.not_eq_false] at hc0
  refine tr_skip ?_
  refine qt_then ?_
  refine tr_seq ?_
  -- region 3
  refine tr_plain ?_
  refine r_move .none (.t m2) rfl rfl ?_
  refine r_move .none (.t m3) rfl rfl ?_
  refine r_nilCheckP .none (.t m0) rfl rfl ?_
  refine r_fieldAddr fd64_0 .none (.t m0) rfl rfl ?_
  refine r_fieldAddr fd59_0 .none (.t m0) rfl rfl ?_
  refine r_load [_] ty3 .none (.t m0) (by first | (refine sees_l ?_; (repeat (first | exact hd | apply tl)); done) | (apply sees_own; apply sees_l; (repeat (first | exact hd | apply tl)); done) | exact sees_r (by assumption)) rfl rfl (.one _) rfl rfl ?_
  refine r_build [_, _, _] bd61 .none (.cons (.c _ _) (.cons (.t m0) .nil)) rfl rfl rfl ?_
  refine r_nilCheckP .none (.t m6) rfl rfl ?_
  refine r_fieldAddr fd64_1 .none (.t m0) rfl rfl ?_
  refine r_store [_, _, _, _, _, _, _, _, _] ty61 .none (.t m0) (.t m2) (Take.perm (by repeat (first | exact .hd | apply Take.tl))) rfl rfl rfl rfl (fun _ _ => trivial) ?_
  refine tl_nil ?_
  refine qt_kp (.d (.d (.d (.d (.d (.d (.d (.d (.d (.d (.k (.d .all)))))))))))) ?_
  refine qt_then ?_
  refine tr_seq ?_
  -- region 4
  refine tr_plain ?_
  refine tl_kp (.d .all) ?_
  refine r_assign .none (.c _ _) rfl rfl ?_
  refine tl_nil ?_
  refine qt_then ?_
  refine tr_ret ?_
  refine qt_fin_ret rfl Try.results16 (.t m0 .nil) (fun w hw => ?_)
  exact ⟨(), trivial, rfl, hw.kl (.cons (by repeat (first | exact .hd | apply Take.tl)) .nil)⟩
theorem CTick_turn (b : Nat) (now node num since wait wanted : Int) (A : Option Addr) (n c mb : Nat) (hnow : -2305843009213693952 ≤ now ∧ now ≤ 2305843009213693952) (hsince : -2305843009213693952 ≤ since ∧ since ≤ 2305843009213693952) (hwait : -2305843009213693952 ≤ wait ∧ wait ≤ 2305843009213693952) (w : World) (h0 : St w (· ∈ (allE [boxE b 64 [.int .i64 now, .int .i64 node, .int .i64 num, .int .i64 since, .bool true, .int .i64 wait, .int .i64 wanted, .slice A n c, .map (some mb)]]).foot) [boxE b 64 [.int .i64 now, .int .i64 node, .int .i64 num, .int .i64 since, .bool true, .int .i64 wait, .int .i64 wanted, .slice A n c, .map (some mb)]] w)  : Calls Try.prog 14 #[.pointer (some ⟨b, 0, none⟩)] w (Gives w (· ∈ (allE [boxE b 64 [.int .i64 now, .int .i64 node, .int .i64 num, .int .i64 since, .bool true, .int .i64 wait, .int .i64 wanted, .slice A n c, .map (some mb)]]).foot) (fun (_ : Unit) => .int .i64 0) (fun (_ : Unit) => True) (fun (_ : Unit) => [if node ≠ 0 ∧ since + wait ≤ now + 1 then boxE b 64 [.int .i64 (now + 1), .int .i64 0, .int .i64 0, .int .i64 0, .bool true, .int .i64 wait, .int .i64 wanted, .slice A n c, .map (some mb)] else boxE b 64 [.int .i64 (now + 1), .int .i64 node, .int .i64 num, .int .i64 since, .bool true, .int .i64 wait, .int .i64 wanted, .slice A n c, .map (some mb)]])) := by
 refine calls_args Try.func14 rfl 38 Try.ntmps14 rfl h0 ?_
 refine tr_kp .all ?_
 refine tr_seq ?_
 -- region 0
 refine tr_plain ?_
 refine r_assign .none (.c _ _) rfl rfl ?_
 refine tl_nil ?_
 refine qt_then ?_
 refine tr_seq ?_
 refine tr_seq ?_
 -- region 1
 refine tr_plain ?_
 refine r_move .none (.t m1) rfl rfl ?_
 refine r_ans en28 .none (.f _ _) (.cons (.t m0) .nil) (fun hg w hw => cis_ans _ _ _ _ _ _ _ _ _ _ _ w (hw.in_ m0)) (fun _ _ => trivial) rfl rfl ?_
 refine r_not .none (.t m0) rfl rfl ?_
 refine tl_nil ?_
 refine qt_kp (.k (.d (.d .all))) ?_
 refine qt_then ?_
 -- c0
 refine tr_cond (.t m0) (fun hc0 => ?_) (fun hc0 => ?_)
 · exfalso; first | (simp at hc0; done) | (simp only [Bool.and_eq_true, Bool.or_eq_true, Bool.not_eq_true', Bool.not_eq_false', Bool.and_eq_false_iff, Bool.or_eq_false_iff, decide_eq_true_eq, decide_eq_false_iff_not, beq_iff_eq, Bool.not_eq_true, Bool.not_eq_false] at hc0; omega) | (simp at hc0; omega)
 ·
  try simp only [Bool.and_eq_true, Bool.or_eq_true, Bool.not_eq_true', Bool.not_eq_false', Bool.and_eq_false_iff, Bool.or_eq_false_iff, decide_eq_true_eq, decide_eq_false_iff_not, beq_iff_eq, Bool.not_eq_true, Bool.not_eq_false] at hc0
  refine tr_skip ?_
  refine qt_then ?_
  refine tr_seq ?_
  -- region 3
  refine tr_plain ?_
  refine r_move .none (.t m2) rfl rfl ?_
  refine r_nilCheckP .none (.t m0) rfl rfl ?_
  refine r_fieldAddr fd64_0 .none (.t m0) rfl rfl ?_
  refine r_call _ _ _ en30 .none (.f _ _) (.cons (.t m0) .nil) (fun w hw => callL (.cons .hd .nil) hw (fun h => ctick_turn _ _ _ _ _ _ _ _ _ _ _ (by omega) w h)) (fun _ _ _ _ => trivial) rfl rfl ?_
  rintro ⟨⟩ _
  refine tl_nil ?_
  refine qt_kp (.d (.d (.d (.d (.d .all))))) ?_
  refine qt_then ?_
  refine tr_seq ?_
  refine tr_seq ?_
  -- region 4 draws
  refine tr_ord [(0, false), (1, false), (2, false), (3, false), (4, false), (5, false), (6, false), (7, false), (8, false), (9, false), (10, false), (11, false), (12, false), (13, false), (14, false), (15, false), (16, false), (17, false), (18, false), (19, false), (20, false), (21, false), (22, false), (23, false)] [] _ _ (List.Sublist.refl _) (List.Sublist.refl _) mixedO (by kernel_rfl) ?_
  -- all early
  refine r_move .none (.t m1) rfl rfl ?_
  refine r_nilCheckP .none (.t m0) rfl rfl ?_
  refine r_fieldAddr fd64_1 .none (.t m0) rfl rfl ?_
  refine r_fieldAddr fd61_0 .none (.t m0) rfl rfl ?_
  refine r_load [_] ty3 .none (.t m0) (by first | (refine sees_c ?_; (repeat (first | exact hd | apply tl)); done) | (apply sees_own; apply sees_c; (repeat (first | exact hd | apply tl)); done) | exact sees_rc (by assumption)) rfl rfl (.one _) rfl rfl ?_
  refine r_neq .none (.t m0) (.c _ _) rfl rfl ?_
  refine r_move .none (.t m0) rfl rfl ?_
  refine r_move (.pos rfl m0) (.t m8) rfl rfl ?_
  refine r_nilCheckP (.pos rfl m1) (.s m0) rfl rfl ?_
  refine r_fieldAddr fd64_0 (.pos rfl m2) (.s m0) rfl rfl ?_
  refine r_fieldAddr fd59_0 (.pos rfl m3) (.s m0) rfl rfl ?_
  refine r_load [_] ty3 (.pos rfl m4) (.s m0) (by first | (refine sees_c ?_; (repeat (first | exact hd | apply tl)); done) | (apply sees_own; apply sees_c; (repeat (first | exact hd | apply tl)); done) | exact sees_rc (by assumption)) rfl rfl (.one _) rfl rfl ?_
  refine r_move (.pos rfl m5) (.t m13) rfl rfl ?_
  refine r_nilCheckP (.pos rfl m6) (.s m0) rfl rfl ?_
  refine r_fieldAddr fd64_1 (.pos rfl m7) (.s m0) rfl rfl ?_
  refine r_fieldAddr fd61_2 (.pos rfl m8) (.s m0) rfl rfl ?_
  refine r_load [_] ty3 (.pos rfl m9) (.s m0) (by first | (refine sees_c ?_; (repeat (first | exact hd | apply tl)); done) | (apply sees_own; apply sees_c; (repeat (first | exact hd | apply tl)); done) | exact sees_rc (by assumption)) rfl rfl (.one _) rfl rfl ?_
  refine r_move (.pos rfl m10) (.t m18) rfl rfl ?_
  refine r_nilCheckP (.pos rfl m11) (.s m0) rfl rfl ?_
  refine r_fieldAddr fd64_3 (.pos rfl m12) (.s m0) rfl rfl ?_
  refine r_load [_] ty3 (.pos rfl m13) (.s m0) (by first | (refine sees_c ?_; (repeat (first | exact hd | apply tl)); done) | (apply sees_own; apply sees_c; (repeat (first | exact hd | apply tl)); done) | exact sees_rc (by assumption)) rfl rfl (.one _) rfl rfl ?_
  refine r_add (.pos rfl m14) (.s m4) (.s m0) (fun hg => by simp only [Bool.and_eq_true, Bool.or_eq_true, Bool.not_eq_true', Bool.not_eq_false', Bool.and_eq_false_iff, Bool.or_eq_false_iff, decide_eq_true_eq, decide_eq_false_iff_not, beq_iff_eq, Bool.not_eq_true, Bool.not_eq_false] at hg; omega) rfl rfl ?_
  refine r_geq (.pos rfl m15) (.s m10) (.s m0) rfl rfl ?_
  refine r_and .none (.t m16) (.s m0) rfl rfl ?_
  refine tl_nil ?_
  refine qt_late (List.Sublist.refl _) ?_
  refine tl_nil ?_
  refine qt_kp (.k (.d (.d (.d (.d (.d (.d (.d (.d (.d (.d (.d (.d (.d (.d (.d (.d (.d (.d (.d (.d (.d (.d (.d .all)))))))))))))))))))))))) ?_
  refine qt_then ?_
  -- c1
  refine tr_cond (.t m0) (fun hc1 => ?_) (fun hc1 => ?_)
  ·
   simp only [Bool.and_eq_true, Bool.or_eq_true, Bool.not_eq_true', Bool.not_eq_false', Bool.and_eq_false_iff, Bool.or_eq_false_iff, decide_eq_true_eq, decide_eq_false_iff_not, beq_iff_eq, Bool.not_eq_true, Bool.not_eq_false] at hc1
   rw [if_pos (by simpa using hc1)]
   -- region 5
   refine tr_plain ?_
   refine r_move .none (.t m2) rfl rfl ?_
   refine r_build [_, _, _] bd61 .none .nil rfl rfl rfl ?_
   refine r_nilCheckP .none (.t m1) rfl rfl ?_
   refine r_fieldAddr fd64_1 .none (.t m0) rfl rfl ?_
   refine r_store [_, _, _, _, _, _, _, _, _] ty61 .none (.t m0) (.t m2) (Take.perm (by repeat (first | exact .hd | apply Take.tl))) rfl rfl rfl rfl (fun _ _ => trivial) ?_
   refine tl_nil ?_
   refine qt_kp (.d (.d (.d (.d (.d (.k (.d .all))))))) ?_
   refine qt_then ?_
   refine tr_seq ?_
   -- region 6
   refine tr_plain ?_
   refine tl_kp (.d .all) ?_
   refine r_assign .none (.c _ _) rfl rfl ?_
   refine tl_nil ?_
   refine qt_then ?_
   refine tr_ret ?_
   refine qt_fin_ret rfl Try.results14 (.t m0 .nil) (fun w hw => ?_)
   exact ⟨(), trivial, rfl, hw.kl (.cons (by repeat (first | exact .hd | apply Take.tl)) .nil)⟩
  ·
   simp only [Bool.and_eq_true, Bool.or_eq_true, Bool.not_eq_true', Bool.not_eq_false', Bool.and_eq_false_iff, Bool.or_eq_false_iff, decide_eq_true_eq, decide_eq_false_iff_not, beq_iff_eq, Bool.not_eq_true, Bool.not_eq_false] at hc1
   rw [if_neg (by intro h; rcases hc1 with h1 | h1 <;> omega)]
   refine tr_skip ?_
   refine qt_then ?_
   refine tr_seq ?_
   -- region 6
   refine tr_plain ?_
   refine tl_kp (.k (.d .all)) ?_
   refine r_assign .none (.c _ _) rfl rfl ?_
   refine tl_nil ?_
   refine qt_kp (.k (.d (.d .all))) ?_
   refine qt_then ?_
   refine tr_ret ?_
   refine qt_fin_ret rfl Try.results14 (.t m0 .nil) (fun w hw => ?_)
   exact ⟨(), trivial, rfl, hw.kl (.cons (by repeat (first | exact .hd | apply Take.tl)) .nil)⟩
theorem Want_turn (b : Nat) (now node num since wait wanted : Int) (A : Option Addr) (n c mb : Nat) (x : Int) (hx : 0 ≤ x ∧ x < n) (hn : n ≤ 100) (w : World) (h0 : St w (· ∈ (allE [boxE b 64 [.int .i64 now, .int .i64 node, .int .i64 num, .int .i64 since, .bool true, .int .i64 wait, .int .i64 wanted, .slice A n c, .map (some mb)]]).foot) [boxE b 64 [.int .i64 now, .int .i64 node, .int .i64 num, .int .i64 since, .bool true, .int .i64 wait, .int .i64 wanted, .slice A n c, .map (some mb)]] w)  : Calls Try.prog 11 #[.pointer (some ⟨b, 0, none⟩), .int .i64 x] w (Gives w (· ∈ (allE [boxE b 64 [.int .i64 now, .int .i64 node, .int .i64 num, .int .i64 since, .bool true, .int .i64 wait, .int .i64 wanted, .slice A n c, .map (some mb)]]).foot) (fun (_ : Unit) => .int .i64 0) (fun (_ : Unit) => True) (fun (_ : Unit) => [boxE b 64 [.int .i64 now, .int .i64 node, .int .i64 num, .int .i64 since, .bool true, .int .i64 wait, .int .i64 x, .slice A n c, .map (some mb)]])) := by
 refine calls_args Try.func11 rfl 23 Try.ntmps11 rfl h0 ?_
 refine tr_kp .all ?_
 refine tr_seq ?_
 -- region 0
 refine tr_plain ?_
 refine r_assign .none (.c _ _) rfl rfl ?_
 refine tl_nil ?_
 refine qt_then ?_
 refine tr_seq ?_
 refine tr_block ?_
 refine tr_seq ?_
 -- region 1
 refine tr_plain ?_
 refine r_move .none (.t m1) rfl rfl ?_
 refine r_ans en28 .none (.f _ _) (.cons (.t m0) .nil) (fun hg w hw => cis_ans _ _ _ _ _ _ _ _ _ _ _ w (hw.in_ m0)) (fun _ _ => trivial) rfl rfl ?_
 refine r_not .none (.t m0) rfl rfl ?_
 refine r_assign .none (.t m0) rfl rfl ?_
 refine tl_nil ?_
 refine qt_kp (.k (.d (.d (.d .all)))) ?_
 refine qt_then ?_
 -- c0
 refine tr_cond (.t m0) (fun hc0 => ?_) (fun hc0 => ?_)
 · exfalso; first | (simp at hc0; done) | (simp only [Bool.and_eq_true, Bool.or_eq_true, Bool.not_eq_true', Bool.not_eq_false', Bool.and_eq_false_iff, Bool.or_eq_false_iff, decide_eq_true_eq, decide_eq_false_iff_not, beq_iff_eq, Bool.not_eq_true, Bool.not_eq_false] at hc0; omega) | (simp at hc0; omega)
 ·
  try simp only [Bool.and_eq_true, Bool.or_eq_true, Bool.not_eq_true', Bool.not_eq_false', Bool.and_eq_false_iff, Bool.or_eq_false_iff, decide_eq_true_eq, decide_eq_false_iff_not, beq_iff_eq, Bool.not_eq_true, Bool.not_eq_false] at hc0
  refine tr_seq ?_
  -- region 3
  refine tr_plain ?_
  refine r_move .none (.t m3) rfl rfl ?_
  refine r_move .none (.t m3) rfl rfl ?_
  refine r_nilCheckP .none (.t m0) rfl rfl ?_
  refine r_fieldAddr fd64_5 .none (.t m0) rfl rfl ?_
  refine r_load [_] ty40 .none (.t m0) (by first | (refine sees_l ?_; (repeat (first | exact hd | apply tl)); done) | (apply sees_own; apply sees_l; (repeat (first | exact hd | apply tl)); done) | exact sees_r (by assumption)) rfl rfl (.one _) rfl rfl ?_
  refine r_lenSl Try.underlying40 .none (.t m0) rfl rfl ?_
  refine r_sub .none (.t m0) (.c _ _) (fun _ => by omega) rfl rfl ?_
  refine r_ans en21 .none (.f _ _) (.cons (.t m6) (.cons (.c _ _) (.cons (.t m0) .nil))) (fun hg w hw => within_ans _ _ _ w) (fun _ _ => trivial) rfl rfl ?_
  refine r_not .none (.t m0) rfl rfl ?_
  refine r_assign .none (.t m0) rfl rfl ?_
  refine tl_nil ?_
  refine qt_kp (.k (.d (.d (.d (.d (.d (.d (.d (.d (.d (.d .all))))))))))) ?_
  refine qt_then ?_
  -- c1
  refine tr_cond (.t m0) (fun hc1 => ?_) (fun hc1 => ?_)
  · exfalso; first | (simp at hc1; done) | (simp only [Bool.and_eq_true, Bool.or_eq_true, Bool.not_eq_true', Bool.not_eq_false', Bool.and_eq_false_iff, Bool.or_eq_false_iff, decide_eq_true_eq, decide_eq_false_iff_not, beq_iff_eq, Bool.not_eq_true, Bool.not_eq_false] at hc1; omega) | (simp at hc1; omega)
  ·
   try simp only [Bool.and_eq_true, Bool.or_eq_true, Bool.not_eq_true', Bool.not_eq_false', Bool.and_eq_false_iff, Bool.or_eq_false_iff, decide_eq_true_eq, decide_eq_false_iff_not, beq_iff_eq, Bool.not_eq_true, Bool.not_eq_false] at hc1
   refine tr_skip ?_
   refine qt_block ?_
   refine qt_then ?_
   refine tr_seq ?_
   -- region 5
   refine tr_plain ?_
   refine r_move .none (.t m2) rfl rfl ?_
   refine r_move .none (.t m4) rfl rfl ?_
   refine r_nilCheckP .none (.t m1) rfl rfl ?_
   refine r_fieldAddr fd64_4 .none (.t m0) rfl rfl ?_
   refine r_store [_, _, _, _, _, _, _, _, _] ty3 .none (.t m0) (.t m2) (Take.perm (by repeat (first | exact .hd | apply Take.tl))) rfl rfl rfl rfl (fun _ _ => trivial) ?_
   refine tl_nil ?_
   refine qt_kp (.d (.d (.d (.d (.d (.k (.d (.d .all)))))))) ?_
   refine qt_then ?_
   refine tr_seq ?_
   -- region 6
   refine tr_plain ?_
   refine tl_kp (.d .all) ?_
   refine r_assign .none (.c _ _) rfl rfl ?_
   refine tl_nil ?_
   refine qt_then ?_
   refine tr_ret ?_
   refine qt_fin_ret rfl Try.results11 (.t m0 .nil) (fun w hw => ?_)
   exact ⟨(), trivial, rfl, hw.kl (.cons (by repeat (first | exact .hd | apply Take.tl)) .nil)⟩
theorem WantNone_ans (b : Nat) (now node num since wait wanted : Int) (A : Option Addr) (n c mb : Nat) (x : Int) (hx : x ≥ n ∧ x ≤ 100) (hn : n ≤ 100) (w : World) (hin : In w (boxE b 64 [.int .i64 now, .int .i64 node, .int .i64 num, .int .i64 since, .bool true, .int .i64 wait, .int .i64 wanted, .slice A n c, .map (some mb)])) : Calls Try.prog 11 #[.pointer (some ⟨b, 0, none⟩), .int .i64 x] w (Ans w (.int .i64 7)) := by
 have hR := hin.ro
 refine calls_args Try.func11 rfl 23 Try.ntmps11 rfl (St.refl _ no) ?_
 refine tr_kp .all ?_
 refine tr_seq ?_
 -- region 0
 refine tr_plain ?_
 refine r_assign .none (.c _ _) rfl rfl ?_
 refine tl_nil ?_
 refine qt_then ?_
 refine tr_seq ?_
 refine tr_block ?_
 refine tr_seq ?_
 -- region 1
 refine tr_plain ?_
 refine r_move .none (.t m1) rfl rfl ?_
 refine r_ans en28 .none (.f _ _) (.cons (.t m0) .nil) (fun hg w hw => cis_ans _ _ _ _ _ _ _ _ _ _ _ w (hw.ro hR)) (fun _ _ => trivial) rfl rfl ?_
 refine r_not .none (.t m0) rfl rfl ?_
 refine r_assign .none (.t m0) rfl rfl ?_
 refine tl_nil ?_
 refine qt_kp (.k (.d (.d (.d .all)))) ?_
 refine qt_then ?_
 -- c0
 refine tr_cond (.t m0) (fun hc0 => ?_) (fun hc0 => ?_)
 · exfalso; first | (simp at hc0; done) | (simp only [Bool.and_eq_true, Bool.or_eq_true, Bool.not_eq_true', Bool.not_eq_false', Bool.and_eq_false_iff, Bool.or_eq_false_iff, decide_eq_true_eq, decide_eq_false_iff_not, beq_iff_eq, Bool.not_eq_true, Bool.not_eq_false] at hc0; omega) | (simp at hc0; omega)
 ·
  try simp only [Bool.and_eq_true, Bool.or_eq_true, Bool.not_eq_true', Bool.not_eq_false', Bool.and_eq_false_iff, Bool.or_eq_false_iff, decide_eq_true_eq, decide_eq_false_iff_not, beq_iff_eq, Bool.not_eq_true, Bool.not_eq_false] at hc0
  refine tr_seq ?_
  -- region 3
  refine tr_plain ?_
  refine r_move .none (.t m3) rfl rfl ?_
  refine r_move .none (.t m3) rfl rfl ?_
  refine r_nilCheckP .none (.t m0) rfl rfl ?_
  refine r_fieldAddr fd64_5 .none (.t m0) rfl rfl ?_
  refine r_load [_] ty40 .none (.t m0) (by first | (refine sees_l ?_; (repeat (first | exact hd | apply tl)); done) | (apply sees_own; apply sees_l; (repeat (first | exact hd | apply tl)); done) | exact sees_r (by assumption)) rfl rfl (.one _) rfl rfl ?_
  refine r_lenSl Try.underlying40 .none (.t m0) rfl rfl ?_
  refine r_sub .none (.t m0) (.c _ _) (fun _ => by omega) rfl rfl ?_
  refine r_ans en21 .none (.f _ _) (.cons (.t m6) (.cons (.c _ _) (.cons (.t m0) .nil))) (fun hg w hw => within_ans _ _ _ w) (fun _ _ => trivial) rfl rfl ?_
  refine r_not .none (.t m0) rfl rfl ?_
  refine r_assign .none (.t m0) rfl rfl ?_
  refine tl_nil ?_
  refine qt_kp (.k (.d (.d (.d (.d (.d (.d (.d (.d (.d (.d .all))))))))))) ?_
  refine qt_then ?_
  -- c1
  refine tr_cond (.t m0) (fun hc1 => ?_) (fun hc1 => ?_)
  ·
   try simp only [Bool.and_eq_true, Bool.or_eq_true, Bool.not_eq_true', Bool.not_eq_false', Bool.and_eq_false_iff, Bool.or_eq_false_iff, decide_eq_true_eq, decide_eq_false_iff_not, beq_iff_eq, Bool.not_eq_true, Bool.not_eq_false] at hc1
   refine tr_seq ?_
   -- region 4
   refine tr_plain ?_
   refine tl_kp (.k (.d .all)) ?_
   refine r_assign .none (.c _ _) rfl rfl ?_
   refine tl_nil ?_
   refine qt_kp (.k (.d .all)) ?_
   refine qt_then ?_
   refine tr_ret ?_
   refine qt_block_ret ?_
   refine qt_then_ret ?_
   refine qt_fin_ret rfl Try.results11 (.t m0 .nil) (fun w hw => ?_)
   exact ⟨rfl, hw.sub (List.nil_sublist _)⟩
  · exfalso; first | (simp at hc1; done) | (simp only [Bool.and_eq_true, Bool.or_eq_true, Bool.not_eq_true', Bool.not_eq_false', Bool.and_eq_false_iff, Bool.or_eq_false_iff, decide_eq_true_eq, decide_eq_false_iff_not, beq_iff_eq, Bool.not_eq_true, Bool.not_eq_false] at hc1; omega) | (simp at hc1; omega)
theorem Lease_ans (b : Nat) (now node num since wait wanted : Int) (A : Option Addr) (n c mb : Nat) (w : World) (hin : In w (boxE b 64 [.int .i64 now, .int .i64 node, .int .i64 num, .int .i64 since, .bool true, .int .i64 wait, .int .i64 wanted, .slice A n c, .map (some mb)])) : Calls Try.prog 17 #[.pointer (some ⟨b, 0, none⟩)] w (Ans w (.tuple #[.int .i64 node, .int .i64 since])) := by
 have hR := hin.ro
 refine calls_args Try.func17 rfl 17 Try.ntmps17 rfl (St.refl _ no) ?_
 refine tr_kp .all ?_
 refine tr_seq ?_
 -- region 0
 refine tr_plain ?_
 refine r_assign .none (.c _ _) rfl rfl ?_
 refine r_assign .none (.c _ _) rfl rfl ?_
 refine tl_nil ?_
 refine qt_then ?_
 refine tr_seq ?_
 refine tr_seq ?_
 -- region 1
 refine tr_plain ?_
 refine r_move .none (.t m2) rfl rfl ?_
 refine r_ans en28 .none (.f _ _) (.cons (.t m0) .nil) (fun hg w hw => cis_ans _ _ _ _ _ _ _ _ _ _ _ w (hw.ro hR)) (fun _ _ => trivial) rfl rfl ?_
 refine r_not .none (.t m0) rfl rfl ?_
 refine tl_nil ?_
 refine qt_kp (.k (.d (.d .all))) ?_
 refine qt_then ?_
 -- c0
 refine tr_cond (.t m0) (fun hc0 => ?_) (fun hc0 => ?_)
 · exfalso; first | (simp at hc0; done) | (simp only [Bool.and_eq_true, Bool.or_eq_true, Bool.not_eq_true', Bool.not_eq_false', Bool.and_eq_false_iff, Bool.or_eq_false_iff, decide_eq_true_eq, decide_eq_false_iff_not, beq_iff_eq, Bool.not_eq_true, Bool.not_eq_false] at hc0; omega) | (simp at hc0; omega)
 ·
  try simp only [Bool.and_eq_true, Bool.or_eq_true, Bool.not_eq_true', Bool.not_eq_false', Bool.and_eq_false_iff, Bool.or_eq_false_iff, decide_eq_true_eq, decide_eq_false_iff_not, beq_iff_eq, Bool.not_eq_true, Bool.not_eq_false] at hc0
  refine tr_skip ?_
  refine qt_then ?_
  refine tr_seq ?_
  -- region 3 draws
  refine tr_ord [(0, false), (1, false), (2, false), (3, false), (4, false), (5, false), (6, false), (7, false), (8, false), (9, false), (10, false), (11, false)] [] _ _ (List.nil_sublist _) (List.nil_sublist _) mixedO (by kernel_rfl) ?_
  -- all early
  refine r_move .none (.t m3) rfl rfl ?_
  refine r_nilCheckP .none (.t m0) rfl rfl ?_
  refine r_fieldAddr fd64_1 .none (.t m0) rfl rfl ?_
  refine r_fieldAddr fd61_0 .none (.t m0) rfl rfl ?_
  refine r_load [_] ty3 .none (.t m0) (by first | (refine sees_c ?_; (repeat (first | exact hd | apply tl)); done) | (apply sees_own; apply sees_c; (repeat (first | exact hd | apply tl)); done) | exact sees_rc (by assumption)) rfl rfl (.one _) rfl rfl ?_
  refine r_move .none (.t m8) rfl rfl ?_
  refine r_nilCheckP .none (.t m0) rfl rfl ?_
  refine r_fieldAddr fd64_1 .none (.t m0) rfl rfl ?_
  refine r_fieldAddr fd61_2 .none (.t m0) rfl rfl ?_
  refine r_load [_] ty3 .none (.t m0) (by first | (refine sees_c ?_; (repeat (first | exact hd | apply tl)); done) | (apply sees_own; apply sees_c; (repeat (first | exact hd | apply tl)); done) | exact sees_rc (by assumption)) rfl rfl (.one _) rfl rfl ?_
  refine tl_kp (.k (.k (.k (.k (.k (.k (.k (.k (.k (.k (.k (.k (.d .all))))))))))))) ?_
  refine r_assign .none (.t m5) rfl rfl ?_
  refine tl_kp (.k (.k (.k (.k (.k (.k (.k (.k (.k (.k (.k (.k (.d .all))))))))))))) ?_
  refine r_assign .none (.t m1) rfl rfl ?_
  refine tl_nil ?_
  refine qt_late (List.nil_sublist _) ?_
  refine tl_nil ?_
  refine qt_kp (.k (.k (.d (.d (.d (.d (.d (.d (.d (.d (.d (.d (.d (.d .all)))))))))))))) ?_
  refine qt_then ?_
  refine tr_ret ?_
  refine qt_fin_ret rfl Try.results17 (.t m1 (.t m0 .nil)) (fun w hw => ?_)
  exact ⟨rfl, hw.sub (List.nil_sublist _)⟩
theorem CHolds_ans (b : Nat) (now node num since wait wanted : Int) (A : Option Addr) (n c mb : Nat) (w : World) (hin : In w (boxE b 64 [.int .i64 now, .int .i64 node, .int .i64 num, .int .i64 since, .bool true, .int .i64 wait, .int .i64 wanted, .slice A n c, .map (some mb)])) : Calls Try.prog 18 #[.pointer (some ⟨b, 0, none⟩)] w (Ans w (.bool (decide (node = 0)))) := by
 have hR := hin.ro
 refine calls_args Try.func18 rfl 13 Try.ntmps18 rfl (St.refl _ no) ?_
 refine tr_kp .all ?_
 refine tr_seq ?_
 -- region 0
 refine tr_plain ?_
 refine r_assign .none (.c _ _) rfl rfl ?_
 refine tl_nil ?_
 refine qt_then ?_
 refine tr_seq ?_
 -- region 1
 refine tr_plain ?_
 refine r_move .none (.t m1) rfl rfl ?_
 refine r_ans en28 .none (.f _ _) (.cons (.t m0) .nil) (fun hg w hw => cis_ans _ _ _ _ _ _ _ _ _ _ _ w (hw.ro hR)) (fun _ _ => trivial) rfl rfl ?_
 refine r_move .none (.t m0) rfl rfl ?_
 refine r_move (.pos rfl m0) (.t m4) rfl rfl ?_
 refine r_nilCheckP (.pos rfl m1) (.s m0) rfl rfl ?_
 refine r_fieldAddr fd64_1 (.pos rfl m2) (.s m0) rfl rfl ?_
 refine r_fieldAddr fd61_0 (.pos rfl m3) (.s m0) rfl rfl ?_
 refine r_load [_] ty3 (.pos rfl m4) (.s m0) (by first | (refine sees_l ?_; (repeat (first | exact hd | apply tl)); done) | (apply sees_own; apply sees_l; (repeat (first | exact hd | apply tl)); done) | exact sees_r (by assumption)) rfl rfl (.one _) rfl rfl ?_
 refine r_eql (.pos rfl m5) (.s m0) (.c _ _) rfl rfl ?_
 refine r_and .none (.t m6) (.s m0) rfl rfl ?_
 refine tl_kp (.k (.k (.k (.k (.k (.k (.k (.k (.k (.k (.d .all))))))))))) ?_
 refine r_assign .none (.t m0) rfl rfl ?_
 refine tl_nil ?_
 refine qt_kp (.k (.d (.d (.d (.d (.d (.d (.d (.d (.d (.d (.d .all)))))))))))) ?_
 refine qt_then ?_
 refine tr_ret ?_
 refine qt_fin_ret rfl Try.results18 (.t m0 .nil) (fun w hw => ?_)
 exact ⟨rfl, hw.sub (List.nil_sublist _)⟩
theorem Ends_ans (b : Nat) (now number term en last : Int) (A : Option Addr) (n c : Nat) (w : World) (hin : In w (boxE b 70 [.int .i64 now, .bool true, .int .i64 number, .int .i64 term, .int .i64 en, .int .i64 last, .slice A n c])) : Calls Try.prog 19 #[.pointer (some ⟨b, 0, none⟩)] w (Ans w (.tuple #[.int .i64 now, .int .i64 en])) := by
 have hR := hin.ro
 refine calls_args Try.func19 rfl 16 Try.ntmps19 rfl (St.refl _ no) ?_
 refine tr_kp .all ?_
 refine tr_seq ?_
 -- region 0
 refine tr_plain ?_
 refine r_assign .none (.c _ _) rfl rfl ?_
 refine r_assign .none (.c _ _) rfl rfl ?_
 refine tl_nil ?_
 refine qt_then ?_
 refine tr_seq ?_
 refine tr_seq ?_
 -- region 1
 refine tr_plain ?_
 refine r_move .none (.t m2) rfl rfl ?_
 refine r_ans en24 .none (.f _ _) (.cons (.t m0) .nil) (fun hg w hw => nis_ans _ _ _ _ _ _ _ _ _ w (hw.ro hR)) (fun _ _ => trivial) rfl rfl ?_
 refine r_not .none (.t m0) rfl rfl ?_
 refine tl_nil ?_
 refine qt_kp (.k (.d (.d .all))) ?_
 refine qt_then ?_
 -- c0
 refine tr_cond (.t m0) (fun hc0 => ?_) (fun hc0 => ?_)
 · exfalso; first | (simp at hc0; done) | (simp only [Bool.and_eq_true, Bool.or_eq_true, Bool.not_eq_true', Bool.not_eq_false', Bool.and_eq_false_iff, Bool.or_eq_false_iff, decide_eq_true_eq, decide_eq_false_iff_not, beq_iff_eq, Bool.not_eq_true, Bool.not_eq_false] at hc0; omega) | (simp at hc0; omega)
 ·
  try simp only [Bool.and_eq_true, Bool.or_eq_true, Bool.not_eq_true', Bool.not_eq_false', Bool.and_eq_false_iff, Bool.or_eq_false_iff, decide_eq_true_eq, decide_eq_false_iff_not, beq_iff_eq, Bool.not_eq_true, Bool.not_eq_false] at hc0
  refine tr_skip ?_
  refine qt_then ?_
  refine tr_seq ?_
  -- region 3 draws
  refine tr_ord [(0, false), (1, false), (2, false), (3, false), (4, false), (5, false), (6, false), (7, false), (8, false), (9, false), (10, false)] [] _ _ (List.nil_sublist _) (List.nil_sublist _) mixedO (by kernel_rfl) ?_
  -- all early
  refine r_move .none (.t m3) rfl rfl ?_
  refine r_nilCheckP .none (.t m0) rfl rfl ?_
  refine r_fieldAddr fd70_0 .none (.t m0) rfl rfl ?_
  refine r_fieldAddr fd59_0 .none (.t m0) rfl rfl ?_
  refine r_load [_] ty3 .none (.t m0) (by first | (refine sees_c ?_; (repeat (first | exact hd | apply tl)); done) | (apply sees_own; apply sees_c; (repeat (first | exact hd | apply tl)); done) | exact sees_rc (by assumption)) rfl rfl (.one _) rfl rfl ?_
  refine r_move .none (.t m8) rfl rfl ?_
  refine r_nilCheckP .none (.t m0) rfl rfl ?_
  refine r_fieldAddr fd70_4 .none (.t m0) rfl rfl ?_
  refine r_load [_] ty3 .none (.t m0) (by first | (refine sees_c ?_; (repeat (first | exact hd | apply tl)); done) | (apply sees_own; apply sees_c; (repeat (first | exact hd | apply tl)); done) | exact sees_rc (by assumption)) rfl rfl (.one _) rfl rfl ?_
  refine tl_kp (.k (.k (.k (.k (.k (.k (.k (.k (.k (.k (.k (.d .all)))))))))))) ?_
  refine r_assign .none (.t m4) rfl rfl ?_
  refine tl_kp (.k (.k (.k (.k (.k (.k (.k (.k (.k (.k (.k (.d .all)))))))))))) ?_
  refine r_assign .none (.t m1) rfl rfl ?_
  refine tl_nil ?_
  refine qt_late (List.nil_sublist _) ?_
  refine tl_nil ?_
  refine qt_kp (.k (.k (.d (.d (.d (.d (.d (.d (.d (.d (.d (.d (.d .all))))))))))))) ?_
  refine qt_then ?_
  refine tr_ret ?_
  refine qt_fin_ret rfl Try.results19 (.t m1 (.t m0 .nil)) (fun w hw => ?_)
  exact ⟨rfl, hw.sub (List.nil_sublist _)⟩
theorem NHolds_ans (b : Nat) (now number term en last : Int) (A : Option Addr) (n c : Nat) (w : World) (hin : In w (boxE b 70 [.int .i64 now, .bool true, .int .i64 number, .int .i64 term, .int .i64 en, .int .i64 last, .slice A n c])) : Calls Try.prog 20 #[.pointer (some ⟨b, 0, none⟩)] w (Ans w (.bool (decide (now < en)))) := by
 have hR := hin.ro
 refine calls_args Try.func20 rfl 17 Try.ntmps20 rfl (St.refl _ no) ?_
 refine tr_kp .all ?_
 refine tr_seq ?_
 -- region 0
 refine tr_plain ?_
 refine r_assign .none (.c _ _) rfl rfl ?_
 refine tl_nil ?_
 refine qt_then ?_
 refine tr_seq ?_
 -- region 1 draws
 refine tr_ord [(0, false), (1, true), (2, false), (3, false), (4, false), (5, false), (6, false), (7, false), (8, false), (9, false), (10, false), (11, false), (12, false), (13, false), (14, false)] [] _ _ (List.nil_sublist _) (List.nil_sublist _) mixedO (by kernel_rfl) ?_
 -- all early
 refine r_move .none (.t m1) rfl rfl ?_
 refine r_ans en24 .none (.f _ _) (.cons (.t m0) .nil) (fun hg w hw => nis_ans _ _ _ _ _ _ _ _ _ w (hw.ro hR)) (keepC (List.nil_sublist _)) rfl rfl ?_
 refine r_move .none (.t m0) rfl rfl ?_
 refine r_move (.pos rfl m0) (.t m4) rfl rfl ?_
 refine r_nilCheckP (.pos rfl m1) (.s m0) rfl rfl ?_
 refine r_fieldAddr fd70_0 (.pos rfl m2) (.s m0) rfl rfl ?_
 refine r_fieldAddr fd59_0 (.pos rfl m3) (.s m0) rfl rfl ?_
 refine r_load [_] ty3 (.pos rfl m4) (.s m0) (by first | (refine sees_c ?_; (repeat (first | exact hd | apply tl)); done) | (apply sees_own; apply sees_c; (repeat (first | exact hd | apply tl)); done) | exact sees_rc (by assumption)) rfl rfl (.one _) rfl rfl ?_
 refine r_move (.pos rfl m5) (.t m9) rfl rfl ?_
 refine r_nilCheckP (.pos rfl m6) (.s m0) rfl rfl ?_
 refine r_fieldAddr fd70_4 (.pos rfl m7) (.s m0) rfl rfl ?_
 refine r_load [_] ty3 (.pos rfl m8) (.s m0) (by first | (refine sees_c ?_; (repeat (first | exact hd | apply tl)); done) | (apply sees_own; apply sees_c; (repeat (first | exact hd | apply tl)); done) | exact sees_rc (by assumption)) rfl rfl (.one _) rfl rfl ?_
 refine r_lss (.pos rfl m9) (.s m4) (.s m0) rfl rfl ?_
 refine r_and .none (.t m10) (.s m0) rfl rfl ?_
 refine tl_kp (.k (.k (.k (.k (.k (.k (.k (.k (.k (.k (.k (.k (.k (.k (.d .all))))))))))))))) ?_
 refine r_assign .none (.t m0) rfl rfl ?_
 refine tl_nil ?_
 refine qt_late (List.nil_sublist _) ?_
 refine tl_nil ?_
 refine qt_kp (.k (.d (.d (.d (.d (.d (.d (.d (.d (.d (.d (.d (.d (.d (.d (.d .all)))))))))))))))) ?_
 refine qt_then ?_
 refine tr_ret ?_
 refine qt_fin_ret rfl Try.results20 (.t m0 .nil) (fun w hw => ?_)
 exact ⟨rfl, hw.sub (List.nil_sublist _)⟩
theorem ReturnNone_ans (b : Nat) (now number term en last : Int) (A : Option Addr) (n c : Nat) (hl : last = 0) (w : World) (hin : In w (boxE b 70 [.int .i64 now, .bool true, .int .i64 number, .int .i64 term, .int .i64 en, .int .i64 last, .slice A n c])) : Calls Try.prog 12 #[.pointer (some ⟨b, 0, none⟩)] w (Ans w (.tuple #[.agg #[.int .i64 0, .int .i64 0, .int .i64 0], .int .i64 9])) := by
 have hR := hin.ro
 refine calls_args Try.func12 rfl 27 Try.ntmps12 rfl (St.refl _ no) ?_
 refine tr_kp .all ?_
 refine tr_seq ?_
 -- region 0
 refine tr_plain ?_
 refine r_alloc [.int .i64 0, .int .i64 0, .int .i64 0] el45 rfl .none (fun _ _ _ => trivial) rfl rfl (fun b2 => ?_)
 refine r_assign .none (.c _ _) rfl rfl ?_
 refine tl_nil ?_
 refine qt_then ?_
 refine tr_seq ?_
 refine tr_block ?_
 refine tr_seq ?_
 -- region 1
 refine tr_plain ?_
 refine r_move .none (.t m2) rfl rfl ?_
 refine r_ans en24 .none (.f _ _) (.cons (.t m0) .nil) (fun hg w hw => nis_ans _ _ _ _ _ _ _ _ _ w (hw.ro hR)) (fun _ _ => trivial) rfl rfl ?_
 refine r_not .none (.t m0) rfl rfl ?_
 refine r_assign .none (.t m0) rfl rfl ?_
 refine tl_nil ?_
 refine qt_kp (.k (.d (.d (.d .all)))) ?_
 refine qt_then ?_
 -- c0
 refine tr_cond (.t m0) (fun hc0 => ?_) (fun hc0 => ?_)
 · exfalso; first | (simp at hc0; done) | (simp only [Bool.and_eq_true, Bool.or_eq_true, Bool.not_eq_true', Bool.not_eq_false', Bool.and_eq_false_iff, Bool.or_eq_false_iff, decide_eq_true_eq, decide_eq_false_iff_not, beq_iff_eq, Bool.not_eq_true, Bool.not_eq_false] at hc0; omega) | (simp at hc0; omega)
 ·
  try simp only [Bool.and_eq_true, Bool.or_eq_true, Bool.not_eq_true', Bool.not_eq_false', Bool.and_eq_false_iff, Bool.or_eq_false_iff, decide_eq_true_eq, decide_eq_false_iff_not, beq_iff_eq, Bool.not_eq_true, Bool.not_eq_false] at hc0
  refine tr_seq ?_
  -- region 3
  refine tr_plain ?_
  refine r_move .none (.t m3) rfl rfl ?_
  refine r_nilCheckP .none (.t m0) rfl rfl ?_
  refine r_fieldAddr fd70_5 .none (.t m0) rfl rfl ?_
  refine r_load [_] ty3 .none (.t m0) (by first | (refine sees_l ?_; (repeat (first | exact hd | apply tl)); done) | (apply sees_own; apply sees_l; (repeat (first | exact hd | apply tl)); done) | exact sees_r (by assumption)) rfl rfl (.one _) rfl rfl ?_
  refine r_eql .none (.t m0) (.c _ _) rfl rfl ?_
  refine r_assign .none (.t m0) rfl rfl ?_
  refine tl_nil ?_
  refine qt_kp (.k (.d (.d (.d (.d (.d (.d .all))))))) ?_
  refine qt_then ?_
  -- c1
  refine tr_cond (.t m0) (fun hc1 => ?_) (fun hc1 => ?_)
  ·
   try simp only [Bool.and_eq_true, Bool.or_eq_true, Bool.not_eq_true', Bool.not_eq_false', Bool.and_eq_false_iff, Bool.or_eq_false_iff, decide_eq_true_eq, decide_eq_false_iff_not, beq_iff_eq, Bool.not_eq_true, Bool.not_eq_false] at hc1
   refine tr_seq ?_
   -- region 4
   refine tr_plain ?_
   refine r_build [_, _, _] bd45 .none .nil rfl rfl rfl ?_
   refine r_store [_, _, _] ty45 .none (.t m3) (.t m0) (Take.perm (by repeat (first | exact .hd | apply Take.tl))) rfl rfl rfl rfl (fun _ _ => trivial) ?_
   refine tl_kp (.k (.k (.d .all))) ?_
   refine r_assign .none (.c _ _) rfl rfl ?_
   refine tl_nil ?_
   refine qt_kp (.k (.d (.d .all))) ?_
   refine qt_then ?_
   refine tr_ret ?_
   refine qt_block_ret ?_
   refine qt_then_ret ?_
   refine qt_fin_ret rfl Try.results12 (.c [_, _, _] ty45 m1 (by repeat (first | exact hd | apply tl)) rfl rfl (.agg _) (.t m0 .nil)) (fun w hw => ?_)
   exact ⟨rfl, hw.sub (List.nil_sublist _)⟩
  · exfalso; first | (simp at hc1; done) | (simp only [Bool.and_eq_true, Bool.or_eq_true, Bool.not_eq_true', Bool.not_eq_false', Bool.and_eq_false_iff, Bool.or_eq_false_iff, decide_eq_true_eq, decide_eq_false_iff_not, beq_iff_eq, Bool.not_eq_true, Bool.not_eq_false] at hc1; omega) | (simp at hc1; omega)
end Go.Proofs.Ytpmnbenmjkeacaa
