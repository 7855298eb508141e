/- A part of the proof of this claim's statement: contracts and walks. -/
import Derived.Test.YtpmnbenmjkeacaaC
set_option linter.unusedVariables false
set_option linter.unusedSimpArgs false
set_option maxHeartbeats 1000000
namespace Go.Proofs.Ytpmnbenmjkeacaa
open Go Go.RowKit Go.Sep
theorem en26 : EntersF Try.prog 26 := Go.Proofs.enters_of Try.func26 (by kernel_rfl) rfl
theorem en27 : EntersF Try.prog 27 := Go.Proofs.enters_of Try.func27 (by kernel_rfl) rfl
theorem fd70_3 : FdS Try.prog 70 3 false 3 1 := .of (by kernel_rfl)
theorem pickA_lt {m : Int} : ∀ {l : List (Int × Int)} {q : Nat × Int}, pickA m l = some q → q.1 < l.length
  | [], _, h => by cases h
  | p :: l, q, h => by
    simp only [pickA] at h
    split at h
    · cases h; simp
    · cases hl : pickA m l with
      | none => rw [hl] at h; cases h
      | some r => rw [hl] at h; cases h; simp only [List.length_cons]; have := pickA_lt hl; omega
theorem take_none (b : Nat) (now number term en last : Int) (A : Option Addr) (n c : Nat) (ak : List (Int × Int)) (m : Int) (hn : n ≤ 1000000) (hp : pickA m ak = none) (w : World) (h0 : St w (· ∈ (allE [boxE b 70 [.int .i64 now, .bool true, .int .i64 number, .int .i64 term, .int .i64 en, .int .i64 last, .slice A n c]]).foot) [boxE b 70 [.int .i64 now, .bool true, .int .i64 number, .int .i64 term, .int .i64 en, .int .i64 last, .slice A n c]] w) (hel : Ro w (· ∈ (allE [boxE b 70 [.int .i64 now, .bool true, .int .i64 number, .int .i64 term, .int .i64 en, .int .i64 last, .slice A n c]]).foot) (slE A n c 2 (ak.map (fun p : Int × Int => [Value.int .i64 p.1, Value.int .i64 p.2])))) : Calls Try.prog 27 #[.pointer (some ⟨b, 6, none⟩), .int .i64 m] w (Gives w (· ∈ (allE [boxE b 70 [.int .i64 now, .bool true, .int .i64 number, .int .i64 term, .int .i64 en, .int .i64 last, .slice A n c]]).foot) (fun _ : Unit => .tuple #[.int .i64 0, .bool false]) (fun _ => True) (fun _ => [boxE b 70 [.int .i64 now, .bool true, .int .i64 number, .int .i64 term, .int .i64 en, .int .i64 last, .slice A n c]])) := by
  have := take_turn b now number term en last A n c ak m hn w h0 hel
  simpa only [hp, Option.map_none, Option.getD_none, Option.isSome_none] using this
theorem take_some (b : Nat) (now number term en last : Int) (A : Option Addr) (n c : Nat) (ak : List (Int × Int)) (m : Int) (hn : n ≤ 1000000) (q : Nat × Int) (hp : pickA m ak = some q) (w : World) (h0 : St w (· ∈ (allE [boxE b 70 [.int .i64 now, .bool true, .int .i64 number, .int .i64 term, .int .i64 en, .int .i64 last, .slice A n c]]).foot) [boxE b 70 [.int .i64 now, .bool true, .int .i64 number, .int .i64 term, .int .i64 en, .int .i64 last, .slice A n c]] w) (hel : Ro w (· ∈ (allE [boxE b 70 [.int .i64 now, .bool true, .int .i64 number, .int .i64 term, .int .i64 en, .int .i64 last, .slice A n c]]).foot) (slE A n c 2 (ak.map (fun p : Int × Int => [Value.int .i64 p.1, Value.int .i64 p.2])))) : Calls Try.prog 27 #[.pointer (some ⟨b, 6, none⟩), .int .i64 m] w (Gives w (· ∈ (allE [boxE b 70 [.int .i64 now, .bool true, .int .i64 number, .int .i64 term, .int .i64 en, .int .i64 last, .slice A n c]]).foot) (fun _ : Unit => .tuple #[.int .i64 q.2, .bool true]) (fun _ => True) (fun _ => [boxE b 70 [.int .i64 now, .bool true, .int .i64 number, .int .i64 term, .int .i64 en, .int .i64 last, .slice (fromA A c (q.1 + 1) 2) (n - (q.1 + 1)) (c - (q.1 + 1))]])) := by
  have := take_turn b now number term en last A n c ak m hn w h0 hel
  simpa only [hp, Option.map_some, Option.getD_some, Option.isSome_some] using this
theorem Hear_none (b : Nat) (now number term en last : Int) (A : Option Addr) (n c : Nat) (ak : List (Int × Int)) (m : Int) (hn : n ≤ 1000000) (hnum : 1 ≤ number ∧ number ≤ 8) (hm : 1 ≤ m ∧ m ≤ 1000000) (hp : pickA m ak = none) (w : World) (h0 : St w (· ∈ (allE [boxE b 70 [.int .i64 now, .bool true, .int .i64 number, .int .i64 term, .int .i64 en, .int .i64 last, .slice A n c], ownE A n c 77 2 (ak.map (fun p : Int × Int => [Value.int .i64 p.1, Value.int .i64 p.2]))]).foot) [boxE b 70 [.int .i64 now, .bool true, .int .i64 number, .int .i64 term, .int .i64 en, .int .i64 last, .slice A n c], ownE A n c 77 2 (ak.map (fun p : Int × Int => [Value.int .i64 p.1, Value.int .i64 p.2]))] w)  : Calls Try.prog 9 #[.pointer (some ⟨b, 0, none⟩), .agg #[.int .i64 2, .int .i64 number, .int .i64 m]] w (Gives w (· ∈ (allE [boxE b 70 [.int .i64 now, .bool true, .int .i64 number, .int .i64 term, .int .i64 en, .int .i64 last, .slice A n c], ownE A n c 77 2 (ak.map (fun p : Int × Int => [Value.int .i64 p.1, Value.int .i64 p.2]))]).foot) (fun (_ : Unit) => .int .i64 0) (fun (_ : Unit) => True) (fun (_ : Unit) => [boxE b 70 [.int .i64 now, .bool true, .int .i64 number, .int .i64 term, .int .i64 en, .int .i64 last, .slice A n c], ownE A n c 77 2 (ak.map (fun p : Int × Int => [Value.int .i64 p.1, Value.int .i64 p.2]))])) := by
 refine calls_args Try.func9 rfl 51 Try.ntmps9 rfl h0 ?_
 refine tr_kp .all ?_
 refine tr_seq ?_
 -- region 0
 refine tr_plain ?_
 refine r_box [_, _, _] .none (.t m1) rfl (fun _ _ _ => trivial) rfl rfl (fun b3 => ?_)
 refine r_assign .none (.c _ _) rfl rfl ?_
 refine tl_nil ?_
 refine qt_kp (.k (.k (.k (.d .all)))) ?_
 refine qt_then ?_
 refine tr_seq ?_
 refine tr_block ?_
 refine tr_seq ?_
 -- region 1
 refine tr_plain ?_
 refine r_move .none (.t m2) rfl rfl ?_
 refine r_ans en24 .none (.f _ _) (.cons (.t m0) .nil) (fun hg w hw => nis_ans _ _ _ _ _ _ _ _ _ w (hw.in_ m1)) (fun _ _ => trivial) rfl rfl ?_
 refine r_not .none (.t m0) rfl rfl ?_
 refine r_assign .none (.t m0) rfl rfl ?_
 refine tl_nil ?_
 refine qt_kp (.k (.d (.d (.d .all)))) ?_
 refine qt_then ?_
 -- c0
 refine tr_cond (.t m0) (fun hc0 => ?_) (fun hc0 => ?_)
 · exfalso; first | (simp at hc0; done) | (simp only [Bool.and_eq_true, Bool.or_eq_true, Bool.not_eq_true', Bool.not_eq_false', Bool.and_eq_false_iff, Bool.or_eq_false_iff, decide_eq_true_eq, decide_eq_false_iff_not, beq_iff_eq, Bool.not_eq_true, Bool.not_eq_false] at hc0; omega) | (simp at hc0; omega)
 ·
  try simp only [Bool.and_eq_true, Bool.or_eq_true, Bool.not_eq_true', Bool.not_eq_false', Bool.and_eq_false_iff, Bool.or_eq_false_iff, decide_eq_true_eq, decide_eq_false_iff_not, beq_iff_eq, Bool.not_eq_true, Bool.not_eq_false] at hc0
  refine tr_seq ?_
  -- region 3 draws
  refine tr_ord [(0, false), (1, true), (2, false), (3, false), (4, false), (5, false), (6, false), (7, false), (8, false), (9, false), (10, false), (11, false), (12, false)] [] _ _ (List.Sublist.refl _) (List.Sublist.refl _) mixedO (by kernel_rfl) ?_
  -- all early
  refine r_load [_, _, _] ty45 .none (.t m2) (by first | (refine sees_c ?_; (repeat (first | exact hd | apply tl)); done) | (apply sees_own; apply sees_c; (repeat (first | exact hd | apply tl)); done) | exact sees_rc (by assumption)) rfl rfl (.agg _) rfl rfl ?_
  refine r_ans en26 .none (.f _ _) (.cons (.t m0) .nil) (fun hg w hw => valid_ans _ _ _ w) (keepC (List.Sublist.refl _)) rfl rfl ?_
  refine r_not .none (.t m0) rfl rfl ?_
  refine r_move .none (.t m0) rfl rfl ?_
  refine r_fieldAddr fd45_1 (.neg rfl m0) (.t m6) rfl rfl ?_
  refine r_load [_] ty3 (.neg rfl m1) (.s m0) (by first | (refine sees_c ?_; (repeat (first | exact hd | apply tl)); done) | (apply sees_own; apply sees_c; (repeat (first | exact hd | apply tl)); done) | exact sees_rc (by assumption)) rfl rfl (.one _) rfl rfl ?_
  refine r_move (.neg rfl m2) (.t m9) rfl rfl ?_
  refine r_nilCheckP (.neg rfl m3) (.s m0) rfl rfl ?_
  refine r_fieldAddr fd70_2 (.neg rfl m4) (.s m0) rfl rfl ?_
  refine r_load [_] ty3 (.neg rfl m5) (.s m0) (by first | (refine sees_c ?_; (repeat (first | exact hd | apply tl)); done) | (apply sees_own; apply sees_c; (repeat (first | exact hd | apply tl)); done) | exact sees_rc (by assumption)) rfl rfl (.one _) rfl rfl ?_
  refine r_neq (.neg rfl m6) (.s m4) (.s m0) rfl rfl ?_
  refine r_or .none (.t m7) (.s m0) rfl rfl ?_
  refine r_assign .none (.t m0) rfl rfl ?_
  refine tl_nil ?_
  refine qt_late (List.Sublist.refl _) ?_
  refine tl_nil ?_
  refine qt_kp (.k (.d (.d (.d (.d (.d (.d (.d (.d (.d (.d (.d (.d (.d .all)))))))))))))) ?_
  refine qt_then ?_
  -- c1
  refine tr_cond (.t m0) (fun hc1 => ?_) (fun hc1 => ?_)
  · exfalso; first | (simp at hc1; done) | (simp only [Bool.and_eq_true, Bool.or_eq_true, Bool.not_eq_true', Bool.not_eq_false', Bool.and_eq_false_iff, Bool.or_eq_false_iff, decide_eq_true_eq, decide_eq_false_iff_not, beq_iff_eq, Bool.not_eq_true, Bool.not_eq_false] at hc1; omega) | (simp at hc1; omega)
  ·
   try simp only [Bool.and_eq_true, Bool.or_eq_true, Bool.not_eq_true', Bool.not_eq_false', Bool.and_eq_false_iff, Bool.or_eq_false_iff, decide_eq_true_eq, decide_eq_false_iff_not, beq_iff_eq, Bool.not_eq_true, Bool.not_eq_false] at hc1
   refine tr_skip ?_
   refine qt_block ?_
   refine qt_then ?_
   refine tr_seq ?_
   refine tr_seq ?_
   -- region 5
   refine tr_plain ?_
   refine r_fieldAddr fd45_0 .none (.t m2) rfl rfl ?_
   refine r_load [_] ty3 .none (.t m0) (by first | (refine sees_l ?_; (repeat (first | exact hd | apply tl)); done) | (apply sees_own; apply sees_l; (repeat (first | exact hd | apply tl)); done) | exact sees_r (by assumption)) rfl rfl (.one _) rfl rfl ?_
   refine r_neq .none (.t m0) (.c _ _) rfl rfl ?_
   refine tl_nil ?_
   refine qt_kp (.k (.d (.d (.d .all)))) ?_
   refine qt_then ?_
   -- c2
   refine tr_cond (.t m0) (fun hc2 => ?_) (fun hc2 => ?_)
   · exfalso; first | (simp at hc2; done) | (simp only [Bool.and_eq_true, Bool.or_eq_true, Bool.not_eq_true', Bool.not_eq_false', Bool.and_eq_false_iff, Bool.or_eq_false_iff, decide_eq_true_eq, decide_eq_false_iff_not, beq_iff_eq, Bool.not_eq_true, Bool.not_eq_false] at hc2; omega) | (simp at hc2; omega)
   ·
    try simp only [Bool.and_eq_true, Bool.or_eq_true, Bool.not_eq_true', Bool.not_eq_false', Bool.and_eq_false_iff, Bool.or_eq_false_iff, decide_eq_true_eq, decide_eq_false_iff_not, beq_iff_eq, Bool.not_eq_true, Bool.not_eq_false] at hc2
    refine tr_skip ?_
    refine qt_then ?_
    refine tr_seq ?_
    refine tr_seq ?_
    -- region 7 draws
    refine tr_ord [(0, false), (1, false), (2, false), (3, false), (4, false)] [(5, true), (6, false), (7, false), (8, false), (9, false), (10, false)] _ _ (List.Sublist.refl _) (.cons_cons _ (.cons _ (List.Sublist.refl _))) mixedO (by kernel_rfl) ?_
    refine r_move .none (.t m3) rfl rfl ?_
    refine r_nilCheckP .none (.t m0) rfl rfl ?_
    refine r_fieldAddr fd70_6 .none (.t m0) rfl rfl ?_
    refine r_fieldAddr fd45_2 .none (.t m5) rfl rfl ?_
    refine r_load [_] ty3 .none (.t m0) (by first | (refine sees_c ?_; (repeat (first | exact hd | apply tl)); done) | (apply sees_own; apply sees_c; (repeat (first | exact hd | apply tl)); done) | exact sees_rc (by assumption)) rfl rfl (.one _) rfl rfl ?_
    refine tl_nil ?_
    refine qt_late (.cons_cons _ (.cons _ (List.Sublist.refl _))) ?_
    refine r_call _ _ _ en27 .none (.f _ _) (.cons (.t m2) (.cons (.t m0) .nil)) (fun w hw => callL (.cons (.tl .hd) .nil) hw (fun h => take_none _ _ _ _ _ _ _ _ _ ak m hn hp w h (hw.besideL (.cons (.tl .hd) .nil) m1).own_sl)) (fun _ _ _ => keepC (.cons _ (List.Sublist.refl _)) _) rfl rfl ?_
    rintro ⟨⟩ _
    refine r_move .none (.t m0) rfl rfl ?_
    refine r_extract .none (.t m0) rfl rfl rfl ?_
    refine r_extract .none (.t m1) rfl rfl rfl ?_
    refine r_assign .none (.t m1) rfl rfl ?_
    refine r_assign .none (.t m1) rfl rfl ?_
    refine tl_nil ?_
    refine qt_kp (.k (.k (.d (.d (.d (.d (.d (.d (.d (.d (.d (.d (.k (.d .all)))))))))))))) ?_
    refine qt_then ?_
    refine tr_seq ?_
    -- region 8
    refine tr_plain ?_
    refine r_move .none (.t m0) rfl rfl ?_
    refine tl_nil ?_
    refine qt_kp (.k (.d .all)) ?_
    refine qt_then ?_
    -- c3
    refine tr_cond (.t m0) (fun hc3 => ?_) (fun hc3 => ?_)
    · exfalso; first | (simp at hc3; done) | (simp only [Bool.and_eq_true, Bool.or_eq_true, Bool.not_eq_true', Bool.not_eq_false', Bool.and_eq_false_iff, Bool.or_eq_false_iff, decide_eq_true_eq, decide_eq_false_iff_not, beq_iff_eq, Bool.not_eq_true, Bool.not_eq_false] at hc3; omega) | (simp at hc3; omega)
    ·
     try simp only [Bool.and_eq_true, Bool.or_eq_true, Bool.not_eq_true', Bool.not_eq_false', Bool.and_eq_false_iff, Bool.or_eq_false_iff, decide_eq_true_eq, decide_eq_false_iff_not, beq_iff_eq, Bool.not_eq_true, Bool.not_eq_false] at hc3
     refine tr_skip ?_
     refine qt_then ?_
     refine tr_seq ?_
     -- region 10
     refine tr_plain ?_
     refine tl_kp (.k (.k (.d .all))) ?_
     refine r_assign .none (.c _ _) rfl rfl ?_
     refine tl_nil ?_
     refine qt_kp (.k (.d (.d (.d .all)))) ?_
     refine qt_then ?_
     refine tr_ret ?_
     refine qt_fin_ret rfl Try.results9 (.t m0 .nil) (fun w hw => ?_)
     exact ⟨(), trivial, rfl, hw.kl (.cons (by repeat (first | exact .hd | apply Take.tl)) (.cons (by repeat (first | exact .hd | apply Take.tl)) .nil))⟩
theorem Hear_some (b : Nat) (now number term en last : Int) (A : Option Addr) (n c : Nat) (ak : List (Int × Int)) (m : Int) (hn : n ≤ 1000000) (hnum : 1 ≤ number ∧ number ≤ 8) (hm : 1 ≤ m ∧ m ≤ 1000000) (q : Nat × Int) (hp : pickA m ak = some q) (hq : 0 ≤ q.2 ∧ q.2 ≤ 1000000) (ht : 0 ≤ term ∧ term ≤ 1000000) (w : World) (h0 : St w (· ∈ (allE [boxE b 70 [.int .i64 now, .bool true, .int .i64 number, .int .i64 term, .int .i64 en, .int .i64 last, .slice A n c], ownE A n c 77 2 (ak.map (fun p : Int × Int => [Value.int .i64 p.1, Value.int .i64 p.2]))]).foot) [boxE b 70 [.int .i64 now, .bool true, .int .i64 number, .int .i64 term, .int .i64 en, .int .i64 last, .slice A n c], ownE A n c 77 2 (ak.map (fun p : Int × Int => [Value.int .i64 p.1, Value.int .i64 p.2]))] w)  : Calls Try.prog 9 #[.pointer (some ⟨b, 0, none⟩), .agg #[.int .i64 2, .int .i64 number, .int .i64 m]] w (Gives w (· ∈ (allE [boxE b 70 [.int .i64 now, .bool true, .int .i64 number, .int .i64 term, .int .i64 en, .int .i64 last, .slice A n c], ownE A n c 77 2 (ak.map (fun p : Int × Int => [Value.int .i64 p.1, Value.int .i64 p.2]))]).foot) (fun (_ : Unit) => .int .i64 0) (fun (_ : Unit) => True) (fun (_ : Unit) => [boxE b 70 [.int .i64 now, .bool true, .int .i64 number, .int .i64 term, .int .i64 ((max en (q.2 + term))), .int .i64 last, .slice (fromA A c (q.1 + 1) 2) (n - (q.1 + 1)) (c - (q.1 + 1))], ownE (fromA A c (q.1 + 1) 2) (n - (q.1 + 1)) (c - (q.1 + 1)) 77 2 ((ak.map (fun p : Int × Int => [Value.int .i64 p.1, Value.int .i64 p.2])).drop (q.1 + 1))])) := by
 have hlen : ak.length = n := by have := (h0.ok _ (m1 : _ ∈ _)).1; simpa using this
 have hq1 := pickA_lt hp
 have hfr := own_from' A n c 77 2 (ak.map (fun p : Int × Int => [Value.int .i64 p.1, Value.int .i64 p.2])) (q.1 + 1) (by omega)
 refine calls_args Try.func9 rfl 51 Try.ntmps9 rfl h0 ?_
 refine tr_kp .all ?_
 refine tr_seq ?_
 -- region 0
 refine tr_plain ?_
 refine r_box [_, _, _] .none (.t m1) rfl (fun _ _ _ => trivial) rfl rfl (fun b3 => ?_)
 refine r_assign .none (.c _ _) rfl rfl ?_
 refine tl_nil ?_
 refine qt_kp (.k (.k (.k (.d .all)))) ?_
 refine qt_then ?_
 refine tr_seq ?_
 refine tr_block ?_
 refine tr_seq ?_
 -- region 1
 refine tr_plain ?_
 refine r_move .none (.t m2) rfl rfl ?_
 refine r_ans en24 .none (.f _ _) (.cons (.t m0) .nil) (fun hg w hw => nis_ans _ _ _ _ _ _ _ _ _ w (hw.in_ m1)) (fun _ _ => trivial) rfl rfl ?_
 refine r_not .none (.t m0) rfl rfl ?_
 refine r_assign .none (.t m0) rfl rfl ?_
 refine tl_nil ?_
 refine qt_kp (.k (.d (.d (.d .all)))) ?_
 refine qt_then ?_
 -- c0
 refine tr_cond (.t m0) (fun hc0 => ?_) (fun hc0 => ?_)
 · exfalso; first | (simp at hc0; done) | (simp only [Bool.and_eq_true, Bool.or_eq_true, Bool.not_eq_true', Bool.not_eq_false', Bool.and_eq_false_iff, Bool.or_eq_false_iff, decide_eq_true_eq, decide_eq_false_iff_not, beq_iff_eq, Bool.not_eq_true, Bool.not_eq_false] at hc0; omega) | (simp at hc0; omega)
 ·
  try simp only [Bool.and_eq_true, Bool.or_eq_true, Bool.not_eq_true', Bool.not_eq_false', Bool.and_eq_false_iff, Bool.or_eq_false_iff, decide_eq_true_eq, decide_eq_false_iff_not, beq_iff_eq, Bool.not_eq_true, Bool.not_eq_false] at hc0
  refine tr_seq ?_
  -- region 3 draws
  refine tr_ord [(0, false), (1, true), (2, false), (3, false), (4, false), (5, false), (6, false), (7, false), (8, false), (9, false), (10, false), (11, false), (12, false)] [] _ _ (List.Sublist.refl _) (List.Sublist.refl _) mixedO (by kernel_rfl) ?_
  -- all early
  refine r_load [_, _, _] ty45 .none (.t m2) (by first | (refine sees_c ?_; (repeat (first | exact hd | apply tl)); done) | (apply sees_own; apply sees_c; (repeat (first | exact hd | apply tl)); done) | exact sees_rc (by assumption)) rfl rfl (.agg _) rfl rfl ?_
  refine r_ans en26 .none (.f _ _) (.cons (.t m0) .nil) (fun hg w hw => valid_ans _ _ _ w) (keepC (List.Sublist.refl _)) rfl rfl ?_
  refine r_not .none (.t m0) rfl rfl ?_
  refine r_move .none (.t m0) rfl rfl ?_
  refine r_fieldAddr fd45_1 (.neg rfl m0) (.t m6) rfl rfl ?_
  refine r_load [_] ty3 (.neg rfl m1) (.s m0) (by first | (refine sees_c ?_; (repeat (first | exact hd | apply tl)); done) | (apply sees_own; apply sees_c; (repeat (first | exact hd | apply tl)); done) | exact sees_rc (by assumption)) rfl rfl (.one _) rfl rfl ?_
  refine r_move (.neg rfl m2) (.t m9) rfl rfl ?_
  refine r_nilCheckP (.neg rfl m3) (.s m0) rfl rfl ?_
  refine r_fieldAddr fd70_2 (.neg rfl m4) (.s m0) rfl rfl ?_
  refine r_load [_] ty3 (.neg rfl m5) (.s m0) (by first | (refine sees_c ?_; (repeat (first | exact hd | apply tl)); done) | (apply sees_own; apply sees_c; (repeat (first | exact hd | apply tl)); done) | exact sees_rc (by assumption)) rfl rfl (.one _) rfl rfl ?_
  refine r_neq (.neg rfl m6) (.s m4) (.s m0) rfl rfl ?_
  refine r_or .none (.t m7) (.s m0) rfl rfl ?_
  refine r_assign .none (.t m0) rfl rfl ?_
  refine tl_nil ?_
  refine qt_late (List.Sublist.refl _) ?_
  refine tl_nil ?_
  refine qt_kp (.k (.d (.d (.d (.d (.d (.d (.d (.d (.d (.d (.d (.d (.d .all)))))))))))))) ?_
  refine qt_then ?_
  -- c1
  refine tr_cond (.t m0) (fun hc1 => ?_) (fun hc1 => ?_)
  · exfalso; first | (simp at hc1; done) | (simp only [Bool.and_eq_true, Bool.or_eq_true, Bool.not_eq_true', Bool.not_eq_false', Bool.and_eq_false_iff, Bool.or_eq_false_iff, decide_eq_true_eq, decide_eq_false_iff_not, beq_iff_eq, Bool.not_eq_true, Bool.not_eq_false] at hc1; omega) | (simp at hc1; omega)
  ·
   try simp only [Bool.and_eq_true, Bool.or_eq_true, Bool.not_eq_true', Bool.not_eq_false', Bool.and_eq_false_iff, Bool.or_eq_false_iff, decide_eq_true_eq, decide_eq_false_iff_not, beq_iff_eq, Bool.not_eq_true, Bool.not_eq_false] at hc1
   refine tr_skip ?_
   refine qt_block ?_
   refine qt_then ?_
   refine tr_seq ?_
   refine tr_seq ?_
   -- region 5
   refine tr_plain ?_
   refine r_fieldAddr fd45_0 .none (.t m2) rfl rfl ?_
   refine r_load [_] ty3 .none (.t m0) (by first | (refine sees_l ?_; (repeat (first | exact hd | apply tl)); done) | (apply sees_own; apply sees_l; (repeat (first | exact hd | apply tl)); done) | exact sees_r (by assumption)) rfl rfl (.one _) rfl rfl ?_
   refine r_neq .none (.t m0) (.c _ _) rfl rfl ?_
   refine tl_nil ?_
   refine qt_kp (.k (.d (.d (.d .all)))) ?_
   refine qt_then ?_
   -- c2
   refine tr_cond (.t m0) (fun hc2 => ?_) (fun hc2 => ?_)
   · exfalso; first | (simp at hc2; done) | (simp only [Bool.and_eq_true, Bool.or_eq_true, Bool.not_eq_true', Bool.not_eq_false', Bool.and_eq_false_iff, Bool.or_eq_false_iff, decide_eq_true_eq, decide_eq_false_iff_not, beq_iff_eq, Bool.not_eq_true, Bool.not_eq_false] at hc2; omega) | (simp at hc2; omega)
   ·
    try simp only [Bool.and_eq_true, Bool.or_eq_true, Bool.not_eq_true', Bool.not_eq_false', Bool.and_eq_false_iff, Bool.or_eq_false_iff, decide_eq_true_eq, decide_eq_false_iff_not, beq_iff_eq, Bool.not_eq_true, Bool.not_eq_false] at hc2
    refine tr_skip ?_
    refine qt_then ?_
    refine tr_seq ?_
    refine tr_seq ?_
    -- region 7 draws
    refine tr_ord [(0, false), (1, false), (2, false), (3, false), (4, false)] [(5, true), (6, false), (7, false), (8, false), (9, false), (10, false)] _ _ (List.Sublist.refl _) (.cons_cons _ (.cons _ (List.Sublist.refl _))) mixedO (by kernel_rfl) ?_
    refine r_move .none (.t m3) rfl rfl ?_
    refine r_nilCheckP .none (.t m0) rfl rfl ?_
    refine r_fieldAddr fd70_6 .none (.t m0) rfl rfl ?_
    refine r_fieldAddr fd45_2 .none (.t m5) rfl rfl ?_
    refine r_load [_] ty3 .none (.t m0) (by first | (refine sees_c ?_; (repeat (first | exact hd | apply tl)); done) | (apply sees_own; apply sees_c; (repeat (first | exact hd | apply tl)); done) | exact sees_rc (by assumption)) rfl rfl (.one _) rfl rfl ?_
    refine tl_nil ?_
    refine qt_late (.cons_cons _ (.cons _ (List.Sublist.refl _))) ?_
    refine r_call _ _ _ en27 .none (.f _ _) (.cons (.t m2) (.cons (.t m0) .nil)) (fun w hw => callL (.cons (.tl .hd) .nil) hw (fun h => take_some _ _ _ _ _ _ _ _ _ ak m hn q hp w h (hw.besideL (.cons (.tl .hd) .nil) m1).own_sl)) (fun _ _ _ => keepC (.cons _ (List.Sublist.refl _)) _) rfl rfl ?_
    rintro ⟨⟩ _
    refine r_move .none (.t m0) rfl rfl ?_
    refine r_extract .none (.t m0) rfl rfl rfl ?_
    refine r_extract .none (.t m1) rfl rfl rfl ?_
    refine r_assign .none (.t m1) rfl rfl ?_
    refine r_assign .none (.t m1) rfl rfl ?_
    refine tl_nil ?_
    refine qt_kp (.k (.k (.d (.d (.d (.d (.d (.d (.d (.d (.d (.d (.k (.d .all)))))))))))))) ?_
    refine qt_then ?_
    refine tr_seq ?_
    -- region 8
    refine tr_plain ?_
    refine r_move .none (.t m0) rfl rfl ?_
    refine tl_nil ?_
    refine qt_kp (.k (.d .all)) ?_
    refine qt_then ?_
    -- c3
    refine tr_cond (.t m0) (fun hc3 => ?_) (fun hc3 => ?_)
    ·
     try simp only [Bool.and_eq_true, Bool.or_eq_true, Bool.not_eq_true', Bool.not_eq_false', Bool.and_eq_false_iff, Bool.or_eq_false_iff, decide_eq_true_eq, decide_eq_false_iff_not, beq_iff_eq, Bool.not_eq_true, Bool.not_eq_false] at hc3
     -- region 9 draws
     refine tr_ord [(0, false), (1, false), (2, false), (3, false), (4, false), (5, false), (6, false), (7, false), (8, false), (9, false), (10, false), (11, false), (12, false), (13, false)] [(14, true)] _ _ (List.Sublist.refl _) (.cons _ (List.Sublist.refl _)) mixedO (by kernel_rfl) ?_
     refine r_move .none (.t m3) rfl rfl ?_
     refine r_move .none (.t m4) rfl rfl ?_
     refine r_nilCheckP .none (.t m0) rfl rfl ?_
     refine r_fieldAddr fd70_4 .none (.t m0) rfl rfl ?_
     refine r_load [_] ty3 .none (.t m0) (by first | (refine sees_c ?_; (repeat (first | exact hd | apply tl)); done) | (apply sees_own; apply sees_c; (repeat (first | exact hd | apply tl)); done) | exact sees_rc (by assumption)) rfl rfl (.one _) rfl rfl ?_
     refine r_move .none (.t m6) rfl rfl ?_
     refine r_move .none (.t m9) rfl rfl ?_
     refine r_nilCheckP .none (.t m0) rfl rfl ?_
     refine r_fieldAddr fd70_3 .none (.t m0) rfl rfl ?_
     refine r_load [_] ty3 .none (.t m0) (by first | (refine sees_c ?_; (repeat (first | exact hd | apply tl)); done) | (apply sees_own; apply sees_c; (repeat (first | exact hd | apply tl)); done) | exact sees_rc (by assumption)) rfl rfl (.one _) rfl rfl ?_
     refine r_add .none (.t m4) (.t m0) (fun _ => by omega) rfl rfl ?_
     refine r_maxI .none (.t m6) (.t m0) rfl rfl ?_
     refine r_nilCheckP .none (.t m11) rfl rfl ?_
     refine r_fieldAddr fd70_4 .none (.t m0) rfl rfl ?_
     refine tl_nil ?_
     refine qt_late (.cons _ (List.Sublist.refl _)) ?_
     refine r_store [_, _, _, _, _, _, _] ty3 .none (.t m0) (.t m2) (Take.perm (by repeat (first | exact .hd | apply Take.tl))) rfl rfl rfl rfl (keepC (.cons _ (List.Sublist.refl _))) ?_
     refine tl_nil ?_
     refine qt_kp (.d (.d (.d (.d (.d (.d (.d (.d (.d (.d (.d (.d (.d (.d (.d (.d (.k (.d .all)))))))))))))))))) ?_
     refine qt_then ?_
     refine tr_seq ?_
     -- region 10
     refine tr_plain ?_
     refine tl_kp (.d .all) ?_
     refine r_assign .none (.c _ _) rfl rfl ?_
     refine tl_nil ?_
     refine qt_then ?_
     refine tr_ret ?_
     refine qt_fin_ret rfl Try.results9 (.t m0 .nil) (fun w hw => ?_)
     refine ⟨(), trivial, rfl, ?_⟩
     exact (((hw.kl (.cons (by repeat (first | exact .hd | apply Take.tl)) (.cons (by repeat (first | exact .hd | apply Take.tl)) .nil))).conv (f := ownE (fromA A c (q.1 + 1) 2) (n - (q.1 + 1)) (c - (q.1 + 1)) 77 2 ((ak.map (fun p : Int × Int => [Value.int .i64 p.1, Value.int .i64 p.2])).drop (q.1 + 1))) (e := ownE A n c 77 2 (ak.map (fun p : Int × Int => [Value.int .i64 p.1, Value.int .i64 p.2]))) hfr.1 (hfr.2 w)).perm (List.Perm.swap _ _ _))
    · exfalso; first | (simp at hc3; done) | (simp only [Bool.and_eq_true, Bool.or_eq_true, Bool.not_eq_true', Bool.not_eq_false', Bool.and_eq_false_iff, Bool.or_eq_false_iff, decide_eq_true_eq, decide_eq_false_iff_not, beq_iff_eq, Bool.not_eq_true, Bool.not_eq_false] at hc3; omega) | (simp at hc3; omega)
theorem HearArg_ans (b : Nat) (now number term en last : Int) (A : Option Addr) (n c : Nat) (k x m : Int) (hx : x ≠ number) (w : World) (hin : In w (boxE b 70 [.int .i64 now, .bool true, .int .i64 number, .int .i64 term, .int .i64 en, .int .i64 last, .slice A n c])) : Calls Try.prog 9 #[.pointer (some ⟨b, 0, none⟩), .agg #[.int .i64 k, .int .i64 x, .int .i64 m]] w (Ans w (.int .i64 2)) := by
 have hR := hin.ro
 refine calls_args Try.func9 rfl 51 Try.ntmps9 rfl (St.refl _ no) ?_
 refine tr_kp .all ?_
 refine tr_seq ?_
 -- region 0
 refine tr_plain ?_
 refine r_box [_, _, _] .none (.t m1) rfl (fun _ _ _ => trivial) rfl rfl (fun b3 => ?_)
 refine r_assign .none (.c _ _) rfl rfl ?_
 refine tl_nil ?_
 refine qt_kp (.k (.k (.k (.d .all)))) ?_
 refine qt_then ?_
 refine tr_seq ?_
 refine tr_block ?_
 refine tr_seq ?_
 -- region 1
 refine tr_plain ?_
 refine r_move .none (.t m2) rfl rfl ?_
 refine r_ans en24 .none (.f _ _) (.cons (.t m0) .nil) (fun hg w hw => nis_ans _ _ _ _ _ _ _ _ _ w (hw.ro hR)) (fun _ _ => trivial) rfl rfl ?_
 refine r_not .none (.t m0) rfl rfl ?_
 refine r_assign .none (.t m0) rfl rfl ?_
 refine tl_nil ?_
 refine qt_kp (.k (.d (.d (.d .all)))) ?_
 refine qt_then ?_
 -- c0
 refine tr_cond (.t m0) (fun hc0 => ?_) (fun hc0 => ?_)
 · exfalso; first | (simp at hc0; done) | (simp only [Bool.and_eq_true, Bool.or_eq_true, Bool.not_eq_true', Bool.not_eq_false', Bool.and_eq_false_iff, Bool.or_eq_false_iff, decide_eq_true_eq, decide_eq_false_iff_not, beq_iff_eq, Bool.not_eq_true, Bool.not_eq_false] at hc0; omega) | (simp at hc0; omega)
 ·
  try simp only [Bool.and_eq_true, Bool.or_eq_true, Bool.not_eq_true', Bool.not_eq_false', Bool.and_eq_false_iff, Bool.or_eq_false_iff, decide_eq_true_eq, decide_eq_false_iff_not, beq_iff_eq, Bool.not_eq_true, Bool.not_eq_false] at hc0
  refine tr_seq ?_
  -- region 3 draws
  refine tr_ord [(0, false), (1, true), (2, false), (3, false), (4, false), (5, false), (6, false), (7, false), (8, false), (9, false), (10, false), (11, false), (12, false)] [] _ _ (List.Sublist.refl _) (List.Sublist.refl _) mixedO (by kernel_rfl) ?_
  -- all early
  refine r_load [_, _, _] ty45 .none (.t m2) (by first | (refine sees_c ?_; (repeat (first | exact hd | apply tl)); done) | (apply sees_own; apply sees_c; (repeat (first | exact hd | apply tl)); done) | exact sees_rc (by assumption)) rfl rfl (.agg _) rfl rfl ?_
  refine r_ans en26 .none (.f _ _) (.cons (.t m0) .nil) (fun hg w hw => valid_ans _ _ _ w) (keepC (List.Sublist.refl _)) rfl rfl ?_
  refine r_not .none (.t m0) rfl rfl ?_
  refine r_move .none (.t m0) rfl rfl ?_
  refine r_fieldAddr fd45_1 (.neg rfl m0) (.t m6) rfl rfl ?_
  refine r_load [_] ty3 (.neg rfl m1) (.s m0) (by first | (refine sees_c ?_; (repeat (first | exact hd | apply tl)); done) | (apply sees_own; apply sees_c; (repeat (first | exact hd | apply tl)); done) | exact sees_rc (by assumption)) rfl rfl (.one _) rfl rfl ?_
  refine r_move (.neg rfl m2) (.t m9) rfl rfl ?_
  refine r_nilCheckP (.neg rfl m3) (.s m0) rfl rfl ?_
  refine r_fieldAddr fd70_2 (.neg rfl m4) (.s m0) rfl rfl ?_
  refine r_load [_] ty3 (.neg rfl m5) (.s m0) (by first | (refine sees_c ?_; (repeat (first | exact hd | apply tl)); done) | (apply sees_own; apply sees_c; (repeat (first | exact hd | apply tl)); done) | exact sees_rc (by assumption)) rfl rfl (.one _) rfl rfl ?_
  refine r_neq (.neg rfl m6) (.s m4) (.s m0) rfl rfl ?_
  refine r_or .none (.t m7) (.s m0) rfl rfl ?_
  refine r_assign .none (.t m0) rfl rfl ?_
  refine tl_nil ?_
  refine qt_late (List.Sublist.refl _) ?_
  refine tl_nil ?_
  refine qt_kp (.k (.d (.d (.d (.d (.d (.d (.d (.d (.d (.d (.d (.d (.d .all)))))))))))))) ?_
  refine qt_then ?_
  -- c1
  refine tr_cond (.t m0) (fun hc1 => ?_) (fun hc1 => ?_)
  ·
   try simp only [Bool.and_eq_true, Bool.or_eq_true, Bool.not_eq_true', Bool.not_eq_false', Bool.and_eq_false_iff, Bool.or_eq_false_iff, decide_eq_true_eq, decide_eq_false_iff_not, beq_iff_eq, Bool.not_eq_true, Bool.not_eq_false] at hc1
   refine tr_seq ?_
   -- region 4
   refine tr_plain ?_
   refine tl_kp (.k (.d .all)) ?_
   refine r_assign .none (.c _ _) rfl rfl ?_
   refine tl_nil ?_
   refine qt_kp (.k (.d .all)) ?_
   refine qt_then ?_
   refine tr_ret ?_
   refine qt_block_ret ?_
   refine qt_then_ret ?_
   refine qt_fin_ret rfl Try.results9 (.t m0 .nil) (fun w hw => ?_)
   exact ⟨rfl, hw.sub (List.nil_sublist _)⟩
  · exfalso; first | (simp at hc1; done) | (simp only [Bool.and_eq_true, Bool.or_eq_true, Bool.not_eq_true', Bool.not_eq_false', Bool.and_eq_false_iff, Bool.or_eq_false_iff, decide_eq_true_eq, decide_eq_false_iff_not, beq_iff_eq, Bool.not_eq_true, Bool.not_eq_false] at hc1; omega) | (simp at hc1; omega)
end Go.Proofs.Ytpmnbenmjkeacaa
