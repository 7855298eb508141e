/- A part of the proof of this claim's statement: contracts and walks. -/
import Derived.Test.YtpmnbenmjkeacaaB
set_option linter.unusedVariables false
set_option linter.unusedSimpArgs false
set_option maxHeartbeats 1000000
namespace Go.Proofs.Ytpmnbenmjkeacaa
open Go Go.RowKit Go.Sep
theorem fd68_0 : FdS Try.prog 68 0 false 0 1 := .of (by kernel_rfl)
theorem ty66 : TyS Try.prog 66 false 1 := .of (by kernel_rfl)
theorem bd77 : BdS Try.prog 77 [.int .i64 0, .int .i64 0] [(0, 1), (1, 1)] := .of (by kernel_rfl) (by kernel_rfl)
theorem sl66 : SlS Try.prog 66 77 2 := .of (by kernel_rfl)
theorem el77 : ElS Try.prog 77 (.agg #[.int .i64 0, .int .i64 0]) 2 16 := ⟨by kernel_rfl, rfl⟩
theorem en25 : EntersF Try.prog 25 := Go.Proofs.enters_of Try.func25 (by kernel_rfl) rfl
theorem ty75 : TyS Try.prog 75 false 1 := .of (by kernel_rfl)
theorem ty77 : TyS Try.prog 77 true 2 := .of (by kernel_rfl)
theorem fd77_0 : FdS Try.prog 77 0 false 0 1 := .of (by kernel_rfl)
theorem fd77_1 : FdS Try.prog 77 1 false 1 1 := .of (by kernel_rfl)
theorem el3 : ElS Try.prog 3 (.int .i64 0) 1 8 := ⟨by kernel_rfl, rfl⟩
theorem el4 : ElS Try.prog 4 (.bool false) 1 1 := ⟨by kernel_rfl, rfl⟩
theorem en31 : EntersF Try.prog 31 := Go.Proofs.enters_of Try.func31 (by kernel_rfl) rfl
theorem en32 : EntersF Try.prog 32 := Go.Proofs.enters_of Try.func32 (by kernel_rfl) rfl
theorem add_turn (b : Nat) (now number term en last : Int) (A : Option Addr) (n c : Nat) (cs : List (List Value)) (x v : Int) (hn : n ≤ 1000000) (w : World) (h0 : St w (· ∈ (allE [boxE b 70 [.int .i64 now, .bool true, .int .i64 number, .int .i64 term, .int .i64 en, .int .i64 last, .slice A n c], ownE A n c 77 2 cs]).foot) [boxE b 70 [.int .i64 now, .bool true, .int .i64 number, .int .i64 term, .int .i64 en, .int .i64 last, .slice A n c], ownE A n c 77 2 cs] w)  : Calls Try.prog 25 #[.pointer (some ⟨b, 6, none⟩), .int .i64 x, .int .i64 v] w (Gives w (· ∈ (allE [boxE b 70 [.int .i64 now, .bool true, .int .i64 number, .int .i64 term, .int .i64 en, .int .i64 last, .slice A n c], ownE A n c 77 2 cs]).foot) (fun (i : Option Addr × Nat) => .tuple #[]) (fun (i : Option Addr × Nat) => True) (fun (i : Option Addr × Nat) => [boxE b 70 [.int .i64 now, .bool true, .int .i64 number, .int .i64 term, .int .i64 en, .int .i64 last, .slice i.1 (n + 1) i.2], ownE i.1 (n + 1) i.2 77 2 (cs ++ [[.int .i64 x, .int .i64 v]])])) := by
 refine calls_args Try.func25 rfl 18 Try.ntmps25 rfl h0 ?_
 refine tr_kp .all ?_
 -- region 0
 refine tr_plain ?_
 refine r_move .none (.t m0) rfl rfl ?_
 refine r_move .none (.t m1) rfl rfl ?_
 refine r_nilCheckP .none (.t m0) rfl rfl ?_
 refine r_fieldAddr fd68_0 .none (.t m0) rfl rfl ?_
 refine r_load [_] ty66 .none (.t m0) (by first | (refine sees_l ?_; (repeat (first | exact hd | apply tl)); done) | (apply sees_own; apply sees_l; (repeat (first | exact hd | apply tl)); done) | exact sees_r (by assumption)) rfl rfl (.one _) rfl rfl ?_
 refine r_move .none (.t m6) rfl rfl ?_
 refine r_move .none (.t m8) rfl rfl ?_
 refine r_build [_, _] bd77 .none (.cons (.t m1) (.cons (.t m0) .nil)) rfl rfl rfl ?_
 refine r_buildSlice [[_, _]] sl66 el77 rfl rfl .none (.cons (.t m0) .nil) rfl rfl rfl (fun _ _ _ => trivial) rfl rfl (fun b14 => ?_)
 refine r_append sl66 el77 .none (.t m4) (.t m0) (Take.perm (by repeat (first | exact .hd | apply Take.tl))) (fun w hw => ownE_sl (hw.in_ (by repeat (first | exact hd | apply tl)))) rfl (by simp only [maxLen]; omega) (by omega) (fun _ _ _ _ => trivial) rfl rfl (fun A15 c15 => ?_)
 refine r_nilCheckP .none (.t m9) rfl rfl ?_
 refine r_fieldAddr fd68_0 .none (.t m0) rfl rfl ?_
 refine r_store [_, _, _, _, _, _, _] ty66 .none (.t m0) (.t m2) (Take.perm (by repeat (first | exact .hd | apply Take.tl))) rfl rfl rfl rfl (fun _ _ => trivial) ?_
 refine tl_nil ?_
 refine qt_kp (.d (.d (.d (.d (.d (.d (.d (.d (.d (.d (.d (.d (.d (.d (.d .all))))))))))))))) ?_
 refine qt_fin rfl Try.results25 .nil (fun w hw => ?_)
 exact ⟨(A15, c15), trivial, rfl, hw.kl (.cons (by repeat (first | exact .hd | apply Take.tl)) (.cons (by repeat (first | exact .hd | apply Take.tl)) .nil))⟩
theorem Ask_turn (b : Nat) (now number term en last : Int) (A : Option Addr) (n c : Nat) (cs : List (List Value)) (hn : n ≤ 1000000) (hl : 0 ≤ last ∧ last ≤ 1000000) (w : World) (h0 : St w (· ∈ (allE [boxE b 70 [.int .i64 now, .bool true, .int .i64 number, .int .i64 term, .int .i64 en, .int .i64 last, .slice A n c], ownE A n c 77 2 cs]).foot) [boxE b 70 [.int .i64 now, .bool true, .int .i64 number, .int .i64 term, .int .i64 en, .int .i64 last, .slice A n c], ownE A n c 77 2 cs] w)  : Calls Try.prog 8 #[.pointer (some ⟨b, 0, none⟩)] w (Gives w (· ∈ (allE [boxE b 70 [.int .i64 now, .bool true, .int .i64 number, .int .i64 term, .int .i64 en, .int .i64 last, .slice A n c], ownE A n c 77 2 cs]).foot) (fun (i : Option Addr × Nat) => .tuple #[.agg #[.int .i64 1, .int .i64 number, .int .i64 (last + 1)], .int .i64 0]) (fun (i : Option Addr × Nat) => True) (fun (i : Option Addr × Nat) => [boxE b 70 [.int .i64 now, .bool true, .int .i64 number, .int .i64 term, .int .i64 en, .int .i64 (last + 1), .slice i.1 (n + 1) i.2], ownE i.1 (n + 1) i.2 77 2 (cs ++ [[.int .i64 (last + 1), .int .i64 now]])])) := by
 refine calls_args Try.func8 rfl 45 Try.ntmps8 rfl h0 ?_
 refine tr_kp .all ?_
 refine tr_seq ?_
 -- region 0
 refine tr_plain ?_
 refine r_alloc [.int .i64 0, .int .i64 0, .int .i64 0] el45 rfl .none (fun _ _ _ => trivial) rfl rfl (fun b2 => ?_)
 refine r_assign .none (.c _ _) rfl rfl ?_
 refine tl_nil ?_
 refine qt_then ?_
 refine tr_seq ?_
 refine tr_block ?_
 refine tr_seq ?_
 -- region 1
 refine tr_plain ?_
 refine r_move .none (.t m2) rfl rfl ?_
 refine r_ans en24 .none (.f _ _) (.cons (.t m0) .nil) (fun hg w hw => nis_ans _ _ _ _ _ _ _ _ _ w (hw.in_ m1)) (fun _ _ => trivial) rfl rfl ?_
 refine r_not .none (.t m0) rfl rfl ?_
 refine r_assign .none (.t m0) rfl rfl ?_
 refine tl_nil ?_
 refine qt_kp (.k (.d (.d (.d .all)))) ?_
 refine qt_then ?_
 -- c0
 refine tr_cond (.t m0) (fun hc0 => ?_) (fun hc0 => ?_)
 · exfalso; first | (simp at hc0; done) | (simp only [Bool.and_eq_true, Bool.or_eq_true, Bool.not_eq_true', Bool.not_eq_false', Bool.and_eq_false_iff, Bool.or_eq_false_iff, decide_eq_true_eq, decide_eq_false_iff_not, beq_iff_eq, Bool.not_eq_true, Bool.not_eq_false] at hc0; omega) | (simp at hc0; omega)
 ·
  try simp only [Bool.and_eq_true, Bool.or_eq_true, Bool.not_eq_true', Bool.not_eq_false', Bool.and_eq_false_iff, Bool.or_eq_false_iff, decide_eq_true_eq, decide_eq_false_iff_not, beq_iff_eq, Bool.not_eq_true, Bool.not_eq_false] at hc0
  refine tr_seq ?_
  -- region 3
  refine tr_plain ?_
  refine r_move .none (.t m3) rfl rfl ?_
  refine r_nilCheckP .none (.t m0) rfl rfl ?_
  refine r_fieldAddr fd70_5 .none (.t m0) rfl rfl ?_
  refine r_load [_] ty3 .none (.t m0) (by first | (refine sees_l ?_; (repeat (first | exact hd | apply tl)); done) | (apply sees_own; apply sees_l; (repeat (first | exact hd | apply tl)); done) | exact sees_r (by assumption)) rfl rfl (.one _) rfl rfl ?_
  refine r_eql .none (.t m0) (.c _ _) rfl rfl ?_
  refine r_assign .none (.t m0) rfl rfl ?_
  refine tl_nil ?_
  refine qt_kp (.k (.d (.d (.d (.d (.d (.d .all))))))) ?_
  refine qt_then ?_
  -- c1
  refine tr_cond (.t m0) (fun hc1 => ?_) (fun hc1 => ?_)
  · exfalso; first | (simp at hc1; done) | (simp only [Bool.and_eq_true, Bool.or_eq_true, Bool.not_eq_true', Bool.not_eq_false', Bool.and_eq_false_iff, Bool.or_eq_false_iff, decide_eq_true_eq, decide_eq_false_iff_not, beq_iff_eq, Bool.not_eq_true, Bool.not_eq_false] at hc1; omega) | (simp at hc1; omega)
  ·
   try simp only [Bool.and_eq_true, Bool.or_eq_true, Bool.not_eq_true', Bool.not_eq_false', Bool.and_eq_false_iff, Bool.or_eq_false_iff, decide_eq_true_eq, decide_eq_false_iff_not, beq_iff_eq, Bool.not_eq_true, Bool.not_eq_false] at hc1
   refine tr_skip ?_
   refine qt_block ?_
   refine qt_then ?_
   refine tr_seq ?_
   -- region 5
   refine tr_plain ?_
   refine r_move .none (.t m3) rfl rfl ?_
   refine r_nilCheckP .none (.t m0) rfl rfl ?_
   refine r_fieldAddr fd70_5 .none (.t m0) rfl rfl ?_
   refine r_load [_] ty3 .none (.t m0) (by first | (refine sees_l ?_; (repeat (first | exact hd | apply tl)); done) | (apply sees_own; apply sees_l; (repeat (first | exact hd | apply tl)); done) | exact sees_r (by assumption)) rfl rfl (.one _) rfl rfl ?_
   refine r_add .none (.t m0) (.c _ _) (fun _ => by omega) rfl rfl ?_
   refine r_nilCheckP .none (.t m4) rfl rfl ?_
   refine r_fieldAddr fd70_5 .none (.t m0) rfl rfl ?_
   refine r_store [_, _, _, _, _, _, _] ty3 .none (.t m0) (.t m2) (Take.perm (by repeat (first | exact .hd | apply Take.tl))) rfl rfl rfl rfl (fun _ _ => trivial) ?_
   refine tl_nil ?_
   refine qt_kp (.d (.d (.d (.d (.d (.d (.d (.d .all)))))))) ?_
   refine qt_then ?_
   refine tr_seq ?_
   -- region 6 draws
   refine tr_ord [(0, false), (1, false), (2, false), (3, false), (4, false), (5, false), (6, false), (7, false), (8, false), (9, false), (10, false), (11, false)] [(12, true)] _ _ (List.Sublist.refl _) (.cons _ (.cons_cons _ (List.nil_sublist _))) mixedO (by kernel_rfl) ?_
   refine r_move .none (.t m2) rfl rfl ?_
   refine r_nilCheckP .none (.t m0) rfl rfl ?_
   refine r_fieldAddr fd70_6 .none (.t m0) rfl rfl ?_
   refine r_move .none (.t m5) rfl rfl ?_
   refine r_nilCheckP .none (.t m0) rfl rfl ?_
   refine r_fieldAddr fd70_5 .none (.t m0) rfl rfl ?_
   refine r_load [_] ty3 .none (.t m0) (by first | (refine sees_c ?_; (repeat (first | exact hd | apply tl)); done) | (apply sees_own; apply sees_c; (repeat (first | exact hd | apply tl)); done) | exact sees_rc (by assumption)) rfl rfl (.one _) rfl rfl ?_
   refine r_move .none (.t m9) rfl rfl ?_
   refine r_nilCheckP .none (.t m0) rfl rfl ?_
   refine r_fieldAddr fd70_0 .none (.t m0) rfl rfl ?_
   refine r_fieldAddr fd59_0 .none (.t m0) rfl rfl ?_
   refine r_load [_] ty3 .none (.t m0) (by first | (refine sees_c ?_; (repeat (first | exact hd | apply tl)); done) | (apply sees_own; apply sees_c; (repeat (first | exact hd | apply tl)); done) | exact sees_rc (by assumption)) rfl rfl (.one _) rfl rfl ?_
   refine tl_nil ?_
   refine qt_late (.cons _ (.cons_cons _ (List.nil_sublist _))) ?_
   refine r_call _ _ _ en25 .none (.f _ _) (.cons (.t m9) (.cons (.t m5) (.cons (.t m0) .nil))) (fun w hw => callL (.cons .hd (.cons (.tl .hd) .nil)) hw (fun h => add_turn _ _ _ _ _ _ _ _ _ _ _ _ (by omega) w h)) (fun _ _ _ => keepC (.cons _ (.cons _ (List.Sublist.refl _))) _) rfl rfl ?_
   rintro ⟨A15, c15⟩ _
   refine tl_nil ?_
   refine qt_kp (.d (.d (.d (.d (.d (.d (.d (.d (.d (.d (.d (.d (.d .all))))))))))))) ?_
   refine qt_then ?_
   refine tr_seq ?_
   -- region 7 draws
   refine tr_ord [(0, false), (1, false), (2, false), (3, false), (4, false), (5, false), (6, false), (7, false), (8, false)] [(9, true), (10, false)] _ _ (List.Sublist.refl _) (.cons_cons _ (.cons_cons _ (List.nil_sublist _))) mixedO (by kernel_rfl) ?_
   refine r_move .none (.t m2) rfl rfl ?_
   refine r_nilCheckP .none (.t m0) rfl rfl ?_
   refine r_fieldAddr fd70_2 .none (.t m0) rfl rfl ?_
   refine r_load [_] ty3 .none (.t m0) (by first | (refine sees_c ?_; (repeat (first | exact hd | apply tl)); done) | (apply sees_own; apply sees_c; (repeat (first | exact hd | apply tl)); done) | exact sees_rc (by assumption)) rfl rfl (.one _) rfl rfl ?_
   refine r_move .none (.t m6) rfl rfl ?_
   refine r_nilCheckP .none (.t m0) rfl rfl ?_
   refine r_fieldAddr fd70_5 .none (.t m0) rfl rfl ?_
   refine r_load [_] ty3 .none (.t m0) (by first | (refine sees_c ?_; (repeat (first | exact hd | apply tl)); done) | (apply sees_own; apply sees_c; (repeat (first | exact hd | apply tl)); done) | exact sees_rc (by assumption)) rfl rfl (.one _) rfl rfl ?_
   refine r_build [_, _, _] bd45 .none (.cons (.c _ _) (.cons (.t m4) (.cons (.t m0) .nil))) rfl rfl rfl ?_
   refine tl_nil ?_
   refine qt_late (.cons_cons _ (.cons_cons _ (List.nil_sublist _))) ?_
   refine r_store [_, _, _] ty45 .none (.t m10) (.t m0) (Take.perm (by repeat (first | exact .hd | apply Take.tl))) rfl rfl rfl rfl (keepC (.cons _ (List.Sublist.refl _))) ?_
   refine tl_kp (.k (.k (.k (.k (.k (.k (.k (.k (.k (.d .all)))))))))) ?_
   refine r_assign .none (.c _ _) rfl rfl ?_
   refine tl_nil ?_
   refine qt_kp (.k (.d (.d (.d (.d (.d (.d (.d (.d (.d (.k (.d .all)))))))))))) ?_
   refine qt_then ?_
   refine tr_ret ?_
   refine qt_fin_ret rfl Try.results8 (.c [_, _, _] ty45 m1 (by repeat (first | exact hd | apply tl)) rfl rfl (.agg _) (.t m0 .nil)) (fun w hw => ?_)
   exact ⟨(A15, c15), trivial, rfl, hw.kl (.cons (by repeat (first | exact .hd | apply Take.tl)) (.cons (by repeat (first | exact .hd | apply Take.tl)) .nil))⟩
theorem all_new (b o : Nat) (w : World) : Calls Try.prog 31 #[.pointer (some ⟨b, o, none⟩)] w (Gives w no (fun i : Nat => .func (.func 32) #[] #[.pointer (some ⟨i, 0, none⟩)]) (fun _ => True) (fun i => [boxE i 75 [.pointer (some ⟨b, o, none⟩)]])) := by
 refine calls_args Try.func31 rfl 4 Try.ntmps31 rfl (St.refl _ no) ?_
 refine tr_kp .all ?_
 refine tr_seq ?_
 -- region 0
 refine tr_plain ?_
 refine r_box [_] .none (.t m0) rfl (fun _ _ _ => trivial) rfl rfl (fun b1 => ?_)
 refine r_assign .none (.c _ _) rfl rfl ?_
 refine tl_nil ?_
 refine qt_kp (.k (.k (.d .all))) ?_
 refine qt_then ?_
 refine tr_seq ?_
 -- region 1
 refine tr_plain ?_
 refine r_makeFuncF .none .nil (.cons (.t m1) .nil) rfl rfl ?_
 refine tl_kp (.k (.d .all)) ?_
 refine r_assign .none (.t m0) rfl rfl ?_
 refine tl_nil ?_
 refine qt_kp (.k (.d (.d .all))) ?_
 refine qt_then ?_
 refine tr_ret ?_
 refine qt_fin_ret rfl Try.results31 (.t m0 .nil) (fun w hw => ?_)
 exact ⟨b1, trivial, rfl, hw.kl (.cons (by repeat (first | exact .hd | apply Take.tl)) .nil)⟩
theorem all1_calls (b : Nat) (now number term en last : Int) (A : Option Addr) (n c : Nat) (ak : List (Int × Int)) (bR : Nat) {τ : Type} (J : τ → Ent) (s0 : τ) (W : World) (hJ : St W (· ∈ (J s0).foot) [J s0] W) (hcap : ∀ w, In w (J s0) → In w (boxE bR 75 [.pointer (some ⟨b, 6, none⟩)])) (hhd : ∀ w, In w (J s0) → In w (boxE b 70 [.int .i64 now, .bool true, .int .i64 number, .int .i64 term, .int .i64 en, .int .i64 last, .slice A n c])) (hel : Ro W (· ∈ (J s0).foot) (slE A n c 2 (ak.map (fun p : Int × Int => [Value.int .i64 p.1, Value.int .i64 p.2])))) (l : Nat) (R Rx : List (Int × Int) → τ → Prop) (hR0 : R [] s0) (hY : ∀ pre x s W', R pre s → pre ++ [x] <+: ak → St W (· ∈ (J s0).foot) [J s] W' → Hands Try.prog l [.int .i64 x.1, .int .i64 x.2] W' J s (R (pre ++ [x])) (Rx (pre ++ [x]))) : Calls Try.prog 32 #[.func (.yield l) #[] #[], .pointer (some ⟨bR, 0, none⟩)] W (Gives W (· ∈ (J s0).foot) (fun _ => .tuple #[]) (fun s => (∃ xs, xs = ak ∧ R xs s) ∨ ∃ pre, Rx pre s) (fun s => [J s])) := by
 have hlen : ak.length = n := by have := hel.ok.1; simpa using this
 have hlt : n ≤ maxLen := Nat.le_trans hel.ok.2.2.1 hel.ok.2.2.2.1
 simp only [maxLen] at hlt
 refine calls_args Try.func32 rfl 22 Try.ntmps32 rfl hJ ?_
 refine tr_kp .all ?_
 refine tr_seq ?_
 -- region 0
 refine tr_plain ?_
 refine r_load [_] ty75 .none (.t m1) (sees_of hd hcap) rfl rfl (.one _) rfl rfl ?_
 refine r_nilCheckP .none (.t m0) rfl rfl ?_
 refine r_fieldAddr fd68_0 .none (.t m0) rfl rfl ?_
 refine r_load [_] ty66 .none (.t m0) (sees_of hd hhd) rfl rfl (.one _) rfl rfl ?_
 refine r_lenSl Try.underlying66 .none (.t m0) rfl rfl ?_
 refine r_move .none (.c _ _) rfl rfl ?_
 refine tl_nil ?_
 refine qt_kp (.k (.k (.k (.d (.d (.d (.k (.d .all)))))))) ?_
 refine qt_then ?_
 refine tr_block ?_
 refine tr_loop2 (fun (k : Nat) (s : τ) => [(0, true, .func (.yield l) #[] #[]), (8, true, .slice A n c), (9, true, .int .i64 (n : Int)), (10, true, .int .i64 (k : Int))]) (fun (k : Nat) (s : τ) => [J s]) (fun (k : Nat) (s : τ) => k ≤ ak.length ∧ R (ak.take k) s) (fun (k : Nat) (s : τ) => ak.length - k) 0 s0 (⟨Nat.zero_le _, by simpa using hR0⟩) (subCons (mca m3) (subCons (mca m2) (subCons (mca m1) (subCons (mca m0) subNil)))) (Pm.perm (by repeat (first | exact .nil | refine .cons (by repeat (first | exact .hd | apply Take.tl)) ?_))) ?_
 intro k s hI
 refine tr_seq ?_
 -- region 1
 refine tr_plain ?_
 refine r_lss .none (.t m3) (.t m2) rfl rfl ?_
 refine tl_nil ?_
 refine qt_then ?_
 refine tr_seq ?_
 -- c0
 refine tr_cond (.t m0) (fun hc0 => ?_) (fun hc0 => ?_)
 ·
  try simp only [Bool.and_eq_true, Bool.or_eq_true, Bool.not_eq_true', Bool.not_eq_false', Bool.and_eq_false_iff, Bool.or_eq_false_iff, decide_eq_true_eq, decide_eq_false_iff_not, beq_iff_eq, Bool.not_eq_true, Bool.not_eq_false] at hc0
  refine tr_skip ?_
  refine qt_then ?_
  refine tr_seq ?_
  refine tr_block ?_
  refine tr_seq ?_
  -- region 2
  obtain ⟨⟨x1, x2⟩, hx⟩ : ∃ x, ak[k]? = some x := ⟨_, List.getElem?_eq_getElem (by omega)⟩
  have hcl : (ak.map (fun p : Int × Int => [Value.int .i64 p.1, Value.int .i64 p.2]))[k]? = some [Value.int .i64 x1, Value.int .i64 x2] := by simp [hx]
  have htk : ak.take k ++ [(x1, x2)] = ak.take (k + 1) := by rw [List.take_add_one, hx]; rfl
  refine tr_plain ?_
  refine r_indexAddr sl66 (by first | (refine sees_l ?_; (repeat (first | exact hd | apply tl)); done) | (apply sees_own; apply sees_l; (repeat (first | exact hd | apply tl)); done) | exact sees_r (by assumption)) .none (.t m2) (.t m4) (fun _ => by omega) rfl rfl ?_
  refine r_loadEl [_, _] ty77 (by first | (refine sees_l ?_; (repeat (first | exact hd | apply tl)); done) | (apply sees_own; apply sees_l; (repeat (first | exact hd | apply tl)); done) | exact sees_r (by assumption)) .none (.t m0) (fun _ => by assumption) rfl rfl (.agg _) rfl rfl ?_
  refine r_alloc [.int .i64 0, .int .i64 0] el77 rfl .none (fun _ _ _ => trivial) rfl rfl (fun b4 => ?_)
  refine r_store [_, _] ty77 .none (.t m0) (.t m1) (Take.perm (by repeat (first | exact .hd | apply Take.tl))) rfl rfl rfl rfl (fun _ _ => trivial) ?_
  refine tl_nil ?_
  refine qt_then ?_
  refine tr_seq ?_
  -- region 3
  refine tr_plain ?_
  refine r_move .none (.t m4) rfl rfl ?_
  refine r_fieldAddr fd77_0 .none (.t m1) rfl rfl ?_
  refine r_load [_] ty3 .none (.t m0) (by first | (refine sees_l ?_; (repeat (first | exact hd | apply tl)); done) | (apply sees_own; apply sees_l; (repeat (first | exact hd | apply tl)); done) | exact sees_r (by assumption)) rfl rfl (.one _) rfl rfl ?_
  refine r_fieldAddr fd77_1 .none (.t m3) rfl rfl ?_
  refine r_load [_] ty3 .none (.t m0) (by first | (refine sees_l ?_; (repeat (first | exact hd | apply tl)); done) | (apply sees_own; apply sees_l; (repeat (first | exact hd | apply tl)); done) | exact sees_r (by assumption)) rfl rfl (.one _) rfl rfl ?_
  refine r_yield _ _ _ .none (.t m4) (.cons (.t m2) (.cons (.t m0) .nil)) (fun w hw => call_hands (Take.perm (by repeat (first | exact .hd | apply Take.tl))) (hY (ak.take k) (x1, x2) s w hI.2 (by rw [htk]; exact List.take_prefix _ _) (hw.kl (.cons (by repeat (first | exact .hd | apply Take.tl)) .nil))) hw) (fun _ _ _ _ => trivial) rfl rfl ?_
  rintro ⟨ok, s'⟩ hr
  refine r_not .none (.t m0) rfl rfl ?_
  refine tl_nil ?_
  refine qt_then ?_
  -- c1
  refine tr_cond (.t m0) (fun hc1 => ?_) (fun hc1 => ?_)
  ·
   simp only [Bool.and_eq_true, Bool.or_eq_true, Bool.not_eq_true', Bool.not_eq_false', Bool.and_eq_false_iff, Bool.or_eq_false_iff, decide_eq_true_eq, decide_eq_false_iff_not, beq_iff_eq, Bool.not_eq_true, Bool.not_eq_false] at hc1
   subst hc1
   refine tr_ret ?_
   refine qt_block_ret ?_
   refine qt_then_ret ?_
   refine qt_loop_ret ?_
   refine qt_block_ret ?_
   refine qt_fin_ret rfl Try.results32 .nil (fun w hw => ?_)
   first
     | exact ⟨s, .inl ⟨ak, rfl, by have h2 := hI.2; rw [List.take_of_length_le (by omega)] at h2; exact h2⟩, rfl, hw.kl (.cons (by repeat (first | exact .hd | apply Take.tl)) .nil)⟩
     | (simp only [Bool.false_eq_true, if_false] at hr; exact ⟨s', .inr ⟨_, hr⟩, rfl, hw.kl (.cons (by repeat (first | exact .hd | apply Take.tl)) .nil)⟩)
  ·
   simp only [Bool.and_eq_true, Bool.or_eq_true, Bool.not_eq_true', Bool.not_eq_false', Bool.and_eq_false_iff, Bool.or_eq_false_iff, decide_eq_true_eq, decide_eq_false_iff_not, beq_iff_eq, Bool.not_eq_true, Bool.not_eq_false] at hc1
   subst hc1
   refine tr_skip ?_
   refine qt_block ?_
   refine qt_then ?_
   -- region 4
   refine tr_plain ?_
   refine r_add .none (.t m14) (.c _ _) (fun _ => by omega) rfl rfl ?_
   refine tl_kp (.k (.k (.k (.k (.k (.k (.k (.k (.k (.k (.k (.k (.k (.k (.k (.d .all)))))))))))))))) ?_
   refine r_move .none (.t m0) rfl rfl ?_
   refine tl_nil ?_
   refine qt_kl (.cons .hd .nil) ?_
   simp only [Bool.false_eq_true, if_false, if_true] at hr
   exact qt_round2 (Fi := fun (k : Nat) (s : τ) => [(0, true, .func (.yield l) #[] #[]), (8, true, .slice A n c), (9, true, .int .i64 (n : Int)), (10, true, .int .i64 (k : Int))]) (Li := fun (k : Nat) (s : τ) => [J s]) (I := fun (k : Nat) (s : τ) => k ≤ ak.length ∧ R (ak.take k) s) (μ := fun (k : Nat) (s : τ) => ak.length - k) (k + 1) s' ⟨by omega, by rw [htk] at hr; exact hr⟩ (by omega) (subCons (mca m13) (subCons (mca m14) (subCons (mca m15) (subCons (mca m0) subNil)))) (Pm.perm (by repeat (first | exact .nil | refine .cons (by repeat (first | exact .hd | apply Take.tl)) ?_)))
 ·
  try simp only [Bool.and_eq_true, Bool.or_eq_true, Bool.not_eq_true', Bool.not_eq_false', Bool.and_eq_false_iff, Bool.or_eq_false_iff, decide_eq_true_eq, decide_eq_false_iff_not, beq_iff_eq, Bool.not_eq_true, Bool.not_eq_false] at hc0
  refine tr_exit ?_
  refine qt_then_exit ?_
  refine qt_loop_exit ?_
  refine qt_block_hit ?_
  refine qt_fin rfl Try.results32 .nil (fun w hw => ?_)
  first
    | exact ⟨s, .inl ⟨ak, rfl, by have h2 := hI.2; rw [List.take_of_length_le (by omega)] at h2; exact h2⟩, rfl, hw.kl (.cons (by repeat (first | exact .hd | apply Take.tl)) .nil)⟩
    | (simp only [Bool.false_eq_true, if_false] at hr; exact ⟨s', .inr ⟨_, hr⟩, rfl, hw.kl (.cons (by repeat (first | exact .hd | apply Take.tl)) .nil)⟩)
theorem all1_it (b : Nat) (now number term en last : Int) (A : Option Addr) (n c : Nat) (ak : List (Int × Int)) (bR : Nat) {τ : Type} (J : τ → Ent) (s0 : τ) (W : World) (hJ : St W (· ∈ (J s0).foot) [J s0] W) (hcap : ∀ w, In w (J s0) → In w (boxE bR 75 [.pointer (some ⟨b, 6, none⟩)])) (hhd : ∀ w, In w (J s0) → In w (boxE b 70 [.int .i64 now, .bool true, .int .i64 number, .int .i64 term, .int .i64 en, .int .i64 last, .slice A n c])) (hel : Ro W (· ∈ (J s0).foot) (slE A n c 2 (ak.map (fun p : Int × Int => [Value.int .i64 p.1, Value.int .i64 p.2])))) : IterAt Try.prog 32 [.pointer (some ⟨bR, 0, none⟩)] (fun x : Int × Int => [.int .i64 x.1, .int .i64 x.2]) (· <+: ak) (· = ak) W J s0 := fun l R Rx h0 hY => all1_calls b now number term en last A n c ak bR J s0 W hJ hcap hhd hel l R Rx h0 hY
/-- the first of a list's entries with that number: where, and what -/
def pickA (m : Int) : List (Int × Int) → Option (Nat × Int)
  | [] => none
  | p :: l => if p.1 = m then some (0, p.2) else (pickA m l).map fun q => (q.1 + 1, q.2)
theorem pickA_none {m : Int} : ∀ {l : List (Int × Int)}, (∀ p ∈ l, p.1 ≠ m) → pickA m l = none
  | [], _ => rfl
  | p :: l, h => by simp only [pickA]; rw [if_neg (h p List.mem_cons_self), pickA_none fun q hq => h q (List.mem_cons_of_mem _ hq)]; rfl
theorem pickA_at {m : Int} {x : Int × Int} (hx : x.1 = m) : ∀ {pre l : List (Int × Int)}, (∀ p ∈ pre, p.1 ≠ m) → pre ++ [x] <+: l → pickA m l = some (pre.length, x.2)
  | [], [], _, h => by simp at h
  | [], y :: l, _, h => by
    simp only [List.nil_append, List.cons_prefix_cons] at h
    obtain ⟨rfl, _⟩ := h
    simp only [pickA]; rw [if_pos hx]; rfl
  | p :: pre, [], _, h => by simp at h
  | p :: pre, y :: l, hn, h => by
    simp only [List.cons_append, List.cons_prefix_cons] at h
    obtain ⟨rfl, h⟩ := h
    simp only [pickA]; rw [if_neg (hn p List.mem_cons_self), pickA_at hx (fun q hq => hn q (List.mem_cons_of_mem _ hq)) h]; rfl
theorem take_turn (b : Nat) (now number term en last : Int) (A : Option Addr) (n c : Nat) (ak : List (Int × Int)) (m : Int) (hn : n ≤ 1000000) (w : World) (h0 : St w (· ∈ (allE [boxE b 70 [.int .i64 now, .bool true, .int .i64 number, .int .i64 term, .int .i64 en, .int .i64 last, .slice A n c]]).foot) [boxE b 70 [.int .i64 now, .bool true, .int .i64 number, .int .i64 term, .int .i64 en, .int .i64 last, .slice A n c]] w) (hel : Ro w (· ∈ (allE [boxE b 70 [.int .i64 now, .bool true, .int .i64 number, .int .i64 term, .int .i64 en, .int .i64 last, .slice A n c]]).foot) (slE A n c 2 (ak.map (fun p : Int × Int => [Value.int .i64 p.1, Value.int .i64 p.2])))) : Calls Try.prog 27 #[.pointer (some ⟨b, 6, none⟩), .int .i64 m] w (Gives w (· ∈ (allE [boxE b 70 [.int .i64 now, .bool true, .int .i64 number, .int .i64 term, .int .i64 en, .int .i64 last, .slice A n c]]).foot) (fun (_ : Unit) => .tuple #[.int .i64 (((pickA m ak).map Prod.snd).getD 0), .bool (pickA m ak).isSome]) (fun (_ : Unit) => True) (fun (_ : Unit) => [(match pickA m ak with | none => boxE b 70 [.int .i64 now, .bool true, .int .i64 number, .int .i64 term, .int .i64 en, .int .i64 last, .slice A n c] | some q => boxE b 70 [.int .i64 now, .bool true, .int .i64 number, .int .i64 term, .int .i64 en, .int .i64 last, .slice (fromA A c (q.1 + 1) 2) (n - (q.1 + 1)) (c - (q.1 + 1))])])) := by
 have hlen : ak.length = n := by have := hel.ok.1; simpa using this
 have hnc : n ≤ c := hel.ok.2.2.1
 refine calls_argsM Try.func27 rfl 29 Try.ntmps27 rfl h0 ?_
 refine tr_kp .all ?_
 refine tr_seq ?_
 -- region 0
 refine tr_plain ?_
 refine r_box [_] .none (.t m0) rfl (fun _ _ _ => trivial) rfl rfl (fun b2 => ?_)
 refine r_box [_] .none (.t m2) rfl (fun _ _ _ => trivial) rfl rfl (fun b3 => ?_)
 refine r_alloc [.int .i64 0] el3 rfl .none (fun _ _ _ => trivial) rfl rfl (fun b4 => ?_)
 refine r_alloc [.bool false] el4 rfl .none (fun _ _ _ => trivial) rfl rfl (fun b5 => ?_)
 refine tl_nil ?_
 refine qt_kp (.k (.k (.k (.k (.d (.d .all)))))) ?_
 refine qt_then ?_
 refine tr_seq ?_
 -- region 1
 refine tr_plain ?_
 refine r_alloc [.int .i64 0] el3 rfl .none (fun _ _ _ => trivial) rfl rfl (fun b6 => ?_)
 refine r_store [_] ty3 .none (.t m0) (.c _ _) (Take.perm (by repeat (first | exact .hd | apply Take.tl))) rfl rfl rfl rfl (fun _ _ => trivial) ?_
 refine tl_nil ?_
 refine qt_then ?_
 refine tr_seq ?_
 refine tr_seq ?_
 -- region 2
 refine tr_plain ?_
 refine r_load [_] ty75 .none (.t m4) (by first | (refine sees_l ?_; (repeat (first | exact hd | apply tl)); done) | (apply sees_own; apply sees_l; (repeat (first | exact hd | apply tl)); done) | exact sees_r (by assumption)) rfl rfl (.one _) rfl rfl ?_
 refine r_call _ _ _ en31 .none (.f _ _) (.cons (.t m0) .nil) (fun w hw => call_grow (all_new _ _ w) hw) (fun _ _ _ _ => trivial) rfl rfl ?_
 rintro bx _
 refine tl_nil ?_
 refine qt_kp (.k (.d .all)) ?_
 refine qt_then ?_
 refine tr_block ?_
 refine tr_rangeFunc (f := 32) rfl en32 (.t m0) (fun x : Int × Int => [.int .i64 x.1, .int .i64 x.2]) (fun _ => rfl) (fun (p : Nat × Int × Bool × (Option Addr) × Nat × Nat) => [boxE b6 3 [.int .i64 (p.1 : Int)], boxE b4 3 [.int .i64 p.2.1], boxE b5 4 [.bool p.2.2.1], boxE b2 75 [.pointer (some ⟨b, 6, none⟩)], boxE b3 3 [.int .i64 m], boxE bx 75 [.pointer (some ⟨b, 6, none⟩)], boxE b 70 [.int .i64 now, .bool true, .int .i64 number, .int .i64 term, .int .i64 en, .int .i64 last, .slice p.2.2.2.1 p.2.2.2.2.1 p.2.2.2.2.2]]) (fun (pre : List (Int × Int)) (p : Nat × Int × Bool × (Option Addr) × Nat × Nat) => p.1 = pre.length ∧ p.2.1 = 0 ∧ p.2.2.1 = false ∧ p.2.2.2.1 = A ∧ p.2.2.2.2.1 = n ∧ p.2.2.2.2.2 = c ∧ ∀ q ∈ pre, q.1 ≠ m) (fun cx pre p => cx = .ret ∧ ∃ q, pickA m ak = some q ∧ p.2.1 = q.2 ∧ p.2.2.1 = true ∧ p.2.2.2.1 = fromA A c (q.1 + 1) 2 ∧ p.2.2.2.2.1 = n - (q.1 + 1) ∧ p.2.2.2.2.2 = c - (q.1 + 1)) ((· <+: ak)) ((· = ak)) (0, 0, false, A, n, c) (Pm.perm (by repeat (first | exact .nil | refine .cons (by repeat (first | exact .hd | apply Take.tl)) ?_))) (⟨rfl, rfl, rfl, rfl, rfl, rfl, fun _ h => by cases h⟩) rfl ?_ ?_ ?_ ?_
 ·
  intro l rec W hW
  exact all1_it b now number term en last A n c ak bx _ _ W hW.one (fun w h => h.of_all (by repeat (first | exact hd | apply tl))) (fun w h => h.of_all (by repeat (first | exact hd | apply tl))) (hel.later hW)
 ·
  rintro l rec pre x ⟨cnt, val, okk, A1, n1, c1⟩ W hrec hR hpre hW
  dsimp only at hR hW ⊢
  obtain ⟨rfl, rfl, rfl, rfl, rfl, rfl, hne⟩ := hR
  have hlen1 : pre.length + 1 ≤ ak.length := by have := hpre.length_le; simpa using this
  refine tr_kp .all ?_
  refine tr_seq ?_
  -- region 3
  refine tr_plain ?_
  refine r_assign .none (.t m1) rfl rfl ?_
  refine tl_nil ?_
  refine qt_kp (.k (.k (.d (.d .all)))) ?_
  refine qt_then ?_
  -- region 4
  refine tr_plain ?_
  refine r_assign .none (.t m1) rfl rfl ?_
  refine tl_nil ?_
  refine qt_kp (.k (.k (.d .all))) ?_
  refine qt_begin hrec (by repeat (first | exact .hd | apply Take.tl)) ?_
  refine tr_block ?_
  refine tr_seq ?_
  -- region 5
  refine tr_plain ?_
  refine r_load [_] ty3 .none (.t m2) (by first | (refine sees_l ?_; (repeat (first | exact hd | apply tl)); done) | (apply sees_own; apply sees_l; (repeat (first | exact hd | apply tl)); done) | exact sees_r (by assumption)) rfl rfl (.one _) rfl rfl ?_
  refine r_add .none (.t m0) (.c _ _) (fun _ => by omega) rfl rfl ?_
  refine r_store [_] ty3 .none (.t m4) (.t m0) (Take.perm (by repeat (first | exact .hd | apply Take.tl))) rfl rfl rfl rfl (fun _ _ => trivial) ?_
  refine tl_nil ?_
  refine qt_kp (.d (.d .all)) ?_
  refine qt_then ?_
  refine tr_seq ?_
  -- region 6
  refine tr_plain ?_
  refine r_move .none (.t m1) rfl rfl ?_
  refine r_load [_] ty3 .none (.t m6) (by first | (refine sees_l ?_; (repeat (first | exact hd | apply tl)); done) | (apply sees_own; apply sees_l; (repeat (first | exact hd | apply tl)); done) | exact sees_r (by assumption)) rfl rfl (.one _) rfl rfl ?_
  refine r_eql .none (.t m1) (.t m0) rfl rfl ?_
  refine tl_nil ?_
  refine qt_kp (.k (.d (.d (.k (.d (.k (.k (.k (.d .all))))))))) ?_
  refine qt_then ?_
  -- c0
  refine tr_cond (.t m0) (fun hc0 => ?_) (fun hc0 => ?_)
  ·
   try simp only [Bool.and_eq_true, Bool.or_eq_true, Bool.not_eq_true', Bool.not_eq_false', Bool.and_eq_false_iff, Bool.or_eq_false_iff, decide_eq_true_eq, decide_eq_false_iff_not, beq_iff_eq, Bool.not_eq_true, Bool.not_eq_false] at hc0
   refine tr_seq ?_
   -- region 7 draws
   refine tr_ord [(0, false), (1, false), (2, false), (3, false), (4, false), (5, false), (6, false), (7, false), (8, false)] [(9, true)] _ _ (List.Sublist.refl _) (.cons_cons _ (.cons_cons _ (.cons_cons _ (.cons_cons _ (.cons_cons _ (.cons_cons _ (.cons_cons _ (List.nil_sublist _)))))))) mixedO (by kernel_rfl) ?_
   refine r_load [_] ty75 .none (.t m5) (by first | (refine sees_c ?_; (repeat (first | exact hd | apply tl)); done) | (apply sees_own; apply sees_c; (repeat (first | exact hd | apply tl)); done) | exact sees_rc (by assumption)) rfl rfl (.one _) rfl rfl ?_
   refine r_load [_] ty75 .none (.t m6) (by first | (refine sees_c ?_; (repeat (first | exact hd | apply tl)); done) | (apply sees_own; apply sees_c; (repeat (first | exact hd | apply tl)); done) | exact sees_rc (by assumption)) rfl rfl (.one _) rfl rfl ?_
   refine r_nilCheckP .none (.t m0) rfl rfl ?_
   refine r_fieldAddr fd68_0 .none (.t m0) rfl rfl ?_
   refine r_load [_] ty66 .none (.t m0) (by first | (refine sees_c ?_; (repeat (first | exact hd | apply tl)); done) | (apply sees_own; apply sees_c; (repeat (first | exact hd | apply tl)); done) | exact sees_rc (by assumption)) rfl rfl (.one _) rfl rfl ?_
   refine r_load [_] ty3 .none (.t m7) (by first | (refine sees_c ?_; (repeat (first | exact hd | apply tl)); done) | (apply sees_own; apply sees_c; (repeat (first | exact hd | apply tl)); done) | exact sees_rc (by assumption)) rfl rfl (.one _) rfl rfl ?_
   refine r_slice (l := pre.length + 1) (r := _) sl66 .none (.t m1) ⟨_, (.t m0)⟩ rfl (fun _ => by omega) (fun _ => by omega) rfl rfl ?_
   refine r_nilCheckP .none (.t m6) rfl rfl ?_
   refine r_fieldAddr fd68_0 .none (.t m0) rfl rfl ?_
   refine tl_nil ?_
   refine qt_late (.cons_cons _ (.cons_cons _ (.cons_cons _ (.cons_cons _ (.cons_cons _ (.cons_cons _ (.cons_cons _ (List.nil_sublist _)))))))) ?_
   refine r_store [_, _, _, _, _, _, _] ty66 .none (.t m0) (.t m2) (Take.perm (by repeat (first | exact .hd | apply Take.tl))) rfl rfl rfl rfl (keepC (.cons _ (List.Sublist.refl _))) ?_
   refine tl_nil ?_
   refine qt_kp (.d (.d (.d (.d (.d (.d (.d (.d (.d (.d (.k (.d (.k (.k (.d .all))))))))))))))) ?_
   refine qt_then ?_
   refine tr_seq ?_
   -- region 8
   refine tr_plain ?_
   refine r_move .none (.t m0) rfl rfl ?_
   refine r_store [_] ty3 .none (.t m3) (.t m0) (Take.perm (by repeat (first | exact .hd | apply Take.tl))) rfl rfl rfl rfl (fun _ _ => trivial) ?_
   refine r_store [_] ty4 .none (.t m2) (.c _ _) (Take.perm (by repeat (first | exact .hd | apply Take.tl))) rfl rfl rfl rfl (fun _ _ => trivial) ?_
   refine tl_nil ?_
   refine qt_kp (.d (.d (.d (.d .all)))) ?_
   refine qt_then ?_
   refine tr_ret ?_
   refine qt_block_ret ?_
   exact qt_leaves (pre.length + 1, x.2, true, fromA _ _ (pre.length + 1) 2, _, _) ⟨rfl, (pre.length, x.2), pickA_at hc0 hne hpre, rfl, rfl, rfl, rfl, rfl⟩ (Pm.perm (by repeat (first | exact .nil | refine .cons (by repeat (first | exact .hd | apply Take.tl)) ?_)))
  ·
   try simp only [Bool.and_eq_true, Bool.or_eq_true, Bool.not_eq_true', Bool.not_eq_false', Bool.and_eq_false_iff, Bool.or_eq_false_iff, decide_eq_true_eq, decide_eq_false_iff_not, beq_iff_eq, Bool.not_eq_true, Bool.not_eq_false] at hc0
   refine tr_skip ?_
   refine qt_block ?_
   exact qt_goes (pre.length + 1, 0, false, _, _, _) ⟨by simp, rfl, rfl, rfl, rfl, rfl, fun q hq => by rcases List.mem_append.1 hq with hq | hq; exact hne q hq; (obtain rfl : q = x := by simpa using hq); exact hc0⟩ (Pm.perm (by repeat (first | exact .nil | refine .cons (by repeat (first | exact .hd | apply Take.tl)) ?_)))
 ·
  intro D1 xs ps hall hR
  obtain ⟨cnt, val, okk, A1, n1, c1⟩ := ps
  dsimp only at hR ⊢
  obtain ⟨rfl, rfl, rfl, rfl, rfl, rfl, hne⟩ := hR
  obtain rfl : xs = ak := hall
  have hp := pickA_none hne
  refine qt_block ?_
  refine qt_then ?_
  refine tr_seq ?_
  -- region 9
  refine tr_plain ?_
  refine r_load [_] ty3 .none (.t m3) (by first | (refine sees_l ?_; (repeat (first | exact hd | apply tl)); done) | (apply sees_own; apply sees_l; (repeat (first | exact hd | apply tl)); done) | exact sees_r (by assumption)) rfl rfl (.one _) rfl rfl ?_
  refine r_store [_] ty3 .none (.t m4) (.t m0) (Take.perm (by repeat (first | exact .hd | apply Take.tl))) rfl rfl rfl rfl (fun _ _ => trivial) ?_
  refine r_store [_] ty4 .none (.t m3) (.c _ _) (Take.perm (by repeat (first | exact .hd | apply Take.tl))) rfl rfl rfl rfl (fun _ _ => trivial) ?_
  refine tl_nil ?_
  refine qt_kp (.d (.d (.d (.k (.k (.d (.d .all))))))) ?_
  refine qt_then ?_
  refine tr_ret ?_
  refine qt_kl (.cons (.tl (.tl .hd)) (.cons .hd (.cons .hd (.cons .hd (.cons .hd (.cons .hd (.cons .hd (.cons .hd .nil)))))))) ?_
  refine qt_finM1_ret rfl Try.results27 (.c [_] ty3 m1 (by repeat (first | exact hd | apply tl)) rfl rfl (.one _) (.c [_] ty4 m0 (by repeat (first | exact hd | apply tl)) rfl rfl (.one _) .nil)) (fun w hw => ?_)
  exact ⟨(), trivial, by rw [hp]; rfl, by rw [hp]; exact hw.kl (.cons (by repeat (first | exact .hd | apply Take.tl)) .nil)⟩
 ·
  intro D1 cx pre ps hRx
  obtain ⟨cnt, val, okk, A1, n1, c1⟩ := ps
  dsimp only at hRx ⊢
  obtain ⟨rfl, q, hp, rfl, rfl, rfl, rfl, rfl⟩ := hRx
  refine tr_ret ?_
  refine qt_block_ret ?_
  refine qt_then_ret ?_
  refine qt_finM1_ret rfl Try.results27 (.c [_] ty3 m3 (by repeat (first | exact hd | apply tl)) rfl rfl (.one _) (.c [_] ty4 m2 (by repeat (first | exact hd | apply tl)) rfl rfl (.one _) .nil)) (fun w hw => ?_)
  exact ⟨(), trivial, by rw [hp]; rfl, by rw [hp]; exact hw.kl (.cons (by repeat (first | exact .hd | apply Take.tl)) .nil)⟩
end Go.Proofs.Ytpmnbenmjkeacaa
