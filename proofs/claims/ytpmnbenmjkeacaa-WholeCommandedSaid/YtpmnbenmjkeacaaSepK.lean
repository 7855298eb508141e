/- Rules: equality of structs; what lies beside a resource, to be read. No program is named here. -/
import Derived.Test.YtpmnbenmjkeacaaSepJ
import Derived.Laws.StructEq
set_option linter.unusedVariables false
set_option linter.unusedSectionVars false
namespace Go.Sep
open Go Go.RowKit
section
variable {X : Cx} {ops : Array Oper} {S : World → Prop} {Q : Exit → Act → World → Prop} {rest : List (Oper × Bool)} {F : Frm} {L : List Ent}
variable {e : Bool} {d : Nat} {g : Bool} {ty : TypeId} {pos : String} {af : Array Edge} {gd : Option (Nat × Bool)}
theorem r_eqlG {x y : Operand} {t u : TypeId} {xs ys : Array Value} {b : Bool} (hm : X.P.eqGuardType X.P.depth t = false) (hg : Gd ops F gd g) (hx : Ev F x g (.agg xs)) (hy : Ev F y g (.agg ys)) (hq : ∀ w, (Op.equalIn 10000 t (.agg xs) (.agg ys)).run X.P w = .ok b w)
    (hn : Nat.blt d X.n = true) (hk : noKey d F = true) : 
    TL X ops S Q rest ((d, g, .bool b) :: F) L → TL X ops S Q ((⟨some d, .binOp .eql t x y u, ty, pos, af, gd⟩, e) :: rest) F L :=
  tl_pure rfl hg (fun a ha hgt w => by
    simp only [execOp, hx.eval ha hgt, hy.eval ha hgt]
    simp [run_eqGuard_agg w .eql t x y xs ys hm, run_eql_struct, hq, Result.andThen]) hn hk
theorem r_neqG {x y : Operand} {t u : TypeId} {xs ys : Array Value} {b : Bool} (hm : X.P.eqGuardType X.P.depth t = false) (hg : Gd ops F gd g) (hx : Ev F x g (.agg xs)) (hy : Ev F y g (.agg ys)) (hq : ∀ w, (Op.equalIn 10000 t (.agg xs) (.agg ys)).run X.P w = .ok b w)
    (hn : Nat.blt d X.n = true) (hk : noKey d F = true) : 
    TL X ops S Q rest ((d, g, .bool (!b)) :: F) L → TL X ops S Q ((⟨some d, .binOp .neq t x y u, ty, pos, af, gd⟩, e) :: rest) F L :=
  tl_pure rfl hg (fun a ha hgt w => by
    simp only [execOp, hx.eval ha hgt, hy.eval ha hgt]
    simp [run_eqGuard_agg w .neq t x y xs ys hm, run_neq_struct, hq, Result.andThen]) hn hk
end
/-- what lies beside x may be read while x is turned -/
theorem St.beside {w0 w : World} {M : Nat → Prop} {L L0 : List Ent} {x e : Ent} (h : St w0 M L w) (hp : Take L x L0) (he : e ∈ L0) : Ro w (· ∈ x.foot) e := by
  have h1 := h.perm hp.perm
  have hnd := h1.nd
  simp only [List.flatMap_cons] at hnd
  exact ⟨h1.ok _ (List.mem_cons_of_mem _ he), h1.lt _ (List.mem_cons_of_mem _ he), fun b hb hm => (List.nodup_append.1 hnd).2.2 b hm b (List.mem_flatMap.2 ⟨e, he, hb⟩) rfl⟩
theorem Ro.imp {w0 : World} {M : Nat → Prop} {e f : Ent} (h : Ro w0 M e) (hf : ∀ b ∈ f.foot, b ∈ e.foot) (hok : e.ok w0 → f.ok w0) : Ro w0 M f := ⟨hok h.ok, fun b hb => h.lt b (hf b hb), fun b hb => h.out b (hf b hb)⟩
/-! ### Several resources handed to a callee -/
inductive Tk : List Ent → List Ent → List Ent → Prop
  | nil {L : List Ent} : Tk L [] L
  | cons {L L1 N L0 : List Ent} {x : Ent} (h : Take L x L1) (k : Tk L1 N L0) : Tk L (x :: N) L0
theorem Tk.perm {L N L0 : List Ent} (h : Tk L N L0) : L.Perm (N ++ L0) := by
  induction h with
  | nil => exact List.Perm.refl _
  | cons h _ ih => exact h.perm.trans (ih.cons _)
theorem St.handed {w0 w : World} {M : Nat → Prop} {L N L0 : List Ent} (h : St w0 M L w) (hp : Tk L N L0) : St w (· ∈ (Sep.allE N).foot) N w :=
  ((h.perm hp.perm).sub (List.sublist_append_left _ _)).own
theorem St.besideL {w0 w : World} {M : Nat → Prop} {L N L0 : List Ent} {e : Ent} (h : St w0 M L w) (hp : Tk L N L0) (he : e ∈ L0) : Ro w (· ∈ (Sep.allE N).foot) e :=
  ((h.perm hp.perm).allE).beside .hd he
theorem St.roL {w0 w : World} {M : Nat → Prop} {L N L0 : List Ent} {e : Ent} (h : St w0 M L w) (hp : Tk L N L0) (he : Ro w0 M e) : Ro w (· ∈ (Sep.allE N).foot) e :=
  he.later ((h.perm hp.perm).sub (List.sublist_append_left _ _))
theorem callL {P : Program} {f : Nat} {args : Array Value} {w w0 : World} {M : Nat → Prop} {L N0 L0 : List Ent} {ι : Type} {v : ι → Value} {R : ι → Prop} {N : ι → List Ent} (hp : Tk L N0 L0) (hw : St w0 M L w)
    (h : St w (· ∈ (allE N0).foot) N0 w → Calls P f args w (Gives w (· ∈ (allE N0).foot) v R N)) : Calls P f args w (fun e w' => ∃ i, R i ∧ e = .returned (v i) ∧ St w0 M (N i ++ L0) w') :=
  (h (hw.handed hp)).mono fun e w' ⟨i, hi, he, hs⟩ => ⟨i, hi, he, ((hw.perm hp.perm).allE).turn hs⟩
/-- an own slice from its element l on -/
theorem own_ok_in {w : World} {A : Option Addr} {n c : Nat} {t : TypeId} {sz : Nat} {cs : List (List Value)} (h : (ownE A n c t sz cs).ok w) : In w (ownE A n c t sz cs) := by
  refine ⟨h, fun b hb => ?_⟩
  obtain ⟨_, _, _, _, ⟨hA, _⟩ | ⟨g, o, cur, hA, hh, _⟩⟩ := h
  · subst hA; cases hb
  · subst hA
    have : b = g := by simpa [ownE, blk] using hb
    rw [this]; exact (Array.getElem?_eq_some_iff.1 hh).1
def fromA (A : Option Addr) (c l sz : Nat) : Option Addr := if c - l = 0 then A else A.map (·.add (l * sz))
theorem own_from' (A : Option Addr) (n c : Nat) (t : TypeId) (sz : Nat) (cs : List (List Value)) (l : Nat) (hl : l ≤ n) :
    (ownE (fromA A c l sz) (n - l) (c - l) t sz (cs.drop l)).foot = (ownE A n c t sz cs).foot ∧ ∀ w, (ownE A n c t sz cs).ok w → (ownE (fromA A c l sz) (n - l) (c - l) t sz (cs.drop l)).ok w := by
  refine ⟨?_, fun w h => (own_from (own_ok_in h) l hl).1.ok⟩
  simp only [ownE, fromA]
  split
  · rfl
  · cases A with
    | none => rfl
    | some a => simp only [blk, Option.map_some, Addr.add]; split <;> rfl
theorem sees_of {X : Cx} {S : World → Prop} {L : List Ent} {x y : Ent} (hx : x ∈ L) (h : ∀ w, In w x → In w y) : Sees X true S L y := fun w hw => h w (by simp only [if_true] at hw; exact hw.in_ hx)
theorem qt_kl {X : Cx} {Q : Exit → Act → World → Prop} {F : Frm} {L L' : List Ent} {e : Exit} (h : Kl L L') (k : QT X Q e F L') : QT X Q e F L := fun a w ha hw => k a w ha (hw.kl h)
theorem tl_kl {X : Cx} {ops : Array Oper} {S : World → Prop} {Q : Exit → Act → World → Prop} {rest : List (Oper × Bool)} {F : Frm} {L L' : List Ent} (h : Kl L L') (k : TL X ops S Q rest F L') : TL X ops S Q rest F L := fun a w ha hw hS => k a w ha (hw.kl h) hS
theorem St.one {w0 w : World} {M : Nat → Prop} {L : List Ent} (h : St w0 M L w) : St w (· ∈ (Sep.allE L).foot) [Sep.allE L] w := by
  have : St w (· ∈ (Sep.allE L).foot) (L ++ []) w := by simpa using h.own
  exact this.allE
theorem In.of_all {w : World} {L : List Ent} {e : Ent} (h : In w (allE L)) (he : e ∈ L) : In w e := ⟨h.ok e he, fun b hb => h.lt b (List.mem_flatMap.2 ⟨e, he, hb⟩)⟩
theorem qt_finM0 {X : Cx} {F : Frm} {L' : List Ent} {fn : Func} {R : Post} {rs : List ResultVar} {vs : List Value} (hd : X.ds = []) (hr : fn.results = rs.toArray) (hv : Rw X.P F L' rs vs) (k : ∀ w, St X.w0 X.M L' w → R (.returned (one vs)) w) :
    QT X (bodyPostM (Fr none) 0 X.P fn R) .normal F (L') := qt_finM (Ds := []) hd (List.Perm.refl _) hr hv k
theorem qt_finM0_ret {X : Cx} {F : Frm} {L' : List Ent} {fn : Func} {R : Post} {rs : List ResultVar} {vs : List Value} (hd : X.ds = []) (hr : fn.results = rs.toArray) (hv : Rw X.P F L' rs vs) (k : ∀ w, St X.w0 X.M L' w → R (.returned (one vs)) w) :
    QT X (bodyPostM (Fr none) 0 X.P fn R) .ret F (L') := qt_finM_ret (Ds := []) hd (List.Perm.refl _) hr hv k
theorem qt_finM1 {X : Cx} {F : Frm} {L' : List Ent} {fn : Func} {R : Post} {rs : List ResultVar} {vs : List Value} {D0 : Nat} (hd : X.ds = [mark D0]) (hr : fn.results = rs.toArray) (hv : Rw X.P F L' rs vs) (k : ∀ w, St X.w0 X.M L' w → R (.returned (one vs)) w) :
    QT X (bodyPostM (Fr none) 0 X.P fn R) .normal F (dfE D0 :: L') := qt_finM (Ds := [D0]) hd (List.Perm.refl _) hr hv k
theorem qt_finM1_ret {X : Cx} {F : Frm} {L' : List Ent} {fn : Func} {R : Post} {rs : List ResultVar} {vs : List Value} {D0 : Nat} (hd : X.ds = [mark D0]) (hr : fn.results = rs.toArray) (hv : Rw X.P F L' rs vs) (k : ∀ w, St X.w0 X.M L' w → R (.returned (one vs)) w) :
    QT X (bodyPostM (Fr none) 0 X.P fn R) .ret F (dfE D0 :: L') := qt_finM_ret (Ds := [D0]) hd (List.Perm.refl _) hr hv k
theorem qt_finM2 {X : Cx} {F : Frm} {L' : List Ent} {fn : Func} {R : Post} {rs : List ResultVar} {vs : List Value} {D0 D1 : Nat} (hd : X.ds = [mark D0, mark D1]) (hr : fn.results = rs.toArray) (hv : Rw X.P F L' rs vs) (k : ∀ w, St X.w0 X.M L' w → R (.returned (one vs)) w) :
    QT X (bodyPostM (Fr none) 0 X.P fn R) .normal F (dfE D0 :: dfE D1 :: L') := qt_finM (Ds := [D0, D1]) hd (List.Perm.refl _) hr hv k
theorem qt_finM2_ret {X : Cx} {F : Frm} {L' : List Ent} {fn : Func} {R : Post} {rs : List ResultVar} {vs : List Value} {D0 D1 : Nat} (hd : X.ds = [mark D0, mark D1]) (hr : fn.results = rs.toArray) (hv : Rw X.P F L' rs vs) (k : ∀ w, St X.w0 X.M L' w → R (.returned (one vs)) w) :
    QT X (bodyPostM (Fr none) 0 X.P fn R) .ret F (dfE D0 :: dfE D1 :: L') := qt_finM_ret (Ds := [D0, D1]) hd (List.Perm.refl _) hr hv k
theorem qt_finM3 {X : Cx} {F : Frm} {L' : List Ent} {fn : Func} {R : Post} {rs : List ResultVar} {vs : List Value} {D0 D1 D2 : Nat} (hd : X.ds = [mark D0, mark D1, mark D2]) (hr : fn.results = rs.toArray) (hv : Rw X.P F L' rs vs) (k : ∀ w, St X.w0 X.M L' w → R (.returned (one vs)) w) :
    QT X (bodyPostM (Fr none) 0 X.P fn R) .normal F (dfE D0 :: dfE D1 :: dfE D2 :: L') := qt_finM (Ds := [D0, D1, D2]) hd (List.Perm.refl _) hr hv k
theorem qt_finM3_ret {X : Cx} {F : Frm} {L' : List Ent} {fn : Func} {R : Post} {rs : List ResultVar} {vs : List Value} {D0 D1 D2 : Nat} (hd : X.ds = [mark D0, mark D1, mark D2]) (hr : fn.results = rs.toArray) (hv : Rw X.P F L' rs vs) (k : ∀ w, St X.w0 X.M L' w → R (.returned (one vs)) w) :
    QT X (bodyPostM (Fr none) 0 X.P fn R) .ret F (dfE D0 :: dfE D1 :: dfE D2 :: L') := qt_finM_ret (Ds := [D0, D1, D2]) hd (List.Perm.refl _) hr hv k
theorem Ro.own_sl {w : World} {M : Nat → Prop} {A : Option Addr} {n c : Nat} {t : TypeId} {sz : Nat} {cs : List (List Value)} (h : Ro w M (ownE A n c t sz cs)) : Ro w M (slE A n c sz cs) := h.imp (fun b hb => hb) fun hk => (ownE_sl (own_ok_in hk)).ok
/-- the value of the temporary at hand, said otherwise -/
theorem tl_valh {X : Cx} {ops : Array Oper} {S : World → Prop} {Q : Exit → Act → World → Prop} {rest : List (Oper × Bool)} {F : Frm} {L : List Ent} {t : Nat} {g : Bool} {v v' : Value} (he : v = v') (k : TL X ops S Q rest ((t, g, v') :: F) L) : TL X ops S Q rest ((t, g, v) :: F) L := he ▸ k
/-! ### Four resources in one, many times -/
section
variable {X : Cx} {ops : Array Oper} {S : World → Prop} {Q : Exit → Act → World → Prop} {rest : List (Oper × Bool)} {F : Frm} {L : List Ent}
theorem St.open4 {w0 w : World} {M : Nat → Prop} {Es L0 : List Ent} {i : Nat} {p q r s : Ent} (h : Take L (Sep.allE Es) L0) (hi : Es[i]? = some (Sep.allE [p, q, r, s])) (hw : St w0 M L w) : St w0 M (p :: q :: r :: s :: Sep.allE (Es.eraseIdx i) :: L0) w := by
  have h1 := (hw.perm h.perm).takeAt hi
  have := h1.ofAll
  simpa using this
theorem St.shut4 {w0 w : World} {M : Nat → Prop} {Es Es' L0 : List Ent} {i : Nat} {p q r s : Ent} (hp : Tk L [p, q, r, s, Sep.allE (Es.eraseIdx i)] L0) (hi : i < Es.length) (he : Es.set i (Sep.allE [p, q, r, s]) = Es') (hw : St w0 M L w) : St w0 M (Sep.allE Es' :: L0) w := by
  have h1 : St w0 M ([p, q, r, s] ++ (Sep.allE (Es.eraseIdx i) :: L0)) w := by simpa using hw.perm hp.perm
  have h2 := h1.allE.putAt hi
  rw [he] at h2
  exact h2
theorem tr_open4 {c : Code} {Es L0 : List Ent} {i : Nat} {p q r s : Ent} (h : Take L (allE Es) L0) (hi : Es[i]? = some (allE [p, q, r, s])) (k : Tr X Q c F (p :: q :: r :: s :: allE (Es.eraseIdx i) :: L0)) : Tr X Q c F L := fun a w ha hw => k a w ha (St.open4 h hi hw)
theorem qt_open4 {e : Exit} {Es L0 : List Ent} {i : Nat} {p q r s : Ent} (h : Take L (allE Es) L0) (hi : Es[i]? = some (allE [p, q, r, s])) (k : QT X Q e F (p :: q :: r :: s :: allE (Es.eraseIdx i) :: L0)) : QT X Q e F L := fun a w ha hw => k a w ha (St.open4 h hi hw)
theorem tr_shut4 {c : Code} {Es Es' L0 : List Ent} {i : Nat} {p q r s : Ent} (hp : Tk L [p, q, r, s, allE (Es.eraseIdx i)] L0) (hi : i < Es.length) (he : Es.set i (allE [p, q, r, s]) = Es') (k : Tr X Q c F (allE Es' :: L0)) : Tr X Q c F L := fun a w ha hw => k a w ha (St.shut4 hp hi he hw)
theorem qt_shut4 {e : Exit} {Es Es' L0 : List Ent} {i : Nat} {p q r s : Ent} (hp : Tk L [p, q, r, s, allE (Es.eraseIdx i)] L0) (hi : i < Es.length) (he : Es.set i (allE [p, q, r, s]) = Es') (k : QT X Q e F (allE Es' :: L0)) : QT X Q e F L := fun a w ha hw => k a w ha (St.shut4 hp hi he hw)
/-- one more at the end -/
theorem St.push4 {w0 w : World} {M : Nat → Prop} {Es Es' L0 : List Ent} {p q r s : Ent} (hp : Tk L [p, q, r, s, Sep.allE Es] L0) (he : Es ++ [Sep.allE [p, q, r, s]] = Es') (hw : St w0 M L w) : St w0 M (Sep.allE Es' :: L0) w := by
  have h1 : St w0 M ([p, q, r, s] ++ (Sep.allE Es :: L0)) w := by simpa using hw.perm hp.perm
  have h2 := (h1.allE.perm (List.Perm.swap _ _ _)).ofAll
  have h3 : St w0 M ((Es ++ [Sep.allE [p, q, r, s]]) ++ L0) w := by simpa using h2
  rw [← he]
  exact h3.allE
theorem qt_push4 {e : Exit} {Es Es' L0 : List Ent} {p q r s : Ent} (hp : Tk L [p, q, r, s, allE Es] L0) (he : Es ++ [allE [p, q, r, s]] = Es') (k : QT X Q e F (allE Es' :: L0)) : QT X Q e F L := fun a w ha hw => k a w ha (St.push4 hp he hw)
theorem qt_ownnil {e : Exit} (t : TypeId) (sz : Nat) (k : QT X Q e F (ownE none 0 0 t sz [] :: L)) : QT X Q e F L := fun a w ha hw => k a w ha (st_own_nil hw t sz)
theorem tr_ownnil {c : Code} (t : TypeId) (sz : Nat) (k : Tr X Q c F (ownE none 0 0 t sz [] :: L)) : Tr X Q c F L := fun a w ha hw => k a w ha (st_own_nil hw t sz)
theorem tr_allnil {c : Code} (k : Tr X Q c F (allE [] :: L)) : Tr X Q c F L := fun a w ha hw => k a w ha (St.allE (L := []) hw)
/-- seen within the many -/
theorem In.big {w : World} {Es N : List Ent} {i : Nat} {e : Ent} (h : In w (allE Es)) (hi : Es[i]? = some (allE N)) (he : e ∈ N) : In w e := (h.of_all (List.mem_of_getElem? hi)).of_all he
theorem sees_big {e : Bool} {Es N : List Ent} {i : Nat} {x : Ent} (h : Sees X e S L (allE Es)) (hi : Es[i]? = some (allE N)) (he : x ∈ N) : Sees X e S L x := fun w hw => (h w hw).big hi he
end
/-! ### Equality of structs whose fields are plain -/
def fieldsT (P : Program) (t : TypeId) : List (Bool × Nat × Option TypeDesc) := (P.fieldsOf t).toList.map fun f => (f.name == "_", f.offset, P.underlying f.type)
inductive LeafV : TypeDesc → Value → Value → Bool → Prop
  | int {k : IntKind} {a b : Int} : LeafV (.int k) (.int k a) (.int k b) (a == b)
  | bool {a b : Bool} : LeafV .bool (.bool a) (.bool b) (a == b)
  | string {a b : ByteArray} : LeafV .string (.string a) (.string b) (a.toList == b.toList)
inductive EqV : Nat → List (Bool × Nat × Option TypeDesc) → List Value → List Value → Bool → Prop
  | nil {k : Nat} : EqV k [] [] [] true
  | cons {k : Nat} {d : TypeDesc} {L : List (Bool × Nat × Option TypeDesc)} {x y : Value} {xs ys : List Value} {b c : Bool} (h : LeafV d x y b) (t : EqV (k + 1) L xs ys c) : EqV k ((false, k, some d) :: L) (x :: xs) (y :: ys) (b && c)
theorem run_leafEq {P : Program} {w : World} {t : TypeId} {d : TypeDesc} {x y : Value} {b : Bool} (n : Nat) (ht : P.underlying t = some d) (h : LeafV d x y b) : (Op.equalIn (n + 1) t x y).run P w = .ok b w := by
  cases h with
  | int => exact run_equalIn_int w n t _ _ _ _ ht
  | bool => exact run_equalIn_bool' w n t _ _ ht
  | string => exact run_equalIn_string w n t _ _ ht
theorem leaf_agg {P : Program} {w : World} {t : TypeId} {d : TypeDesc} {x y : Value} {b : Bool} (ht : P.underlying t = some d) (h : LeafV d x y b) : (isAgg t).run P w = .ok false w := by
  cases h <;> simp [isAgg, run_underlying ht]
theorem run_eqV {P : Program} {w : World} (n : Nat) : ∀ (fs : List Field) (pre pre' xs ys : List Value) (b : Bool), pre.length = pre'.length → EqV pre.length (fs.map fun f => (f.name == "_", f.offset, P.underlying f.type)) xs ys b →
    (Op.eqFields (n + 1) (pre ++ xs).toArray (pre' ++ ys).toArray fs).run P w = .ok b w
  | [], _, _, _, _, _, _, h => by cases h; rfl
  | f :: fs, pre, pre', xs, ys, b, hl, h => by
    simp only [List.map_cons] at h
    generalize hq : (f.name == "_", f.offset, P.underlying f.type) = q at h
    cases h with
    | cons h1 t =>
      rename_i d x y xs ys b c
      simp only [Prod.mk.injEq, beq_eq_false_iff_ne] at hq
      obtain ⟨q1, q2, q3⟩ := hq
      have ih := run_eqV (w := w) n fs (pre ++ [x]) (pre' ++ [y]) xs ys c (by simp [hl]) (by simpa using t)
      simp only [List.append_assoc, List.singleton_append] at ih
      have p1 : (part f.type (pre ++ x :: xs).toArray f.offset).run P w = .ok x w := by
        simp [part, leaf_agg q3 h1, q2]
      have p2 : (part f.type (pre' ++ y :: ys).toArray f.offset).run P w = .ok y w := by
        simp [part, leaf_agg q3 h1, q2, hl]
      unfold Op.eqFields
      rw [if_pos q1]
      simp only [Sem.run_bind, p1, p2, run_leafEq n q3 h1, Result.andThen_ok]
      cases b with
      | false => simp
      | true => simpa using ih
theorem run_eqStruct {P : Program} {t : TypeId} {L : List (Bool × Nat × Option TypeDesc)} {xs ys : List Value} {b : Bool} (ht : P.underlying t = some (.struct (P.fieldsOf t))) (hp : P.stoodInHeld t = false) (hL : fieldsT P t = L) (h : EqV 0 L xs ys b) (w : World) :
    (Op.equalIn 10000 t (.agg xs.toArray) (.agg ys.toArray)).run P w = .ok b w := by
  subst hL
  exact (run_equalIn_struct w 9999 t _ _ ht hp).trans (run_eqV 9998 _ [] [] xs ys b rfl h)
/-- a temporary's value, said otherwise -/
theorem mca {F : Frm} {t : Nat} {v v' : Value} (h : (t, true, v) ∈ F) (e : v = v' := by first | rfl | (congr 1; omega) | (congr 2; omega) | (simp; done) | (simp; omega)) : (t, true, v') ∈ F := e ▸ h
end Go.Sep
