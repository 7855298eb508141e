/- Rules for memory: boxes, fields, slices, calls. No program is named here. -/
import Derived.Test.YtpmnbenmjkeacaaSepC
import Derived.Laws.Cells
import Derived.Laws.CopyRow
import Derived.Laws.Tables
import Derived.Laws.AppendOwn
import Derived.Laws.MakeOwn
import Derived.Maps.AppendAt
import Derived.Shelf.Abstract
set_option linter.unusedVariables false
set_option linter.unusedSectionVars false
namespace Go.Sep
open Go Go.RowKit

/-! ### 1. Facts on types, closed -/
def aggD : TypeDesc → Bool
  | .struct _ | .array _ _ => true
  | _ => false
def tyOK (P : Program) (t : TypeId) (agg : Bool) (sz : Nat) : Bool :=
  match P.underlying t with
  | some d => (aggD d == agg) && ((P.info? t).map (·.size) == some sz) && (agg || sz == 1)
  | none => false
structure TyS (P : Program) (t : TypeId) (agg : Bool) (sz : Nat) : Prop where
  aggR : ∀ w, (isAgg t).run P w = .ok agg w
  sizeR : ∀ w, (sizeOf t).run P w = .ok sz w
  info : (P.info? t).map (·.size) = some sz
  one : agg = false → sz = 1
theorem TyS.of {P : Program} {t : TypeId} {agg : Bool} {sz : Nat} (h : tyOK P t agg sz = true) : TyS P t agg sz := by
  unfold tyOK at h
  cases hd : P.underlying t with
  | none => rw [hd] at h; cases h
  | some d =>
    rw [hd] at h
    simp only [Bool.and_eq_true, beq_iff_eq, Bool.or_eq_true] at h
    obtain ⟨⟨h1, h2⟩, h3⟩ := h
    refine ⟨fun w => ?_, fun w => ?_, h2, fun e => by subst e; simpa using h3⟩
    · rw [← h1]
      cases d <;> simp [isAgg, run_underlying hd, aggD]
    · obtain ⟨i, hi, h4⟩ := Option.map_eq_some_iff.1 h2
      simp [sizeOf, typeInfo, hi, h4]
/-- field number i of the struct t: an aggregate?, where, how many cells -/
def fdOK (P : Program) (t : TypeId) (i : Nat) (agg : Bool) (off sz : Nat) : Bool :=
  match P.underlying t with
  | some (.struct fs) => match fs[i]? with
    | some f => (f.offset == off) && tyOK P f.type agg sz && !(sz == 0)
    | none => false
  | _ => false
structure FdS (P : Program) (t : TypeId) (i : Nat) (agg : Bool) (off sz : Nat) : Prop where
  field : ∃ fs f, P.underlying t = some (.struct fs) ∧ fs[i]? = some f ∧ f.offset = off ∧ TyS P f.type agg sz
  pos : sz ≠ 0
theorem FdS.of {P : Program} {t : TypeId} {i : Nat} {agg : Bool} {off sz : Nat} (h : fdOK P t i agg off sz = true) : FdS P t i agg off sz := by
  unfold fdOK at h
  cases hd : P.underlying t with
  | none => rw [hd] at h; cases h
  | some d =>
    rw [hd] at h
    cases d with
    | struct fs =>
      simp only at h
      cases hf : fs[i]? with
      | none => rw [hf] at h; cases h
      | some f =>
        rw [hf] at h
        simp only [Bool.and_eq_true, beq_iff_eq, Bool.not_eq_true'] at h
        exact ⟨⟨fs, f, hd, hf, h.1.1, TyS.of h.1.2⟩, by have := h.2; simpa using this⟩
    | _ => cases h
/-- a slice type, its elements' type and size -/
def slOK (P : Program) (t e : TypeId) (sz : Nat) : Bool :=
  match P.underlying t with
  | some (.slice e') => (e' == e) && ((P.info? e).map (·.size) == some sz) && !(sz == 0)
  | _ => false
structure SlS (P : Program) (t e : TypeId) (sz : Nat) : Prop where
  und : P.underlying t = some (.slice e)
  size : ∀ w, (sizeOf e).run P w = .ok sz w
  info : (P.info? e).map (·.size) = some sz
  pos : 0 < sz
theorem SlS.of {P : Program} {t e : TypeId} {sz : Nat} (h : slOK P t e sz = true) : SlS P t e sz := by
  unfold slOK at h
  cases hd : P.underlying t with
  | none => rw [hd] at h; cases h
  | some d =>
    rw [hd] at h
    cases d with
    | slice e' =>
      simp only [Bool.and_eq_true, beq_iff_eq, Bool.not_eq_true'] at h
      obtain ⟨⟨rfl, h2⟩, h3⟩ := h
      refine ⟨hd, fun w => ?_, h2, by have := h3; simp at this; omega⟩
      obtain ⟨i, hi, h4⟩ := Option.map_eq_some_iff.1 h2
      simp [sizeOf, typeInfo, hi, h4]
    | _ => cases h
/-- an element's row of the table, whole: zero, cells, bytes -/
structure ElS (P : Program) (e : TypeId) (z : Value) (sz bytes : Nat) : Prop where
  info : (P.info? e).map (fun i => (i.zero, i.size, i.bytes)) = some (some z, sz, bytes)
  zs : z.cells.size = sz
theorem ElS.zero {P : Program} {e : TypeId} {z : Value} {sz bytes : Nat} (h : ElS P e z sz bytes) (w : World) : (zeroValue e).run P w = .ok z w := by
  obtain ⟨i, hi, hz, _, _⟩ := info_parts h.info
  simp [zeroValue, typeInfo, hi, hz]

/-! ### 2. Addresses, cells -/
theorem add_plain (b off k : Nat) : (⟨b, off, none⟩ : Addr).add k = ⟨b, off + k, none⟩ := by
  unfold Addr.add
  split
  · subst_vars; simp
  · rfl
/-- a value's cells, as a list -/
def cellsL : Value → List Value
  | .agg cs => cs.toList
  | v => [v]
theorem cellsL_eq (v : Value) : v.cells.toList = cellsL v := by cases v <;> rfl
theorem cells_eq (v : Value) : v.cells = (cellsL v).toArray := by rw [← cellsL_eq]
/-- all of one cell -/
def ones (l : List Value) : Bool := l.all (·.oneCell')
theorem ones_mem {l : List Value} (h : ones l = true) : ∀ v ∈ l, v.oneCell' = true := by simpa [ones] using h

/-- what is read from cells: of an aggregate the cells, else the one cell -/
inductive Part : Bool → List Value → Value → Prop
  | agg (l : List Value) : Part true l (.agg l.toArray)
  | one (v : Value) : Part false [v] v
theorem Part.run {P : Program} {w : World} {t : TypeId} {agg : Bool} {sz : Nat} {b off : Nat} {l : List Value} {v : Value} (ht : TyS P t agg sz) (hp : Part agg l v) (hl : l.length = sz)
    (hc : ∀ j u, l[j]? = some u → w.cell? ⟨b, off + j, none⟩ = some u) : (loadVar t ⟨b, off, none⟩).run P w = .ok v w := by
  cases hp with
  | agg =>
    have h1 := run_loadCells_list (P := P) w ⟨b, off, none⟩ l (fun j u hu => by rw [add_plain]; exact hc j u hu)
    rw [hl] at h1
    simp [loadVar, ht.aggR, ht.sizeR, h1]
  | one =>
    have h1 := hc 0 v rfl
    simp only [Nat.add_zero] at h1
    simp [loadVar, ht.aggR, run_load, h1]

/-! ### 3. Boxes: a block that is known whole -/
def boxE (b : Nat) (t : TypeId) (cs : List Value) : Ent :=
  ⟨[b], fun w => w.heap[b]? = some (.cells cs.toArray t (0, 0)), fun w w' h hk => (h b (by simp)).trans hk⟩
theorem boxE_cell {w : World} {b : Nat} {t : TypeId} {cs : List Value} (h : (boxE b t cs).ok w) (j : Nat) : w.cell? ⟨b, j, none⟩ = cs[j]? := by
  have h1 : w.heap[b]? = some (.cells cs.toArray t (0, 0)) := h
  rw [cell_of_row w b j _ t (0, 0) h1]
  simp

/-- what the walk sees at a reading: the world at hand (e), or whatever world keeps what the region leaves alone -/
def Sees (X : Cx) (e : Bool) (S : World → Prop) (L : List Ent) (x : Ent) : Prop := ∀ w, (if e then St X.w0 X.M L w else S w) → In w x
section
variable {X : Cx} {S : World → Prop} {L C : List Ent} {x : Ent}
theorem sees_l (h : x ∈ L) : Sees X true S L x := fun w hw => by simp only [if_true] at hw; exact hw.in_ h
theorem sees_c (h : x ∈ C) : Sees X false (St X.w0 X.M C) L x := fun w hw => by simp only [Bool.false_eq_true, if_false] at hw; exact hw.in_ h
theorem sees_r (h : Ro X.w0 X.M x) : Sees X true S L x := fun w hw => by simp only [if_true] at hw; exact hw.ro h
theorem sees_rc (h : Ro X.w0 X.M x) : Sees X false (St X.w0 X.M C) L x := fun w hw => by simp only [Bool.false_eq_true, if_false] at hw; exact hw.ro h
end

section
variable {X : Cx} {ops : Array Oper} {S : World → Prop} {Q : Exit → Act → World → Prop} {rest : List (Oper × Bool)} {F : Frm} {L : List Ent}
variable {e : Bool} {d : Nat} {g : Bool} {ty : TypeId} {pos : String} {af : Array Edge} {gd : Option (Nat × Bool)}

/-! loads and fields -/
theorem r_load {x : Operand} {t : TypeId} {agg : Bool} {sz b bt off : Nat} {cs : List Value} (l : List Value) {v : Value} (ht : TyS X.P t agg sz) (hg : Gd ops F gd g) (hx : Ev F x g (.pointer (some ⟨b, off, none⟩)))
    (hs : Sees X e S L (boxE b bt cs)) (hl : (cs.drop off).take sz = l) (hn' : l.length = sz) (hp : Part agg l v) (hn : Nat.blt d X.n = true) (hk : noKey d F = true) : 
    TL X ops S Q rest ((d, g, v) :: F) L → TL X ops S Q ((⟨some d, .load t x, ty, pos, af, gd⟩, e) :: rest) F L :=
  tl_read rfl hg (fun a ha hgt w hw => by
    have h1 := (hs w hw).ok
    have h2 : (loadVar t ⟨b, off, none⟩).run X.P w = .ok v w := hp.run ht hn' fun j u hu => by
      rw [boxE_cell h1]
      rw [← hl, List.getElem?_take] at hu
      split at hu
      · rw [← hu, List.getElem?_drop]
      · cases hu
    simp [execOp, hx.eval ha hgt, Instr.loadAt, Instr.sureAddr, h2]) hn hk
theorem r_field {x : Operand} {t : TypeId} {i : Nat} {agg : Bool} {off sz : Nat} {cs : List Value} (l : List Value) {v : Value} (hf : FdS X.P t i agg off sz) (hg : Gd ops F gd g) (hx : Ev F x g (.agg cs.toArray))
    (hl : (cs.drop off).take sz = l) (hn' : l.length = sz) (hp : Part agg l v) (hn : Nat.blt d X.n = true) (hk : noKey d F = true) : 
    TL X ops S Q rest ((d, g, v) :: F) L → TL X ops S Q ((⟨some d, .field t x i, ty, pos, af, gd⟩, e) :: rest) F L :=
  tl_pure rfl hg (fun a ha hgt w => by
    obtain ⟨fs, f, h1, h2, h3, h4⟩ := hf.field
    subst h3
    have h5 : (part f.type cs.toArray f.offset).run X.P w = .ok v w := by
      cases hp with
      | agg =>
        simp [part, h4.aggR, h4.sizeR, hl]
      | one =>
        have h6 : cs[f.offset]? = some v := by
          have := congrArg (·[0]?) hl
          have h7 := h4.one rfl
          subst h7
          simpa [List.getElem?_take, List.getElem?_drop] using this
        simp [part, h4.aggR, h6]
    simp [execOp, hx.eval ha hgt, Instr.field, run_underlying h1, h2, asAgg, h5]) hn hk
theorem r_fieldAddr {x : Operand} {t : TypeId} {i : Nat} {agg : Bool} {off sz b o : Nat} (hf : FdS X.P t i agg off sz) (hg : Gd ops F gd g) (hx : Ev F x g (.pointer (some ⟨b, o, none⟩)))
    (hn : Nat.blt d X.n = true) (hk : noKey d F = true) : 
    TL X ops S Q rest ((d, g, .pointer (some ⟨b, o + off, none⟩)) :: F) L → TL X ops S Q ((⟨some d, .fieldAddr t x i, ty, pos, af, gd⟩, e) :: rest) F L :=
  tl_pure rfl hg (fun a ha hgt w => by
    obtain ⟨fs, f, h1, h2, h3, h4⟩ := hf.field
    subst h3
    have h5 := hf.pos
    simp [execOp, hx.eval ha hgt, Instr.fieldAt, run_underlying h1, h2, Instr.sureAddr, fieldPlace, h4.sizeR, h5, add_plain]) hn hk
end

/-! ### 4. Writing -/
theorem st_of_alloc (w : World) (b : Nat) (hb : b = w.heap.size) (t : TypeId) (cs : List Value) : St w no [boxE b t cs] (w.alloc (.cells cs.toArray t)) := by
  subst hb
  refine ⟨rfl, rfl, rfl, by simp, fun b hb _ => Below.heap_alloc w _ b hb, fun x hx => ?_, fun x hx b hb => ?_, by simp [boxE], fun x hx b hb => ?_⟩
  · obtain rfl : x = _ := by simpa using hx
    exact heap_alloc_new w _
  · obtain rfl : x = _ := by simpa using hx
    have : b = w.heap.size := by simpa [boxE] using hb
    simp [this]
  · obtain rfl : x = _ := by simpa using hx
    have : b = w.heap.size := by simpa [boxE] using hb
    exact .inr (by omega)
theorem st_of_setRow {w : World} {b : Nat} {t : TypeId} {cs : List Value} (h : w.heap[b]? = some (.cells cs.toArray t (0, 0))) (cs' : List Value) : St w (· ∈ [b]) [boxE b t cs'] (w.setRow b cs'.toArray) := by
  have hlt := (Array.getElem?_eq_some_iff.1 h).1
  refine ⟨rfl, rfl, rfl, by simp, fun k hk hm => setRow_other w b k _ (by simpa using hm), fun x hx => ?_, fun x hx k hk => ?_, by simp [boxE], fun x hx k hk => ?_⟩
  · obtain rfl : x = _ := by simpa using hx
    exact setRow_heap w b _ _ t (0, 0) h
  · obtain rfl : x = _ := by simpa using hx
    have : k = b := by simpa [boxE] using hk
    simp [this]; exact hlt
  · obtain rfl : x = _ := by simpa using hx
    have : k = b := by simpa [boxE] using hk
    exact .inl (by simp [this])
section
variable {X : Cx} {ops : Array Oper} {S : World → Prop} {Q : Exit → Act → World → Prop} {rest : List (Oper × Bool)} {F : Frm} {L : List Ent}
variable {d : Nat} {g : Bool} {ty : TypeId} {pos : String} {af : Array Edge} {gd : Option (Nat × Bool)}
/-- S is kept: where the region draws nothing -/
theorem keepT {L' : List Ent} : ∀ w, St X.w0 X.M L' w → (fun _ : World => True) w := fun _ _ => trivial
/-- S is kept: what the region leaves alone is still there -/
theorem keepC {C L' : List Ent} (h : C.Sublist L') : ∀ w, St X.w0 X.M L' w → St X.w0 X.M C w := fun _ hw => hw.sub h

theorem tl_new {o : Oper} (hd : o.dst = some d) (hg : Gd ops F o.guard true) (v : Nat → Value) (N : Nat → List Ent)
    (hv : ∀ a, Holds X.n X.ds a F → ∀ w, St X.w0 X.M L w → ∃ b w', (execOp a.eval o).run X.P w = .ok (.value (v b)) w' ∧ St w no (N b) w')
    (hS : ∀ b w, St X.w0 X.M (N b ++ L) w → S w) (hn : Nat.blt d X.n = true) (hk : noKey d F = true)
    (k : ∀ b, TL X ops S Q rest ((d, true, v b) :: F) (N b ++ L)) : TL X ops S Q ((o, true) :: rest) F L := by
  intro a w ha hw _
  obtain ⟨b, w', hr, hst⟩ := hv a ha w hw
  have hp := ha.put (g := true) (v := v b) hn hk
  simp only [wpLex]
  rw [if_pos (hg.wanted ha)]
  unfold exec
  rw [hr, hd]
  have hw' := hw.grow hst
  exact ⟨hS b _ hw', k b _ _ hp hw' (hS b _ hw')⟩
theorem r_alloc {t : TypeId} {z : Value} (zs : List Value) {sz bytes : Nat} (hz : ElS X.P t z sz bytes) (hzs : cellsL z = zs) (hg : Gd ops F gd true)
    (hS : ∀ b w, St X.w0 X.M (boxE b t zs :: L) w → S w) (hn : Nat.blt d X.n = true) (hk : noKey d F = true)
    (k : ∀ b, TL X ops S Q rest ((d, true, .pointer (some ⟨b, 0, none⟩)) :: F) (boxE b t zs :: L)) : TL X ops S Q ((⟨some d, .alloc t, ty, pos, af, gd⟩, true) :: rest) F L :=
  tl_new rfl hg (fun b => .pointer (some ⟨b, 0, none⟩)) (fun b => [boxE b t zs]) (fun a ha w hw => ⟨w.heap.size, _, by
    simp [execOp, Instr.alloc, hz.zero, newVar, newRow, newObj, Sem.run, cells_eq, hzs], st_of_alloc w _ rfl t zs⟩) hS hn hk k
theorem r_box {t : TypeId} {x : Operand} {v : Value} (vs : List Value) (hg : Gd ops F gd true) (hx : Ev F x true v) (hvs : cellsL v = vs)
    (hS : ∀ b w, St X.w0 X.M (boxE b t vs :: L) w → S w) (hn : Nat.blt d X.n = true) (hk : noKey d F = true)
    (k : ∀ b, TL X ops S Q rest ((d, true, .pointer (some ⟨b, 0, none⟩)) :: F) (boxE b t vs :: L)) : TL X ops S Q ((⟨some d, .box t x, ty, pos, af, gd⟩, true) :: rest) F L :=
  tl_new rfl hg (fun b => .pointer (some ⟨b, 0, none⟩)) (fun b => [boxE b t vs]) (fun a ha w hw => ⟨w.heap.size, _, by
    simp [execOp, Instr.box, hx.eval ha rfl, newVar, newRow, newObj, Sem.run, cells_eq, hvs], st_of_alloc w _ rfl t vs⟩) hS hn hk k
/-- cells written over others -/
def over : Nat → List Value → List Value → List Value
  | 0, n :: ns, _ :: cs => n :: over 0 ns cs
  | k + 1, ns, c :: cs => c :: over k ns cs
  | _, _, cs => cs
theorem over_eq : ∀ (k : Nat) (ns cs : List Value), k + ns.length ≤ cs.length → over k ns cs = cs.take k ++ ns ++ cs.drop (k + ns.length)
  | 0, [], cs, _ => by cases cs <;> simp [over]
  | 0, n :: ns, [], h => by simp at h
  | 0, n :: ns, c :: cs, h => by
    simp only [over, List.length_cons] at h ⊢
    rw [over_eq 0 ns cs (by omega)]
    simp
  | k + 1, ns, [], h => by simp at h
  | k + 1, ns, c :: cs, h => by
    simp only [over, List.length_cons] at h ⊢
    rw [over_eq k ns cs (by omega)]
    simp [Nat.add_right_comm]
theorem run_storeBox {P : Program} {w : World} {t : TypeId} {agg : Bool} {sz b bt off : Nat} {cs : List Value} {v : Value} (ht : TyS P t agg sz) (h : (boxE b bt cs).ok w) (hz : (cellsL v).length = sz) (ho : ones (cellsL v) = true)
    (hr : off + sz ≤ cs.length) : (Instr.storeAt t (.pointer (some ⟨b, off, none⟩)) v).run P w = .ok () (w.setRow b (over off (cellsL v) cs).toArray) := by
  have h1 := run_storeCells_at P b off bt (cellsL v) 0 cs.toArray w h (by simp; omega) (ones_mem ho)
  have h2 : v.cells.size = sz := by rw [cells_eq]; simpa using hz
  simp only [Nat.add_zero] at h1
  rw [over_eq off _ _ (by omega)]
  simp [Instr.storeAt, Instr.sureAddr, storeVar, ht.sizeR, h2, cellsL_eq, h1]
theorem r_store {x y : Operand} {t : TypeId} {agg : Bool} {sz b bt off : Nat} {cs : List Value} {v : Value} (cs' : List Value) {L0 : List Ent} (ht : TyS X.P t agg sz) (hg : Gd ops F gd true) (hx : Ev F x true (.pointer (some ⟨b, off, none⟩))) (hy : Ev F y true v)
    (hp : L.Perm (boxE b bt cs :: L0)) (hz : (cellsL v).length = sz) (ho : ones (cellsL v) = true) (hr : Nat.ble (off + sz) cs.length = true) (hc : over off (cellsL v) cs = cs')
    (hS : ∀ w, St X.w0 X.M (boxE b bt cs' :: L0) w → S w) (k : TL X ops S Q rest F (boxE b bt cs' :: L0)) : TL X ops S Q ((⟨none, .store t x y, ty, pos, af, gd⟩, true) :: rest) F L := by
  intro a w ha hw _
  have hw1 := hw.perm hp
  have h1 : (boxE b bt cs).ok w := hw1.ok _ List.mem_cons_self
  have hrun := run_storeBox (P := X.P) (v := v) ht h1 hz ho (by simpa using hr)
  simp only [wpLex]
  rw [if_pos (hg.wanted ha)]
  unfold exec
  have hex : (execOp a.eval ⟨none, .store t x y, ty, pos, af, gd⟩).run X.P w = .ok .skip (w.setRow b (over off (cellsL v) cs).toArray) := by
    simp [execOp, hx.eval ha rfl, hy.eval ha rfl, hrun]
  rw [hex, hc]
  have hw' : St X.w0 X.M ([boxE b bt cs'] ++ L0) _ := hw1.turn (st_of_setRow h1 cs')
  exact ⟨hS _ hw', k _ _ ha hw' (hS _ hw')⟩
end

/-! ### 5. Calls -/
/-- a contract's post: some i, with R i: the value v i; what was there and is not in M is as it was; N i is new, or turned -/
def Gives (w : World) (M : Nat → Prop) {ι : Type} (v : ι → Value) (R : ι → Prop) (N : ι → List Ent) : Ending → World → Prop := fun e w' => ∃ i, R i ∧ e = .returned (v i) ∧ St w M (N i) w'
/-- .. of a call that only answers -/
def Ans (w : World) (v : Value) : Ending → World → Prop := fun e w' => e = .returned v ∧ St w no [] w'
theorem Ans.of_eq {w w' : World} {v v' : Value} {e : Ending} (h : Ans w v e w') (hv : v = v') : Ans w v' e w' := hv ▸ h
abbrev EntersF (P : Program) (f : Nat) : Prop := ∀ (args : Array Value) (w : World), (callFunc f args).run P w = .ok (.enter f args) w
section
variable {X : Cx} {ops : Array Oper} {S : World → Prop} {Q : Exit → Act → World → Prop} {rest : List (Oper × Bool)} {F : Frm} {L : List Ent}
variable {d : Nat} {g : Bool} {ty : TypeId} {pos : String} {af : Array Edge} {gd : Option (Nat × Bool)}
theorem run_callOp {a : Act} {o : Oper} {fo : Operand} {args : List Operand} {tys : Array TypeId} {f : Nat} {first caps vs : List Value} {w : World} (ho : o.op = .call ⟨.value fo, args.toArray, tys⟩) (hf : a.eval fo = .func (.func f) first.toArray caps.toArray) (hv : args.map a.eval = vs)
    (he : EntersF X.P f) : (execOp a.eval o).run X.P w = .ok (.enter f (first ++ vs ++ caps).toArray) w := by
  subst hv
  unfold execOp
  simp only [ho, resolve]
  simp [hf, Deferred.ofValue, invoke, he]
/-- a call: the contract, and what it comes to -/
theorem r_call {fo : Operand} {args : List Operand} {tys : Array TypeId} {f : Nat} {caps vs : List Value} {ι : Type} (v : ι → Value) (R : ι → Prop) (L' : ι → List Ent) (he : EntersF X.P f) (hg : Gd ops F gd true)
    (hf : Ev F fo true (.func (.func f) #[] caps.toArray)) (hx : Evs F true args vs)
    (hc : ∀ w, St X.w0 X.M L w → Calls X.P f (vs ++ caps).toArray w (fun e w' => ∃ i, R i ∧ e = .returned (v i) ∧ St X.w0 X.M (L' i) w'))
    (hS : ∀ i w, R i → St X.w0 X.M (L' i) w → S w) (hn : Nat.blt d X.n = true) (hk : noKey d F = true) (k : ∀ i, R i → TL X ops S Q rest ((d, true, v i) :: F) (L' i)) :
    TL X ops S Q ((⟨some d, .call ⟨.value fo, args.toArray, tys⟩, ty, pos, af, gd⟩, true) :: rest) F L := by
  intro a w ha hw _
  simp only [wpLex]
  rw [if_pos (hg.wanted ha)]
  unfold exec
  rw [run_callOp (first := []) (caps := caps) rfl (hf.eval ha rfl) (hx.eval ha rfl) he]
  refine (hc w hw).mono ?_
  rintro e w' ⟨i, hi, rfl, hw'⟩
  have hp := ha.put (g := true) (v := v i) hn hk
  exact ⟨v i, rfl, hS i _ hi hw', k i hi _ _ hp hw' (hS i _ hi hw')⟩
/-- .. without a result's temporary -/
theorem r_call_ {fo : Operand} {args : List Operand} {tys : Array TypeId} {f : Nat} {caps vs : List Value} {ι : Type} (v : ι → Value) (R : ι → Prop) (L' : ι → List Ent) (he : EntersF X.P f) (hg : Gd ops F gd true)
    (hf : Ev F fo true (.func (.func f) #[] caps.toArray)) (hx : Evs F true args vs)
    (hc : ∀ w, St X.w0 X.M L w → Calls X.P f (vs ++ caps).toArray w (fun e w' => ∃ i, R i ∧ e = .returned (v i) ∧ St X.w0 X.M (L' i) w'))
    (hS : ∀ i w, R i → St X.w0 X.M (L' i) w → S w) (k : ∀ i, R i → TL X ops S Q rest F (L' i)) :
    TL X ops S Q ((⟨none, .call ⟨.value fo, args.toArray, tys⟩, ty, pos, af, gd⟩, true) :: rest) F L := by
  intro a w ha hw _
  simp only [wpLex]
  rw [if_pos (hg.wanted ha)]
  unfold exec
  rw [run_callOp (first := []) (caps := caps) rfl (hf.eval ha rfl) (hx.eval ha rfl) he]
  refine (hc w hw).mono ?_
  rintro e w' ⟨i, hi, rfl, hw'⟩
  exact ⟨v i, rfl, hS i _ hi hw', k i hi _ _ ha hw' (hS i _ hi hw')⟩
/-- a call that only answers, carried out where g -/
theorem r_ans {fo : Operand} {args : List Operand} {tys : Array TypeId} {f : Nat} {caps vs : List Value} {v : Value} (he : EntersF X.P f) (hg : Gd ops F gd g)
    (hf : Ev F fo g (.func (.func f) #[] caps.toArray)) (hx : Evs F g args vs)
    (hc : g = true → ∀ w, St X.w0 X.M L w → Calls X.P f (vs ++ caps).toArray w (Ans w v))
    (hS : ∀ w, St X.w0 X.M L w → S w) (hn : Nat.blt d X.n = true) (hk : noKey d F = true) (k : TL X ops S Q rest ((d, g, v) :: F) L) :
    TL X ops S Q ((⟨some d, .call ⟨.value fo, args.toArray, tys⟩, ty, pos, af, gd⟩, true) :: rest) F L := by
  intro a w ha hw _
  have hp := ha.put (g := g) (v := v) hn hk
  have hwant := Gd.wanted (o := ⟨some d, .call ⟨.value fo, args.toArray, tys⟩, ty, pos, af, gd⟩) hg ha
  simp only [wpLex]
  cases g with
  | false =>
    rw [if_neg (by rw [hwant]; simp)]
    exact k _ _ hp hw (hS _ hw)
  | true =>
    rw [if_pos hwant]
    unfold exec
    rw [run_callOp (first := []) (caps := caps) rfl (hf.eval ha rfl) (hx.eval ha rfl) he]
    refine (hc rfl w hw).mono ?_
    rintro e w' ⟨rfl, hw'⟩
    have hw'' : St X.w0 X.M L w' := hw.grow hw'
    exact ⟨v, rfl, hS _ hw'', k _ _ hp hw'' (hS _ hw'')⟩
/-- from a contract to what a call comes to -/
theorem call_grow {P : Program} {f : Nat} {args : Array Value} {w w0 : World} {M : Nat → Prop} {L : List Ent} {ι : Type} {v : ι → Value} {R : ι → Prop} {N : ι → List Ent} (h : Calls P f args w (Gives w no v R N)) (hw : St w0 M L w) :
    Calls P f args w (fun e w' => ∃ i, R i ∧ e = .returned (v i) ∧ St w0 M (N i ++ L) w') :=
  h.mono fun e w' ⟨i, hi, he, hs⟩ => ⟨i, hi, he, hw.grow hs⟩
theorem call_turn {P : Program} {f : Nat} {args : Array Value} {w w0 : World} {M : Nat → Prop} {L L0 : List Ent} {x : Ent} {ι : Type} {v : ι → Value} {R : ι → Prop} {N : ι → List Ent} (hp : L.Perm (x :: L0)) (h : Calls P f args w (Gives w (· ∈ x.foot) v R N)) (hw : St w0 M L w) :
    Calls P f args w (fun e w' => ∃ i, R i ∧ e = .returned (v i) ∧ St w0 M (N i ++ L0) w') :=
  h.mono fun e w' ⟨i, hi, he, hs⟩ => ⟨i, hi, he, (hw.perm hp).turn hs⟩
theorem st_start {w : World} {x : Ent} (h : In w x) (hnd : x.foot.Nodup) : St w (· ∈ x.foot) [x] w := by
  refine ⟨rfl, rfl, rfl, Nat.le_refl _, fun _ _ _ => rfl, fun e he => ?_, fun e he => ?_, by simpa using hnd, fun e he b hb => ?_⟩
  · obtain rfl : e = x := by simpa using he
    exact h.ok
  · obtain rfl : e = x := by simpa using he
    exact h.lt
  · obtain rfl : e = x := by simpa using he
    exact .inl hb
end
end Go.Sep
