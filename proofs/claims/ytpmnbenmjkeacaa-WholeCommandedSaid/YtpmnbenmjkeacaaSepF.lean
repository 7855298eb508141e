/- Rules for what is built and made: structs, slices of the call's own, append, stores into elements; whole tests. No program is named here. -/
import Derived.Test.YtpmnbenmjkeacaaSepE
import Derived.ArgAppend
set_option linter.unusedVariables false
set_option linter.unusedSectionVars false
namespace Go.Sep
open Go Go.RowKit

/-! ### 1. Structs that are built -/
/-- parts laid over cells -/
def fillL (pls : List (Nat × Nat)) : List Value → List (Nat × Value) → Option (List Value)
  | cells, [] => some cells
  | cells, (i, v) :: rest => match pls[i]? with
    | some (off, size) => if (cellsL v).length = size ∧ off + size ≤ cells.length then fillL pls (over off (cellsL v) cells) rest else none
    | none => none
theorem over_length : ∀ (k : Nat) (ns cs : List Value), (over k ns cs).length = cs.length
  | 0, [], cs => by cases cs <;> simp [over]
  | 0, n :: ns, [] => by simp [over]
  | 0, n :: ns, c :: cs => by simp [over, over_length 0 ns cs]
  | k + 1, ns, [] => by simp [over]
  | k + 1, ns, c :: cs => by simp [over, over_length k ns cs]
theorem foldl_over : ∀ (vs : List Value) (off j : Nat) (cs : Array Value), off + j + vs.length ≤ cs.size →
    ((vs.zipIdx j).foldl (fun (cs : Array Value) (c, j) => cs.setIfInBounds (off + j) c) cs).toList = over (off + j) vs cs.toList
  | [], off, j, cs, _ => by
    rw [over_eq _ _ _ (by simpa using by assumption)]
    simp
  | v :: vs, off, j, cs, h => by
    simp only [List.length_cons] at h
    simp only [List.zipIdx_cons, List.foldl_cons]
    rw [foldl_over vs off (j + 1) _ (by simp; omega)]
    rw [over_eq _ _ _ (by simp; omega), over_eq _ _ _ (by simp; omega)]
    simp only [Array.toList_setIfInBounds]
    have hlt : off + j < cs.toList.length := by simp; omega
    rw [List.take_set, List.drop_set]
    rw [if_pos (by omega)]
    rw [show off + (j + 1) = off + j + 1 from by omega, List.take_succ_eq_append_getElem hlt]
    rw [List.set_append_right (off + j) v (by simp; omega)]
    simp only [List.length_take, List.length_cons, Nat.min_eq_left (Nat.le_of_lt hlt), Nat.sub_self, List.set_cons_zero, List.append_assoc, List.cons_append, List.nil_append]
    rw [show off + j + 1 + vs.length = off + j + (vs.length + 1) from by omega]
theorem fill_of {pls : List (Nat × Nat)} : ∀ (ps : List (Nat × Value)) (cells out : List Value), fillL pls cells ps = some out → Instr.fill (fun x => pls.toArray[x]?) cells.toArray ps = some out.toArray
  | [], cells, out, h => by simp [fillL] at h; subst h; rfl
  | (i, v) :: ps, cells, out, h => by
    simp only [fillL] at h
    cases hp : pls[i]? with
    | none => rw [hp] at h; cases h
    | some p =>
      obtain ⟨off, size⟩ := p
      rw [hp] at h
      simp only at h
      split at h
      · rename_i hc
        have hz : v.cells.size = size := by rw [cells_eq]; simpa using hc.1
        have ih := fill_of ps _ _ h
        have hf := foldl_over (cellsL v) off 0 cells.toArray (by simp; omega)
        simp only [Nat.add_zero] at hf
        have hf' : v.cells.zipIdx.foldl (fun cs (c, j) => cs.setIfInBounds (off + j) c) cells.toArray = (over off (cellsL v) cells).toArray := by
          apply Array.toList_inj.1
          rw [cells_eq]
          simpa using hf
        have hp' : pls.toArray[i]? = some (off, size) := by simpa using hp
        unfold Instr.fill
        rw [hp']
        simp only
        rw [if_neg (by simp [hz]; omega), hf']
        exact ih
      · cases h
structure BdS (P : Program) (t : TypeId) (z : List Value) (pls : List (Nat × Nat)) : Prop where
  zero : ∀ w, (zeroValue t).run P w = .ok (.agg z.toArray) w
  fields : ∃ fs, P.underlying t = some (.struct fs) ∧ ∀ w, Sem.run P (fs.mapM fun f => do pure (f.offset, ← sizeOf f.type)) w = .ok pls.toArray w
def bdOK (P : Program) (t : TypeId) (pls : List (Nat × Nat)) : Bool :=
  match P.underlying t with
  | some (.struct fs) => (fs.toList.map fun f => (f.offset, (P.info? f.type).map (·.size))) == pls.map fun p => (p.1, some p.2)
  | _ => false
theorem run_places {P : Program} (w : World) : ∀ (fs : List Field) (pls : List (Nat × Nat)), (fs.map fun f => (f.offset, (P.info? f.type).map (·.size))) = pls.map (fun p => (p.1, some p.2)) →
    Sem.run P (fs.mapM fun f => do pure (f.offset, ← sizeOf f.type)) w = .ok pls w
  | [], [], _ => rfl
  | [], _ :: _, h => by simp at h
  | _ :: _, [], h => by simp at h
  | f :: fs, (o, s) :: pls, h => by
    simp only [List.map_cons, List.cons.injEq, Prod.mk.injEq] at h
    obtain ⟨⟨h1, h2⟩, h3⟩ := h
    obtain ⟨i, hi, h4⟩ := Option.map_eq_some_iff.1 h2
    have ih := run_places w fs pls h3
    simp only [List.mapM_cons]
    simp [sizeOf, typeInfo, hi, h4, h1] at ih ⊢
    rw [ih]
    rfl
theorem BdS.of {P : Program} {t : TypeId} {z : List Value} {pls : List (Nat × Nat)} (hz : (P.info? t).map (·.zero) = some (some (.agg z.toArray))) (h : bdOK P t pls = true) : BdS P t z pls := by
  unfold bdOK at h
  cases hd : P.underlying t with
  | none => rw [hd] at h; cases h
  | some d =>
    rw [hd] at h
    cases d with
    | struct fs =>
      refine ⟨fun w => ?_, fs, hd, fun w => ?_⟩
      · obtain ⟨i, hi, h4⟩ := Option.map_eq_some_iff.1 hz
        simp [zeroValue, typeInfo, hi, h4]
      · have := run_places (P := P) w fs.toList pls (by simpa using h)
        rw [← Array.toArray_toList (xs := fs)]
        simp only [List.mapM_toArray, Sem.run_map]
        rw [this]
        rfl
    | _ => cases h
section
variable {X : Cx} {ops : Array Oper} {S : World → Prop} {Q : Exit → Act → World → Prop} {rest : List (Oper × Bool)} {F : Frm} {L : List Ent}
variable {e : Bool} {d : Nat} {g : Bool} {ty : TypeId} {pos : String} {af : Array Edge} {gd : Option (Nat × Bool)}
theorem map_parts {a : Act} {ps : List (Nat × Operand)} {vs : List Value} (h : (ps.map (·.2)).map a.eval = vs) : (ps.toArray.map fun (i, x) => (i, a.eval x)).toList = (ps.map (·.1)).zip vs := by
  subst h
  induction ps with
  | nil => simp
  | cons p ps ih => obtain ⟨i, x⟩ := p; simp at ih ⊢; exact ih
theorem r_build {t : TypeId} {ps : List (Nat × Operand)} {z : List Value} {pls : List (Nat × Nat)} {vs : List Value} (cs : List Value) (hb : BdS X.P t z pls) (hg : Gd ops F gd g) (hx : Evs F g (ps.map (·.2)) vs) (hf : fillL pls z ((ps.map (·.1)).zip vs) = some cs)
    (hn : Nat.blt d X.n = true) (hk : noKey d F = true) : 
    TL X ops S Q rest ((d, g, .agg cs.toArray) :: F) L → TL X ops S Q ((⟨some d, .build t ps.toArray, ty, pos, af, gd⟩, e) :: rest) F L :=
  tl_pure rfl hg (fun a ha hgt w => by
    obtain ⟨fs, h1, h2⟩ := hb.fields
    have h3 := map_parts (ps := ps) (hx.eval ha hgt)
    have h4 := fill_of _ _ _ hf
    have h5 : (ps.toArray.map fun (i, x) => (i, a.eval x)) = ((ps.map (·.1)).zip vs).toArray := by rw [← h3]
    have h6 : (Instr.build t ((ps.map (·.1)).zip vs).toArray).run X.P w = .ok (.agg cs.toArray) w := by
      unfold Instr.build
      simp only [Sem.run_bind, hb.zero, Result.andThen_ok, run_underlying h1, h2, Value.cells]
      simp only [h4]
      rfl
    show Sem.run X.P (do pure (Next.value (← Instr.build t (ps.toArray.map fun (i, x) => (i, a.eval x))))) w = _
    rw [h5]
    simp only [Sem.run_bind, h6]
    rfl) hn hk
end

/-! ### 2. Slices of the call's own -/
theorem flatten_length {sz : Nat} : ∀ (cs : List (List Value)), (∀ l ∈ cs, l.length = sz) → cs.flatten.length = cs.length * sz
  | [], _ => by simp
  | x :: cs, h => by
    simp only [List.flatten_cons, List.length_append, List.length_cons, Nat.succ_mul]
    rw [h x List.mem_cons_self, flatten_length cs fun l hl => h l (List.mem_cons_of_mem _ hl)]
    omega
theorem st_of_own {w w' : World} {M : Nat → Prop} {A : Option Addr} {n : Nat} {t : TypeId} {sz : Nat} {cs : List (List Value)} (hg : w.grownBy w' (A.map (·.block))) (hM : ∀ b ∈ blk A, M b) {A' : Option Addr} {c' : Nat} 
    (hown : (ownE A' n c' t sz cs).ok w') (hb : ∀ b ∈ blk A', b ∈ blk A ∨ b = w.heap.size) : St w M [ownE A' n c' t sz cs] w' := by
  refine ⟨hg.os, hg.tape, hg.output, hg.size, fun b hb hm => hg.block b hb (fun e => ?_), fun x hx => ?_, fun x hx b hb' => ?_, ?_, fun x hx b hb' => ?_⟩
  · cases A with
    | none => cases e
    | some a => exact hm (hM b (by simp at e; simp [blk, e]))
  · obtain rfl : x = _ := by simpa using hx
    exact hown
  · obtain rfl : x = _ := by simpa using hx
    have hb2 : b ∈ blk A' := hb'
    cases A' with
    | none => cases hb2
    | some a =>
      have : b = a.block := by simpa [blk] using hb2
      subst this
      rcases hown.2.2.2.2 with ⟨h, _⟩ | ⟨g, o, cur, hA, hh, _⟩
      · cases h
      · injection hA with hA
        subst hA
        exact (Array.getElem?_eq_some_iff.1 hh).1
  · simp [ownE]
    cases A' <;> simp [blk]
  · obtain rfl : x = _ := by simpa using hx
    rcases hb b hb' with h | h
    · exact .inl (hM b h)
    · exact .inr (by omega)
section
variable {X : Cx} {ops : Array Oper} {S : World → Prop} {Q : Exit → Act → World → Prop} {rest : List (Oper × Bool)} {F : Frm} {L : List Ent}
variable {d : Nat} {g : Bool} {ty : TypeId} {pos : String} {af : Array Edge} {gd : Option (Nat × Bool)}
theorem tl_ownnil (t : TypeId) (sz : Nat) (k : TL X ops S Q rest F (ownE none 0 0 t sz [] :: L)) : TL X ops S Q rest F L := fun a w ha hw hS => k a w ha (st_own_nil hw t sz) hS
/-- append(s, x...): s of the call's own -/
theorem r_append {x y : Operand} {t el : TypeId} {z : Value} {sz bytes : Nat} {A B : Option Addr} {n c m c' : Nat} {cs ds : List (List Value)} {L0 : List Ent} (ht : SlS X.P t el sz) (hel : ElS X.P el z sz bytes) (hg : Gd ops F gd true)
    (hx : Ev F x true (.slice A n c)) (hy : Ev F y true (.slice B m c')) (hp : L.Perm (ownE A n c el sz cs :: L0)) (hs : ∀ w, St X.w0 X.M L w → In w (slE B m c' sz ds)) (ho : ds.all ones = true)
    (h63 : n + m ≤ maxLen) (hby : (n + m) * bytes ≤ 140737488355328) (hS : ∀ A' c' w, St X.w0 X.M (ownE A' (n + m) c' el sz (cs ++ ds) :: L0) w → S w) (hn : Nat.blt d X.n = true) (hk : noKey d F = true)
    (k : ∀ A' c', TL X ops S Q rest ((d, true, .slice A' (n + m) c') :: F) (ownE A' (n + m) c' el sz (cs ++ ds) :: L0)) :
    TL X ops S Q ((⟨some d, .call ⟨.builtin .append, #[x, y], #[t, t]⟩, ty, pos, af, gd⟩, true) :: rest) F L := by
  intro a w ha hw _
  obtain ⟨i, hi, hz, hsz, hbt⟩ := info_parts hel.info
  have hw1 := hw.perm hp
  have hok := hw1.ok _ List.mem_cons_self
  obtain ⟨h1, h2, hnc, hcm, h3⟩ := hok
  obtain ⟨g1, g2, g3, g4, g5⟩ := (hs w hw).ok
  have hpos := ht.pos
  have key : ∃ A' c'' w', (Builtin.append_ #[t, t] ty #[.slice A n c, .slice B m c']).run X.P w = .ok (.slice A' (n + m) c'') w' ∧ St w (· ∈ (ownE A n c el sz cs).foot) [ownE A' (n + m) c'' el sz (cs ++ ds)] w' := by
    have hlen : (cs ++ ds).length = n + m := by simp [h1, g1]
    have hall : ∀ l ∈ cs ++ ds, l.length = sz := fun l hl => by
      rcases List.mem_append.1 hl with h | h
      · exact h2 l h
      · exact g2 l h
    rcases g5 with ⟨rfl, rfl, rfl⟩ | ⟨ad, rfl, hsp, hcell⟩
    · obtain rfl : ds = [] := List.eq_nil_of_length_eq_zero g1
      refine ⟨A, c, w, ?_, ?_⟩
      · rcases h3 with ⟨hA, hn0, hc0⟩ | ⟨g', o, cur, hA, _⟩
        · subst hA hn0 hc0
          simp [Builtin.append_, run_underlying ht.und, sizeOf, typeInfo, hi, Builtin.lenOf, Builtin.firstCells]
        · subst hA
          simp [Builtin.append_, run_underlying ht.und, sizeOf, typeInfo, hi, Builtin.lenOf, Builtin.firstCells, hnc, storeCells]
      · simp only [List.append_nil, Nat.add_zero]
        exact st_of_own (A := A) (World.grownBy.refl w _) (fun b hb => hb) (hw1.ok _ List.mem_cons_self) (fun b hb => .inl hb)
    · have hnl : ds.flatten.length = m * sz := by rw [flatten_length ds g2, g1]
      have hcells : ∀ j u, ds.flatten[j]? = some u → w.cell? (ad.add j) = some u := by
        intro j u hu
        have hj := (List.getElem?_eq_some_iff.1 hu).1
        have hjm : j / sz < ds.length := by rw [g1]; exact (Nat.div_lt_iff_lt_mul hpos).2 (by omega)
        have hl := g2 _ (List.getElem_mem hjm)
        have hmod := Nat.mod_lt j hpos
        obtain ⟨u', hu'⟩ : ∃ u', (ds[j / sz]'hjm)[j % sz]? = some u' := ⟨(ds[j / sz]'hjm)[j % sz]'(by omega), List.getElem?_eq_getElem (by omega)⟩
        have h6 := hcell (j / sz) _ (List.getElem?_eq_getElem hjm) (j % sz) u' hu'
        have h7 := flatten_get ds g2 (j / sz) _ (List.getElem?_eq_getElem hjm) (j % sz) u' hu'
        have h8 : j / sz * sz + j % sz = j := by rw [Nat.mul_comm]; exact Nat.div_add_mod j sz
        rw [h8] at h6 h7
        rw [h7] at hu
        injection hu with hu
        subst hu
        obtain ⟨b, o, s⟩ := ad
        simp only at hsp
        subst hsp
        rw [add_plain]
        exact h6
      have hones : ∀ u ∈ ds.flatten, u.oneCell' = true := fun u hu => by
        obtain ⟨l, hl, hul⟩ := List.mem_flatten.1 hu
        exact ones_mem (List.all_eq_true.1 ho l hl) u hul
      have hform : ∀ (base : Nat) (v' : Value) (w' : World) (xs : List Value), w'.ownsRow base el sz v' (n + m) xs → ∃ A' c'', v' = .slice A' (n + m) c'' := fun base v' w' xs hown => by
        rcases hown.2 with ⟨hv, hn0⟩ | ⟨g', cap, cur, hv, _⟩
        · exact ⟨none, 0, by rw [hv]; congr 1; omega⟩
        · exact ⟨_, cap, hv⟩
      rcases h3 with ⟨hA, hn0, hc0⟩ | ⟨g', o, cur, hA, hh, hcz, htake⟩
      · subst hA hn0 hc0
        obtain rfl : cs = [] := List.eq_nil_of_length_eq_zero h1
        obtain ⟨v', w', hrun, hown, hgr, _, hbk⟩ := run_append_own_at (P := X.P) w 0 t ty el i z sz bytes ht.und hi hz hsz hbt hel.zs hpos (.slice none 0 0) 0 [] (World.ownsRow_nil w 0 el sz) ad m c' ds.flatten hnl hcells hones h63 hby (Nat.zero_le _)
        obtain ⟨A', c'', rfl⟩ := hform _ _ _ _ hown
        refine ⟨A', c'', w', hrun, st_of_own (A := none) hgr (fun b hb => hb) (own_of_row hlen hall (by simpa using hown)) (fun b hb => ?_)⟩
        cases A' with
        | none => cases hb
        | some a' =>
          have hb' : b = a'.block := by simpa [blk] using hb
          subst hb'
          rcases hbk with h | h
          · cases h
          · simp [Value.ownBlock] at h; exact .inr h
      · subst hA
        have hlt := (Array.getElem?_eq_some_iff.1 hh).1
        by_cases hroom : n + m ≤ c
        · have hmul : (n + m) * sz ≤ c * sz := Nat.mul_le_mul_right _ hroom
          rw [Nat.add_mul] at hmul
          have hst := run_storeCells_at X.P g' (o + n * sz) el ds.flatten 0 cur w hh (by rw [hnl]; omega) hones
          simp only [Nat.add_zero] at hst
          have hf := run_firstCells_some (P := X.P) w i.size m ad m c' ds.flatten (by rw [hnl, hsz]) hcells
          have hne : ¬ c < n + m := by omega
          refine ⟨some ⟨g', o, none⟩, c, w.setRow g' (cur.toList.take (o + n * sz) ++ ds.flatten ++ cur.toList.drop (o + n * sz + ds.flatten.length)).toArray, ?_, ?_⟩
          · subst hsz
            simp [Builtin.append_, run_underlying ht.und, sizeOf, typeInfo, hi, Builtin.lenOf, hroom, hf, add_plain, hst]
          · refine ⟨rfl, rfl, rfl, by simp, fun k hk hm => setRow_other w g' k _ (by simpa [ownE, blk] using hm), fun y hy => ?_, fun y hy b hb => ?_, by simp [ownE, blk], fun y hy b hb => ?_⟩
            · obtain rfl : y = _ := by simpa using hy
              refine ⟨hlen, hall, hroom, hcm, .inr ⟨g', o, _, rfl, setRow_heap w g' cur _ el (0, 0) hh, ?_, ?_⟩⟩
              · simp only [List.size_toArray, List.length_append, List.length_take, List.length_drop, Array.length_toList, hnl]
                omega
              · rw [List.flatten_append, ← htake]
                have e1 : (cur.toList.take (o + n * sz)).drop o = (cur.toList.drop o).take (n * sz) := by
                  rw [List.drop_take]
                  congr 1
                  omega
                have e0 : ((cur.toList.drop o).take (n * sz)).length = n * sz := by simp; omega
                simp only
                rw [List.append_assoc, List.drop_append_of_le_length (by simp; omega), e1, ← List.append_assoc]
                rw [List.take_append_of_le_length (by rw [List.length_append, e0, hnl, Nat.add_mul]; omega)]
                exact List.take_of_length_le (by rw [List.length_append, e0, hnl, Nat.add_mul]; omega)
            · obtain rfl : y = _ := by simpa using hy
              have : b = g' := by simpa [ownE, blk] using hb
              subst this
              simp
              exact hlt
            · obtain rfl : y = _ := by simpa using hy
              exact .inl hb
        · have hcl : cs.flatten.length = n * sz := by rw [flatten_length cs h2, h1]
          have hold : ∀ j u, cs.flatten[j]? = some u → w.cell? ((⟨g', o, none⟩ : Addr).add j) = some u := by
            intro j u hu
            rw [add_plain, cell_of_row w g' _ cur el (0, 0) hh]
            rw [← htake, List.getElem?_take] at hu
            split at hu
            · rw [List.getElem?_drop] at hu
              simpa using hu
            · cases hu
          obtain ⟨v', w', hrun, hown, hgr⟩ := run_append_arg_grows (P := X.P) w t ty el i z sz bytes ht.und hi hz hsz hbt hel.zs hpos ⟨g', o, none⟩ n c cs.flatten hcl hold ad m c' ds.flatten hnl hcells (by omega) h63 hby
          obtain ⟨A', c'', rfl⟩ := hform _ _ _ _ hown
          have hok' : (ownE A' (n + m) c'' el sz (cs ++ ds)).ok w' := own_of_row hlen hall (by simpa using hown)
          refine ⟨A', c'', w', hrun, ⟨hgr.os, hgr.tape, hgr.output, hgr.size, fun b hb _ => hgr.block b hb (by simp), fun x hx => ?_, fun x hx b hb' => ?_, ?_, fun x hx b hb' => ?_⟩⟩
          · obtain rfl : x = _ := by simpa using hx
            exact hok'
          · obtain rfl : x = _ := by simpa using hx
            cases A' with
            | none => cases hb'
            | some a =>
              have : b = a.block := by simpa [ownE, blk] using hb'
              subst this
              exact (hown.lt a.block rfl).2
          · simp [ownE]
            cases A' <;> simp [blk]
          · obtain rfl : x = _ := by simpa using hx
            cases A' with
            | none => cases hb'
            | some a =>
              have : b = a.block := by simpa [ownE, blk] using hb'
              subst this
              exact .inr (hown.lt a.block rfl).1
  obtain ⟨A', c'', w', hrun, hst⟩ := key
  have hw' := hw1.turn hst
  simp only [wpLex]
  rw [if_pos (hg.wanted ha)]
  unfold exec
  have hex : (execOp a.eval ⟨some d, .call ⟨.builtin .append, #[x, y], #[t, t]⟩, ty, pos, af, gd⟩).run X.P w = .ok (.value (.slice A' (n + m) c'')) w' := by
    simp [execOp, resolve, invoke, builtin, hx.eval ha rfl, hy.eval ha rfl, hrun]
  rw [hex]
  have hpt := ha.put (g := true) (v := .slice A' (n + m) c'') hn hk
  exact ⟨hS A' c'' _ hw', k A' c'' _ _ hpt hw' (hS A' c'' _ hw')⟩
/-- []T{x, y, ..}: all its elements written out -/
theorem fill_all {sz : Nat} : ∀ (vs : List Value) (k : Nat) (cells : List Value), (∀ v ∈ vs, (cellsL v).length = sz) → (k + vs.length) * sz = cells.length →
    Instr.fill (fun i => some (i * sz, sz)) cells.toArray ((List.range' k vs.length).zip vs) = some (cells.take (k * sz) ++ (vs.map cellsL).flatten).toArray
  | [], k, cells, _, h => by simp at h ⊢; simp [Instr.fill]; rw [List.take_of_length_le (by omega)]
  | v :: vs, k, cells, hv, h => by
    have hv1 := hv v List.mem_cons_self
    simp only [List.length_cons, List.range'_succ, List.zip_cons_cons, Instr.fill] at h ⊢
    have h0 : k * sz + sz ≤ cells.length := by rw [← h, ← Nat.succ_mul]; exact Nat.mul_le_mul_right _ (by omega)
    have hz : v.cells.size = sz := by rw [cells_eq]; simpa using hv1
    rw [if_neg (by simp [hz]; omega)]
    have hf := foldl_over (cellsL v) (k * sz) 0 cells.toArray (by simp; omega)
    simp only [Nat.add_zero] at hf
    have hf' : v.cells.zipIdx.foldl (fun cs (c, j) => cs.setIfInBounds (k * sz + j) c) cells.toArray = (over (k * sz) (cellsL v) cells).toArray := by
      apply Array.toList_inj.1
      rw [cells_eq]
      simpa using hf
    rw [hf', fill_all vs (k + 1) _ (fun u hu => hv u (List.mem_cons_of_mem _ hu)) (by rw [over_length, ← h]; congr 1; omega)]
    congr 2
    rw [over_eq _ _ _ (by omega), Nat.succ_mul]
    have h1 : (cells.take (k * sz) ++ cellsL v).length = k * sz + sz := by simp [hv1]; omega
    rw [List.take_append_of_le_length (by rw [h1]; omega), List.take_of_length_le (by rw [h1]; omega)]
    simp
theorem r_buildSlice {t el : TypeId} {len : Nat} {ps : List (Nat × Operand)} {z : Value} {sz bytes : Nat} {vs : List Value} (cs : List (List Value)) (ht : SlS X.P t el sz) (hel : ElS X.P el z sz bytes) (hidx : ps.map (·.1) = List.range' 0 len) (hbig : Nat.ble (len * sz) 16777216 = true)
    (hg : Gd ops F gd true) (hx : Evs F true (ps.map (·.2)) vs) (hcs : vs.map cellsL = cs) (hall : cs.all (fun l => l.length == sz) = true) (hlen : cs.length = len)
    (hS : ∀ b w, St X.w0 X.M (ownE (some ⟨b, 0, none⟩) len len el sz cs :: L) w → S w) (hn : Nat.blt d X.n = true) (hk : noKey d F = true)
    (k : ∀ b, TL X ops S Q rest ((d, true, .slice (some ⟨b, 0, none⟩) len len) :: F) (ownE (some ⟨b, 0, none⟩) len len el sz cs :: L)) :
    TL X ops S Q ((⟨some d, .buildSlice t len ps.toArray, ty, pos, af, gd⟩, true) :: rest) F L :=
  tl_new rfl hg (fun b => .slice (some ⟨b, 0, none⟩) len len) (fun b => [ownE (some ⟨b, 0, none⟩) len len el sz cs]) (fun a ha w hw => by
    obtain ⟨i, hi, hz, hsz, hbt⟩ := info_parts hel.info
    have hvl : vs.length = len := by rw [← hlen, ← hcs, List.length_map]
    have hall' : ∀ v ∈ vs, (cellsL v).length = sz := fun v hv => by
      have := List.all_eq_true.1 hall (cellsL v) (by rw [← hcs]; exact List.mem_map_of_mem hv)
      simpa using this
    have hcl : ∀ l ∈ cs, l.length = sz := fun l hl => by have := List.all_eq_true.1 hall l hl; simpa using this
    have h3 := map_parts (ps := ps) (hx.eval ha rfl)
    have h5 : (ps.toArray.map fun (i, x) => (i, a.eval x)) = ((List.range' 0 len).zip vs).toArray := by rw [← hidx, ← h3]
    let zr : Array Value := (Array.range (len * sz)).map (z.cells[· % z.cells.size]!)
    have hfill := fill_all (sz := sz) vs 0 zr.toList hall' (by simp [zr, hvl])
    simp only [Nat.zero_mul, List.take_zero, List.nil_append, hvl, hcs] at hfill
    refine ⟨w.heap.size, w.alloc (.cells cs.flatten.toArray el), ?_, ?_⟩
    · have hbig' : ¬ (2 ^ 24 < len * sz) := by have := Nat.le_of_ble_eq_true hbig; omega
      have hrun : (Instr.buildSlice t len ((List.range' 0 len).zip vs).toArray).run X.P w = .ok (.slice (some ⟨w.heap.size, 0, none⟩) len len) (w.alloc (.cells cs.flatten.toArray el)) := by
        by_cases h0 : len * sz = 0
        · have hl0 : len = 0 := by have := ht.pos; rcases Nat.mul_eq_zero.1 h0 with h | h; exact h; omega
          subst hl0
          obtain rfl : vs = [] := List.eq_nil_of_length_eq_zero hvl
          obtain rfl : cs = [] := List.eq_nil_of_length_eq_zero hlen
          simp [Instr.buildSlice, run_underlying ht.und, ht.size, Instr.fill, newRow, newObj, Sem.run, Array.range_zero']
        · simp [Instr.buildSlice, run_underlying ht.und, ht.size, hbig', h0, hel.zero]
          have : Instr.fill (fun i => some (i * sz, sz)) (Array.map (fun x => z.cells[x % z.cells.size]!) (Array.range (len * sz))) ((List.range' 0 len).zip vs) = some cs.flatten.toArray := by rw [← hfill]
          rw [this]
          simp [newRow, newObj, Sem.run]
      show Sem.run X.P (do pure (Next.value (← Instr.buildSlice t len (ps.toArray.map fun (i, x) => (i, a.eval x))))) w = _
      rw [h5]
      simp only [Sem.run_bind, hrun]
      rfl
    · refine st_of_own (A := none) (World.grownBy_alloc w _ none) (fun b hb => by cases hb) (own_of_row (base := 0) hlen hcl ⟨?_, .inr ⟨w.heap.size, len, cs.flatten.toArray, rfl, Nat.zero_le _, heap_alloc_new w _, Nat.le_refl _, ?_, ?_, ?_⟩⟩) (fun b hb => .inr (by simpa [blk] using hb))
      · rw [flatten_length cs hcl, hlen]
      · have := Nat.le_of_ble_eq_true hbig
        have hp := ht.pos
        have : len ≤ len * sz := Nat.le_mul_of_pos_right _ hp
        simp [maxLen]; omega
      · simp [flatten_length cs hcl, hlen]
      · simp [List.take_of_length_le, flatten_length cs hcl, hlen]) hS hn hk k
/-- make([]T, n) -/
theorem madeCells_rep (z : Value) (sz : Nat) (hz : z.cells.size = sz) (hp : 0 < sz) : ∀ n, (madeCells z.cells (n * sz)).toList = (List.replicate n (cellsL z)).flatten := by
  intro n
  apply List.ext_getElem?
  intro j
  have hlz : (cellsL z).length = sz := by rw [← cellsL_eq]; simpa using hz
  by_cases hj : j < n * sz
  · have h1 : (madeCells z.cells (n * sz)).toList[j]? = some (z.cells[j % z.cells.size]!) := by
      simp [madeCells, hj]
    have hd : j / sz < n := (Nat.div_lt_iff_lt_mul hp).2 hj
    have hm := Nat.mod_lt j hp
    have h2 := flatten_get (sz := sz) (List.replicate n (cellsL z)) (fun l hl => by rw [List.eq_of_mem_replicate hl]; exact hlz) (j / sz) (cellsL z) (by simp [hd]) (j % sz) ((cellsL z)[j % sz]'(by omega)) (List.getElem?_eq_getElem (by omega))
    rw [show j / sz * sz + j % sz = j from by rw [Nat.mul_comm]; exact Nat.div_add_mod j sz] at h2
    rw [h1, h2, hz]
    congr 1
    rw [getElem!_pos z.cells (j % sz) (by omega)]
    have : z.cells.toList[j % sz]'(by simp; omega) = (cellsL z)[j % sz]'(by omega) := by simp only [cellsL_eq]
    simpa using this
  · rw [List.getElem?_eq_none (by simp [madeCells]; omega), List.getElem?_eq_none (by simp [hlz]; omega)]
theorem r_makeSlice {x y : Operand} {t el : TypeId} {z : Value} {sz bytes n : Nat} {k1 k2 : IntKind} {m : Int} (ht : SlS X.P t el sz) (hel : ElS X.P el z sz bytes) (hg : Gd ops F gd true) (hx : Ev F x true (.int k1 m)) (hy : Ev F y true (.int k2 m)) (hm : m = (n : Int))
    (hby : bytes * n ≤ 281474976710656) (h63 : n ≤ 9223372036854775807) (hS : ∀ b w, St X.w0 X.M (ownE (some ⟨b, 0, none⟩) n n el sz (List.replicate n (cellsL z)) :: L) w → S w) (hn : Nat.blt d X.n = true) (hk : noKey d F = true)
    (k : ∀ b, TL X ops S Q rest ((d, true, .slice (some ⟨b, 0, none⟩) n n) :: F) (ownE (some ⟨b, 0, none⟩) n n el sz (List.replicate n (cellsL z)) :: L)) :
    TL X ops S Q ((⟨some d, .makeSlice t x y, ty, pos, af, gd⟩, true) :: rest) F L :=
  tl_new rfl hg (fun b => .slice (some ⟨b, 0, none⟩) n n) (fun b => [ownE (some ⟨b, 0, none⟩) n n el sz (List.replicate n (cellsL z))]) (fun a ha w hw => by
    obtain ⟨i, hi, hz, hsz, hbt⟩ := info_parts hel.info
    subst hm
    have hlz : (cellsL z).length = sz := by rw [← cellsL_eq]; simpa using hel.zs
    have hcl : ∀ l ∈ List.replicate n (cellsL z), l.length = sz := fun l hl => by rw [List.eq_of_mem_replicate hl]; exact hlz
    have hbi : (i.bytes : Int) * (n : Int) ≤ 281474976710656 := by
      rw [hbt, ← Int.natCast_mul]
      omega
    have hrun := run_make (P := X.P) w t el i z ht.und hi hz k1 k2 (n : Int) (n : Int) (by omega) (by omega) hbi (by omega)
    simp only [Int.toNat_natCast, hsz] at hrun
    refine ⟨w.heap.size, w.alloc (.cells (madeCells z.cells (n * sz)) el), by simp [execOp, hx.eval ha rfl, hy.eval ha rfl, hrun], ?_⟩
    refine st_of_own (A := none) (World.grownBy_alloc w _ none) (fun b hb => by cases hb) (own_of_row (base := 0) (by simp) hcl ⟨?_, .inr ⟨w.heap.size, n, _, rfl, Nat.zero_le _, heap_alloc_new w _, Nat.le_refl _, ?_, ?_, ?_⟩⟩) (fun b hb => .inr (by simpa [blk] using hb))
    · rw [flatten_length _ hcl]; simp
    · simp [maxLen]; omega
    · simp [madeCells]
    · rw [madeCells_rep z sz hel.zs ht.pos, List.take_of_length_le (by rw [flatten_length _ hcl]; simp)]) hS hn hk k
end
end Go.Sep
