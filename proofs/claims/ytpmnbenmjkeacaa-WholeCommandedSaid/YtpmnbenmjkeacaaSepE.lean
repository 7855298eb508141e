/- Rules for slices, structs that are built, lengths. No program is named here. -/
import Derived.Test.YtpmnbenmjkeacaaSepD
import Derived.Great.BuildSlice
set_option linter.unusedVariables false
set_option linter.unusedSectionVars false
namespace Go.Sep
open Go Go.RowKit

/-! ### 1. Slices that are read -/
def blk : Option Addr → List Nat
  | some a => [a.block]
  | none => []
/-- the place of cell k of a slice -/
def elA : Option Addr → Nat → Addr
  | some a, k => ⟨a.block, a.off + k, none⟩
  | none, _ => ⟨0, 0, none⟩
theorem elA_add (A : Option Addr) (k o : Nat) (h : A ≠ none) : (elA A k).add o = elA A (k + o) := by
  cases A with
  | none => exact absurd rfl h
  | some a => simp only [elA, add_plain, Nat.add_assoc]
/-- the slice .slice A n c reads as the elements cs, each of sz cells -/
def slE (A : Option Addr) (n c sz : Nat) (cs : List (List Value)) : Ent where
  foot := blk A
  ok := fun w => cs.length = n ∧ (∀ l ∈ cs, l.length = sz) ∧ n ≤ c ∧ c ≤ maxLen ∧
    ((A = none ∧ n = 0 ∧ c = 0) ∨ ∃ a : Addr, A = some a ∧ a.spot = none ∧ ∀ (i : Nat) (l : List Value), cs[i]? = some l → ∀ (j : Nat) (u : Value), l[j]? = some u → w.cell? ⟨a.block, a.off + (i * sz + j), none⟩ = some u)
  loc := fun w w' h hk => ⟨hk.1, hk.2.1, hk.2.2.1, hk.2.2.2.1, hk.2.2.2.2.imp id fun ⟨a, ha, hs, hc⟩ => ⟨a, ha, hs, fun i l hl j u hu => by
    exact (World.cell?_of_block (w := w) (a := ⟨a.block, a.off + (i * sz + j), none⟩) (h a.block (by simp [blk, ha]))).trans (hc i l hl j u hu)⟩⟩
theorem slE_nil (w : World) (sz : Nat) : In w (slE none 0 0 sz []) := ⟨⟨rfl, fun _ h => (by cases h), Nat.le_refl _, by simp [maxLen], .inl ⟨rfl, rfl, rfl⟩⟩, fun _ h => by cases h⟩
/-- a slice of the call's own (it may begin inside its block), onto which it may append -/
def ownE (A : Option Addr) (n c : Nat) (t : TypeId) (sz : Nat) (cs : List (List Value)) : Ent where
  foot := blk A
  ok := fun w => cs.length = n ∧ (∀ l ∈ cs, l.length = sz) ∧ n ≤ c ∧ c ≤ maxLen ∧
    ((A = none ∧ n = 0 ∧ c = 0) ∨ ∃ (g o : Nat) (cur : Array Value), A = some ⟨g, o, none⟩ ∧ w.heap[g]? = some (.cells cur t (0, 0)) ∧ o + c * sz ≤ cur.size ∧ (cur.toList.drop o).take (n * sz) = cs.flatten)
  loc := fun w w' h hk => ⟨hk.1, hk.2.1, hk.2.2.1, hk.2.2.2.1, hk.2.2.2.2.imp id fun ⟨g, o, cur, hA, hh, r⟩ => ⟨g, o, cur, hA, by
    rw [h g (by simp [blk, hA])]
    exact hh, r⟩⟩
theorem own_of_row {w : World} {base : Nat} {A : Option Addr} {n c : Nat} {t : TypeId} {sz : Nat} {cs : List (List Value)} (hlen : cs.length = n) (hl : ∀ l ∈ cs, l.length = sz) (h : w.ownsRow base t sz (.slice A n c) n cs.flatten) : (ownE A n c t sz cs).ok w := by
  rcases h.2 with ⟨hv, hn⟩ | ⟨g, cap, cur, hv, _, hh, hnc, hcm, hcs, htake⟩
  · injection hv with hA hn' hc
    exact ⟨hlen, hl, by omega, by simp [maxLen]; omega, .inl ⟨hA, hn, hc⟩⟩
  · injection hv with hA hn' hc
    subst hc
    exact ⟨hlen, hl, hnc, hcm, .inr ⟨g, 0, cur, hA, hh, by omega, by simpa using htake⟩⟩
theorem flatten_get {sz : Nat} : ∀ (cs : List (List Value)), (∀ l ∈ cs, l.length = sz) → ∀ (i : Nat) (l : List Value), cs[i]? = some l → ∀ (j : Nat) (u : Value), l[j]? = some u → cs.flatten[i * sz + j]? = some u
  | [], _, _, _, h, _, _, _ => by simp at h
  | x :: cs, hl, i, l, hi, j, u, hu => by
    have hx : x.length = sz := hl x List.mem_cons_self
    cases i with
    | zero =>
      obtain rfl : x = l := by simpa using hi
      have := (List.getElem?_eq_some_iff.1 hu).1
      simp only [List.flatten_cons, Nat.zero_mul, Nat.zero_add]
      rw [List.getElem?_append_left this]
      exact hu
    | succ i =>
      have ih := flatten_get cs (fun l h => hl l (List.mem_cons_of_mem _ h)) i l (by simpa using hi) j u hu
      simp only [List.flatten_cons]
      rw [List.getElem?_append_right (by rw [hx, Nat.succ_mul]; omega)]
      rw [hx, show (i + 1) * sz + j - sz = i * sz + j from by rw [Nat.succ_mul]; omega]
      exact ih
theorem ownE_sl {w : World} {A : Option Addr} {n c : Nat} {t : TypeId} {sz : Nat} {cs : List (List Value)} (h : In w (ownE A n c t sz cs)) : In w (slE A n c sz cs) := by
  refine ⟨?_, h.lt⟩
  obtain ⟨h1, h2, h3, h4, h5⟩ := h.ok
  refine ⟨h1, h2, h3, h4, ?_⟩
  rcases h5 with h5 | ⟨g, o, cur, hA, hh, hsz, htake⟩
  · exact .inl h5
  · refine .inr ⟨_, hA, rfl, fun i l hl j u hu => ?_⟩
    have h5 := flatten_get cs h2 i l hl j u hu
    rw [cell_of_row w g _ cur t (0, 0) hh]
    rw [← htake, List.getElem?_take] at h5
    split at h5
    · rw [List.getElem?_drop] at h5
      simpa using h5
    · cases h5
theorem sees_own {X : Cx} {e : Bool} {S : World → Prop} {L : List Ent} {A : Option Addr} {n c : Nat} {t : TypeId} {sz : Nat} {cs : List (List Value)} (h : Sees X e S L (ownE A n c t sz cs)) : Sees X e S L (slE A n c sz cs) := fun w hw => ownE_sl (h w hw)
theorem st_own_nil {w0 w : World} {M : Nat → Prop} {L : List Ent} (h : St w0 M L w) (t : TypeId) (sz : Nat) : St w0 M (ownE none 0 0 t sz [] :: L) w :=
  ⟨h.os, h.tape, h.output, h.size, h.keep,
    fun x hx => by
      rcases List.mem_cons.1 hx with rfl | hx
      · exact ⟨rfl, fun _ h => (by cases h), Nat.le_refl _, by simp [maxLen], .inl ⟨rfl, rfl, rfl⟩⟩
      · exact h.ok x hx,
    fun x hx => by
      rcases List.mem_cons.1 hx with rfl | hx
      · intro b hb; cases hb
      · exact h.lt x hx,
    by simpa [List.flatMap_cons, ownE, blk] using h.nd,
    fun x hx => by
      rcases List.mem_cons.1 hx with rfl | hx
      · intro b hb; cases hb
      · exact h.inM x hx⟩
/-- a part of a slice that is read -/
theorem slE_part {w : World} {A : Option Addr} {n c sz : Nat} {cs : List (List Value)} (h : In w (slE A n c sz cs)) (l r : Nat) (hlr : l ≤ r) (hr : r ≤ n) :
    In w (slE (if c - l = 0 then A else A.map (·.add (l * sz))) (r - l) (c - l) sz ((cs.take r).drop l)) := by
  obtain ⟨h1, h2, h3, h4, h5⟩ := h.ok
  have hblk : ∀ b ∈ blk (if c - l = 0 then A else A.map (·.add (l * sz))), b ∈ blk A := by
    intro b hb
    split at hb
    · exact hb
    · cases A with
      | none => exact hb
      | some a =>
        simp only [Option.map_some, blk] at hb ⊢
        have : (a.add (l * sz)).block = a.block := by unfold Addr.add; split <;> rfl
        rwa [this] at hb
  refine ⟨⟨by simp [h1]; omega, fun x hx => h2 x (List.mem_of_mem_take (List.mem_of_mem_drop hx)), by omega, by omega, ?_⟩, fun b hb => h.lt b (hblk b hb)⟩
  rcases h5 with ⟨hA, hn, hc⟩ | ⟨a, hA, hs, hcell⟩
  · subst hA
    exact .inl ⟨by split <;> rfl, by omega, by omega⟩
  · subst hA
    by_cases hz : c - l = 0
    · refine .inr ⟨a, by rw [if_pos hz], hs, fun i x hx => ?_⟩
      have : (cs.take r).drop l = [] := List.drop_eq_nil_of_le (by simp; omega)
      rw [this] at hx
      simp at hx
    · refine .inr ⟨a.add (l * sz), by rw [if_neg hz]; rfl, by unfold Addr.add; split <;> simp [hs], fun i x hx j u hu => ?_⟩
      have hb : (a.add (l * sz)).block = a.block := by unfold Addr.add; split <;> rfl
      have ho : (a.add (l * sz)).off = a.off + l * sz := by unfold Addr.add; split <;> simp_all
      rw [List.getElem?_drop, List.getElem?_take] at hx
      split at hx
      · have := hcell (l + i) x hx j u hu
        rw [hb, ho]
        rw [Nat.add_mul] at this
        rw [show a.off + l * sz + (i * sz + j) = a.off + (l * sz + i * sz + j) from by omega]
        exact this
      · cases hx

section
variable {X : Cx} {ops : Array Oper} {S : World → Prop} {Q : Exit → Act → World → Prop} {rest : List (Oper × Bool)} {F : Frm} {L : List Ent}
variable {e : Bool} {d : Nat} {g : Bool} {ty : TypeId} {pos : String} {af : Array Edge} {gd : Option (Nat × Bool)}

theorem r_indexAddr {x y : Operand} {t el : TypeId} {A : Option Addr} {n c sz : Nat} {cs : List (List Value)} {k : IntKind} {i : Int} (ht : SlS X.P t el sz) (hs : Sees X e S L (slE A n c sz cs)) (hg : Gd ops F gd g)
    (hx : Ev F x g (.slice A n c)) (hy : Ev F y g (.int k i)) (hb : g = true → 0 ≤ i ∧ i < n) (hn : Nat.blt d X.n = true) (hk : noKey d F = true) : 
    TL X ops S Q rest ((d, g, .pointer (some (elA A (i.toNat * sz + 0)))) :: F) L → TL X ops S Q ((⟨some d, .indexAddr t x y, ty, pos, af, gd⟩, e) :: rest) F L :=
  tl_read rfl hg (fun a ha hgt w hw => by
    obtain ⟨h1, h2, h3, h4, h5⟩ := (hs w hw).ok
    have h6 := hb hgt
    rcases h5 with ⟨hA, hn', hc⟩ | ⟨a, hA, hsp, hcell⟩
    · omega
    · subst hA
      have : a.add (i.toNat * sz) = elA (some a) (i.toNat * sz + 0) := by
        obtain ⟨b, o, s⟩ := a
        simp only at hsp
        subst hsp
        simp [add_plain, elA]
      simp [execOp, hx.eval ha hgt, hy.eval ha hgt, Instr.indexAt, asIntOf, run_underlying ht.und, h6, ht.size, this]) hn hk
theorem r_loadEl {x : Operand} {t : TypeId} {agg : Bool} {m : Nat} {A : Option Addr} {n c sz i o : Nat} {cs : List (List Value)} {cl : List Value} (l : List Value) {v : Value} (ht : TyS X.P t agg m) (hs : Sees X e S L (slE A n c sz cs)) (hg : Gd ops F gd g)
    (hx : Ev F x g (.pointer (some (elA A (i * sz + o))))) (hc : g = true → cs[i]? = some cl) (hl : (cl.drop o).take m = l) (hn' : l.length = m) (hp : Part agg l v) (hn : Nat.blt d X.n = true) (hk : noKey d F = true) : 
    TL X ops S Q rest ((d, g, v) :: F) L → TL X ops S Q ((⟨some d, .load t x, ty, pos, af, gd⟩, e) :: rest) F L :=
  tl_read rfl hg (fun a ha hgt w hw => by
    obtain ⟨h1, h2, h3, h4, h5⟩ := (hs w hw).ok
    have hc := hc hgt
    have h0 := (List.getElem?_eq_some_iff.1 hc).1
    rcases h5 with ⟨hA, hn', hc'⟩ | ⟨ad, hA, hsp, hcell⟩
    · omega
    · subst hA
      have h6 : (loadVar t ⟨ad.block, ad.off + (i * sz + o), none⟩).run X.P w = .ok v w := hp.run ht hn' fun j u hu => by
        rw [← hl, List.getElem?_take] at hu
        split at hu
        · rw [List.getElem?_drop] at hu
          rw [Nat.add_assoc, Nat.add_assoc]
          exact hcell i cl hc (o + j) u hu
        · cases hu
      simp [execOp, hx.eval ha hgt, Instr.loadAt, Instr.sureAddr, elA, h6]) hn hk
theorem r_fieldAddrEl {x : Operand} {t : TypeId} {i : Nat} {agg : Bool} {off m : Nat} {A : Option Addr} {n c sz k o : Nat} {cs : List (List Value)} (hf : FdS X.P t i agg off m) (hs : Sees X e S L (slE A n c sz cs)) (h0 : g = true → 0 < n) (hg : Gd ops F gd g)
    (hx : Ev F x g (.pointer (some (elA A (k + o))))) (hn : Nat.blt d X.n = true) (hk : noKey d F = true) : 
    TL X ops S Q rest ((d, g, .pointer (some (elA A (k + (o + off))))) :: F) L → TL X ops S Q ((⟨some d, .fieldAddr t x i, ty, pos, af, gd⟩, e) :: rest) F L :=
  tl_read rfl hg (fun a ha hgt w hw => by
    obtain ⟨h1, h2, h3, h4, h5⟩ := (hs w hw).ok
    obtain ⟨fs, f, h1, h2, h3, h4⟩ := hf.field
    subst h3
    have h6 := hf.pos
    have hA : A ≠ none := by
      rintro rfl
      rcases h5 with ⟨_, hn', _⟩ | ⟨ad, hA, _⟩
      · have := h0 hgt; omega
      · cases hA
    simp [execOp, hx.eval ha hgt, Instr.fieldAt, run_underlying h1, h2, Instr.sureAddr, fieldPlace, h4.sizeR, h6, elA_add _ _ _ hA, Nat.add_assoc]) hn hk
theorem r_lenSl {x : Operand} {t : TypeId} {el : TypeId} {A : Option Addr} {n c : Nat} (ht : X.P.underlying t = some (.slice el)) (hg : Gd ops F gd g) (hx : Ev F x g (.slice A n c)) (hn : Nat.blt d X.n = true) (hk : noKey d F = true) :
    
    TL X ops S Q rest ((d, g, .int .i64 (n : Int)) :: F) L → TL X ops S Q ((⟨some d, .call ⟨.builtin .len, #[x], #[t]⟩, ty, pos, af, gd⟩, e) :: rest) F L :=
  tl_pure rfl hg (fun a ha hgt w => by simp [execOp, resolve, invoke, builtin, hx.eval ha hgt, Builtin.len_, run_underlying ht, goInt]) hn hk
theorem r_lenStr {x : Operand} {t : TypeId} {s : ByteArray} (ht : X.P.underlying t = some .string) (hg : Gd ops F gd g) (hx : Ev F x g (.string s)) (hn : Nat.blt d X.n = true) (hk : noKey d F = true) :
    
    TL X ops S Q rest ((d, g, .int .i64 (s.size : Int)) :: F) L → TL X ops S Q ((⟨some d, .call ⟨.builtin .len, #[x], #[t]⟩, ty, pos, af, gd⟩, e) :: rest) F L :=
  tl_pure rfl hg (fun a ha hgt w => by simp [execOp, resolve, invoke, builtin, hx.eval ha hgt, Builtin.len_, run_underlying ht, goInt]) hn hk
theorem r_max {x y : Operand} {tys : Array TypeId} {k j : IntKind} {m n : Int} (c : Int) (hg : Gd ops F gd g) (hx : Ev F x g (.int k m)) (hy : Ev F y g (.int j n)) (hc : (if n > m then n else m) = c) (hn : Nat.blt d X.n = true) (hk : noKey d F = true) :
    
    TL X ops S Q rest ((d, g, .int k c) :: F) L → TL X ops S Q ((⟨some d, .call ⟨.builtin .max, #[x, y], tys⟩, ty, pos, af, gd⟩, e) :: rest) F L :=
  tl_pure rfl hg (fun a ha hgt w => by subst hc; simp [execOp, resolve, invoke, builtin, hx.eval ha hgt, hy.eval ha hgt, Builtin.max_, Builtin.max2]) hn hk
theorem r_min {x y : Operand} {tys : Array TypeId} {k j : IntKind} {m n : Int} (c : Int) (hg : Gd ops F gd g) (hx : Ev F x g (.int k m)) (hy : Ev F y g (.int j n)) (hc : (if n < m then n else m) = c) (hn : Nat.blt d X.n = true) (hk : noKey d F = true) :
    
    TL X ops S Q rest ((d, g, .int k c) :: F) L → TL X ops S Q ((⟨some d, .call ⟨.builtin .min, #[x, y], tys⟩, ty, pos, af, gd⟩, e) :: rest) F L :=
  tl_pure rfl hg (fun a ha hgt w => by subst hc; simp [execOp, resolve, invoke, builtin, hx.eval ha hgt, hy.eval ha hgt, Builtin.min_, Builtin.min2]) hn hk
/-- s[lo:hi] of a slice that is read -/
theorem r_slice {x : Operand} {t el : TypeId} {A : Option Addr} {n c sz : Nat} {lo hi : Option Operand} {l r : Nat} (ht : SlS X.P t el sz) (hg : Gd ops F gd g) (hx : Ev F x g (.slice A n c))
    (hlo : match lo with | none => l = 0 | some y => ∃ k, Ev F y g (.int k (l : Int))) (hhi : match hi with | none => r = n | some y => ∃ k, Ev F y g (.int k (r : Int)))
    (hlr : g = true → l ≤ r) (hr : g = true → r ≤ c) (hn : Nat.blt d X.n = true) (hk : noKey d F = true) :
    
    TL X ops S Q rest ((d, g, .slice (if c - l = 0 then A else A.map (·.add (l * sz))) (r - l) (c - l)) :: F) L → TL X ops S Q ((⟨some d, .slice t x lo hi none, ty, pos, af, gd⟩, e) :: rest) F L :=
  tl_pure rfl hg (fun a ha hgt w => by
    have h1 := hlr hgt
    have h2 := hr hgt
    have e1 : (c = l) = (c - l = 0) := by simp; omega
    cases lo with
    | none =>
      simp only at hlo
      subst hlo
      cases hi with
      | none =>
        simp only at hhi
        subst hhi
        simp [execOp, hx.eval ha hgt, Instr.sliceAt, Instr.slice, run_underlying ht.und, Instr.sliceBounds, ht.size]
      | some y =>
        obtain ⟨k, hy⟩ := hhi
        simp [execOp, hx.eval ha hgt, hy.eval ha hgt, Instr.sliceAt, Instr.slice, run_underlying ht.und, Instr.sliceBounds, Instr.sliceBound, asIntOf, ht.size, h2]
    | some z =>
      obtain ⟨k', hz⟩ := hlo
      cases hi with
      | none =>
        simp only at hhi
        subst hhi
        simp [execOp, hx.eval ha hgt, hz.eval ha hgt, Instr.sliceAt, Instr.slice, run_underlying ht.und, Instr.sliceBounds, Instr.sliceBound, asIntOf, ht.size, h1, e1]
      | some y =>
        obtain ⟨k, hy⟩ := hhi
        simp [execOp, hx.eval ha hgt, hy.eval ha hgt, hz.eval ha hgt, Instr.sliceAt, Instr.slice, run_underlying ht.und, Instr.sliceBounds, Instr.sliceBound, asIntOf, ht.size, h1, h2, e1]) hn hk
end
end Go.Sep
