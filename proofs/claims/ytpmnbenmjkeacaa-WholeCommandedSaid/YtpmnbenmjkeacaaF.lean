/- A part of the proof of this claim's statement: contracts and walks. -/
import Derived.Test.YtpmnbenmjkeacaaE
set_option linter.unusedVariables false
set_option maxHeartbeats 1000000
namespace Go.Proofs.Ytpmnbenmjkeacaa
open Go Go.RowKit Go.Sep

/-! The state as it is kept by hand, and what holds between two things that happen. -/
structure Un where
  clock : Int
  num : Int
  en : Int
  id : Int
  asks : List (Int × Int)
  bN : Nat
  bS : Nat
  c : Nat
  mb : Nat
  A : Option Addr
structure Sy where
  clock : Int
  wants : Int
  lease : Int
  of : Int
  since : Int
  gl : List Int
  us : List Un
  ws : List (Int × Int × Int)

/-- an end that a unit may come to -/
def Pot (long : Int) (ws : List (Int × Int × Int)) (u : Un) (e : Int) : Prop := e = u.en ∨ ∃ m at_, (m, at_) ∈ u.asks ∧ (2, u.id, m) ∈ ws ∧ e = at_ + long
structure UnOk (long r b : Int) (u : Un) : Prop where
  clk : 0 ≤ u.clock ∧ u.clock ≤ b
  num : 0 ≤ u.num ∧ u.num ≤ r
  en : 0 ≤ u.en ∧ u.en ≤ b + long
  asks : ∀ p ∈ u.asks, 1 ≤ p.1 ∧ p.1 ≤ u.num ∧ 0 ≤ p.2 ∧ p.2 ≤ u.clock
  up : u.asks.Pairwise fun p q => p.1 < q.1
  len : (u.asks.length : Int) ≤ r
structure Ok (n : Nat) (long r b : Int) (s : Sy) : Prop where
  gllen : s.gl.length = n + 1
  uslen : s.us.length = n
  wslen : (s.ws.length : Int) ≤ r
  ids : ∀ (i : Nat) (u : Un), s.us[i]? = some u → u.id = (i : Int) + 1
  clk : 0 ≤ s.clock ∧ s.clock ≤ b
  snc : 0 ≤ s.since ∧ s.since ≤ s.clock
  wnt : 0 ≤ s.wants ∧ s.wants ≤ n
  lse : -1 ≤ s.lease ∧ s.lease ≤ n
  glb : ∀ (i : Nat) (g : Int), s.gl[i]? = some g → 0 ≤ g ∧ g ≤ r
  un : ∀ (i : Nat) (u : Un), s.us[i]? = some u → UnOk long r b u
  wok : ∀ k x m, (k, x, m) ∈ s.ws → (k = 1 ∨ k = 2 ∨ k = 3) ∧ 1 ≤ x ∧ x ≤ n ∧ 1 ≤ m ∧ m ≤ r
  wnum : ∀ k x m, (k, x, m) ∈ s.ws → ∀ (i : Nat) (u : Un), s.us[i]? = some u → u.id = x → m ≤ u.num
  grants : ∀ x m, (2, x, m) ∈ s.ws → (∀ (i : Nat) (g : Int), s.gl[i]? = some g → (i : Int) = x → m ≤ g) ∧ (s.lease = x → m ≤ s.of)
  rets : ∀ x m, (3, x, m) ∈ s.ws → ∀ (i : Nat) (u : Un), s.us[i]? = some u → u.id = x → (∀ p ∈ u.asks, m < p.1) ∧ ((∀ m', (2, x, m') ∈ s.ws → m' ≤ m) → u.en ≤ u.clock)
  hold : ∃ h : Int, ∀ (i : Nat) (u : Un), s.us[i]? = some u → ∀ e, Pot long s.ws u e → e ≤ u.clock ∨ (u.id = h ∧ (s.lease = h ∨ s.lease = -1) ∧ e - u.clock ≤ s.since + long - s.clock)

theorem UnOk.mono {long r b r' b' : Int} {u : Un} (h : UnOk long r b u) (hr : r ≤ r') (hb : b ≤ b') : UnOk long r' b' u :=
  ⟨⟨h.clk.1, by have := h.clk.2; omega⟩, ⟨h.num.1, by have := h.num.2; omega⟩, ⟨h.en.1, by have := h.en.2; omega⟩, h.asks, h.up, by have := h.len; omega⟩
theorem Ok.mono {n : Nat} {long r b r' b' : Int} {s : Sy} (h : Ok n long r b s) (hr : r ≤ r') (hb : b ≤ b') : Ok n long r' b' s :=
  { h with
    wslen := by have := h.wslen; omega
    clk := ⟨h.clk.1, by have := h.clk.2; omega⟩
    glb := fun i g hg => ⟨(h.glb i g hg).1, by have := (h.glb i g hg).2; omega⟩
    un := fun i u hu => (h.un i u hu).mono hr hb
    wok := fun k x m hm => by have := h.wok k x m hm; exact ⟨this.1, this.2.1, this.2.2.1, this.2.2.2.1, by omega⟩ }

/-- a unit that is set -/
theorem set_get {α : Type} {l : List α} {i j : Nat} {x y : α} (h : (l.set i x)[j]? = some y) : (j = i ∧ y = x ∧ i < l.length) ∨ (j ≠ i ∧ l[j]? = some y) := by
  rw [List.getElem?_set] at h
  split at h
  · rename_i hij
    split at h
    · rename_i hlt; exact .inl ⟨hij.symm, by cases h; rfl, hlt⟩
    · cases h
  · rename_i hij; exact .inr ⟨fun e => hij e.symm, h⟩

/-- One unit is changed, words may come: what is to be shown of that unit. -/
theorem Ok.unit {n : Nat} {long r b : Int} {s : Sy} (h : Ok n long r b s) {i : Nat} {u v : Un} (hu : s.us[i]? = some u) (hid : v.id = u.id) (hv : UnOk long r b v) (hnum : u.num ≤ v.num)
    (hret : ∀ m, (3, u.id, m) ∈ s.ws → (∀ p ∈ v.asks, m < p.1) ∧ ((∀ m', (2, u.id, m') ∈ s.ws → m' ≤ m) → v.en ≤ v.clock))
    (hh : ∀ e, Pot long s.ws v e → e ≤ v.clock ∨ ∃ e', Pot long s.ws u e' ∧ e - v.clock ≤ e' - u.clock) : Ok n long r b { s with us := s.us.set i v } where
  gllen := h.gllen
  uslen := by simp [h.uslen]
  wslen := h.wslen
  ids := fun j w hw => by
    rcases set_get hw with ⟨rfl, rfl, _⟩ | ⟨_, hw⟩
    · rw [hid]; exact h.ids _ _ hu
    · exact h.ids _ _ hw
  clk := h.clk
  snc := h.snc
  wnt := h.wnt
  lse := h.lse
  glb := h.glb
  un := fun j w hw => by
    rcases set_get hw with ⟨rfl, rfl, _⟩ | ⟨_, hw⟩
    · exact hv
    · exact h.un _ _ hw
  wok := h.wok
  wnum := fun k x m hm j w hw hx => by
    rcases set_get hw with ⟨rfl, rfl, _⟩ | ⟨_, hw⟩
    · exact Int.le_trans (h.wnum k x m hm _ _ hu (hid ▸ hx)) hnum
    · exact h.wnum k x m hm _ _ hw hx
  grants := h.grants
  rets := fun x m hm j w hw hx => by
    rcases set_get hw with ⟨rfl, rfl, _⟩ | ⟨_, hw⟩
    · rw [hid] at hx; subst hx; exact hret m hm
    · exact h.rets x m hm _ _ hw hx
  hold := by
    obtain ⟨hd, hh0⟩ := h.hold
    refine ⟨hd, fun j w hw e he => ?_⟩
    rcases set_get hw with ⟨rfl, rfl, _⟩ | ⟨_, hw⟩
    · rcases hh e he with h1 | ⟨e', h1, h2⟩
      · exact .inl h1
      · rcases hh0 _ _ hu e' h1 with h3 | ⟨h3, h4, h5⟩
        · exact .inl (by omega)
        · exact .inr ⟨hid.trans h3, h4, by dsimp only; omega⟩
    · exact hh0 _ _ hw e he

/-- An Ask or a Return is said. -/
theorem Ok.say {n : Nat} {long r b : Int} {s : Sy} (h : Ok n long r b s) {k x m : Int} (hk : k = 1 ∨ k = 3) (hx : 1 ≤ x ∧ x ≤ n) (hm : 1 ≤ m ∧ m ≤ r)
    (hnum : ∀ (i : Nat) (u : Un), s.us[i]? = some u → u.id = x → m ≤ u.num ∧ (k = 3 → u.asks = [] ∧ u.en ≤ u.clock)) (hr : (s.ws.length : Int) + 1 ≤ r) : Ok n long r b { s with ws := s.ws ++ [(k, x, m)] } := by
  have hmem : ∀ {k' x' m' : Int}, (k', x', m') ∈ s.ws ++ [(k, x, m)] → (k', x', m') ∈ s.ws ∨ (k' = k ∧ x' = x ∧ m' = m) := fun hm' => by
    rcases List.mem_append.1 hm' with h1 | h1
    · exact .inl h1
    · exact .inr (by simpa using h1)
  have h2 : ∀ {x' m' : Int}, ((2 : Int), x', m') ∈ s.ws ++ [(k, x, m)] → ((2 : Int), x', m') ∈ s.ws := fun hm' => by
    rcases hmem hm' with h1 | ⟨h1, _⟩
    · exact h1
    · omega
  exact { h with
    wslen := by simp; omega
    wok := fun k' x' m' hm' => by
      rcases hmem hm' with h1 | ⟨rfl, rfl, rfl⟩
      · exact h.wok _ _ _ h1
      · exact ⟨by omega, hx.1, hx.2, hm.1, hm.2⟩
    wnum := fun k' x' m' hm' i u hu hi => by
      rcases hmem hm' with h1 | ⟨rfl, rfl, rfl⟩
      · exact h.wnum _ _ _ h1 i u hu hi
      · exact (hnum i u hu hi).1
    grants := fun x' m' hm' => h.grants x' m' (h2 hm')
    rets := fun x' m' hm' i u hu hi => by
      rcases hmem hm' with h1 | ⟨h1, rfl, rfl⟩
      · refine ⟨(h.rets _ _ h1 i u hu hi).1, fun hg => (h.rets _ _ h1 i u hu hi).2 fun m'' hm'' => hg m'' (List.mem_append_left _ hm'')⟩
      · obtain ⟨ha, he⟩ := (hnum i u hu hi).2 h1.symm
        rw [ha]
        exact ⟨fun p hp => (by cases hp), fun _ => he⟩
    hold := by
      obtain ⟨hd, hh⟩ := h.hold
      refine ⟨hd, fun i u hu e he => hh i u hu e ?_⟩
      rcases he with he | ⟨m', a', h1, h2', h3⟩
      · exact .inl he
      · exact .inr ⟨m', a', h1, h2 h2', h3⟩ }

/-! ### What happens -/
/-- a unit asks -/
theorem Ok.ask {n : Nat} {long r b : Int} {s : Sy} (h : Ok n long r b s) {i : Nat} {u : Un} (hu : s.us[i]? = some u) (A : Option Addr) (c : Nat) (hl : 0 ≤ long) :
    Ok n long (r + 1) b { s with us := s.us.set i { u with num := u.num + 1, asks := u.asks ++ [(u.num + 1, u.clock)], A := A, c := c }, ws := s.ws ++ [(1, u.id, u.num + 1)] } := by
  have hi := h.ids i u hu
  have hlt := (List.getElem?_eq_some_iff.1 hu).1
  rw [h.uslen] at hlt
  have hun := h.un i u hu
  have hr := h.wslen
  have h1 := (h.mono (r' := r + 1) (b' := b) (by omega) (Int.le_refl _)).unit hu (v := { u with num := u.num + 1, asks := u.asks ++ [(u.num + 1, u.clock)], A := A, c := c }) rfl
    ⟨hun.clk, by have := hun.num; exact ⟨by dsimp only; omega, by dsimp only; omega⟩, hun.en, fun p hp => by
        rcases List.mem_append.1 hp with hp | hp
        · have := hun.asks p hp; dsimp only; omega
        · obtain rfl : p = _ := by simpa using hp
          have := hun.num; have := hun.clk; dsimp only; omega,
      by
        rw [List.pairwise_append]
        refine ⟨hun.up, by simp, fun p hp q hq => ?_⟩
        obtain rfl : q = _ := by simpa using hq
        have := hun.asks p hp; dsimp only; omega,
      by have := hun.len; simp; omega⟩ (by dsimp only; omega)
    (fun m hm => ⟨fun p hp => by
        have h3 := h.rets _ m hm i u hu rfl
        rcases List.mem_append.1 hp with hp | hp
        · exact h3.1 p hp
        · obtain rfl : p = _ := by simpa using hp
          have := h.wnum _ _ m hm i u hu rfl; dsimp only; omega, (h.rets _ m hm i u hu rfl).2⟩)
    (fun e he => by
      rcases he with he | ⟨m, a, h3, h4, h5⟩
      · exact .inr ⟨e, .inl he, by dsimp only; omega⟩
      · rcases List.mem_append.1 h3 with h3 | h3
        · exact .inr ⟨e, .inr ⟨m, a, h3, h4, h5⟩, by dsimp only; omega⟩
        · have h6 := h.wnum _ _ m h4 i u hu rfl
          have : m = u.num + 1 := by have := List.mem_singleton.1 h3; cases this; rfl
          omega)
  refine h1.say (.inl rfl) (by omega) (by have := hun.num; omega) (fun j w hw hx => ?_) (by dsimp only; omega)
  rcases set_get hw with ⟨rfl, rfl, _⟩ | ⟨hne, hw⟩
  · exact ⟨by dsimp only; omega, fun h => by omega⟩
  · have := h.ids j w hw; omega
/-- a unit falls (it returns, or breaks down) -/
theorem Ok.fall {n : Nat} {long r b : Int} {s : Sy} (h : Ok n long r b s) {i : Nat} {u : Un} (hu : s.us[i]? = some u) (c mb : Nat) (A : Option Addr) (hl : 0 ≤ long) :
    Ok n long r b { s with us := s.us.set i { u with en := u.clock, asks := [], A := A, c := c, mb := mb } } := by
  have hun := h.un i u hu
  refine h.unit hu rfl ⟨hun.clk, hun.num, by have := hun.clk; dsimp only; omega, fun p hp => (by cases hp), by simp, by have := h.wslen; simp; omega⟩ (Int.le_refl _) (fun m hm => ⟨fun p hp => (by cases hp), fun _ => Int.le_refl _⟩) fun e he => ?_
  rcases he with he | ⟨m, a, h3, _⟩
  · exact .inl (by rw [he]; exact Int.le_refl _)
  · cases h3
/-- .. and says it -/
theorem Ok.ret {n : Nat} {long r b : Int} {s : Sy} (h : Ok n long r b s) {i : Nat} {u : Un} (hu : s.us[i]? = some u) (c mb : Nat) (A : Option Addr) (hl : 0 ≤ long) (hnum : u.num ≠ 0) :
    Ok n long (r + 1) b { s with us := s.us.set i { u with en := u.clock, asks := [], A := A, c := c, mb := mb }, ws := s.ws ++ [(3, u.id, u.num)] } := by
  have hi := h.ids i u hu
  have hlt := (List.getElem?_eq_some_iff.1 hu).1
  rw [h.uslen] at hlt
  have hun := (h.un i u hu).num
  have hr := h.wslen
  refine ((h.fall hu c mb A hl).mono (r' := r + 1) (by omega) (Int.le_refl _)).say (.inr rfl) (by omega) (by omega) (fun j w hw hx => ?_) (by dsimp only; omega)
  rcases set_get hw with ⟨rfl, rfl, _⟩ | ⟨hne, hw⟩
  · exact ⟨Int.le_refl _, fun _ => ⟨rfl, Int.le_refl _⟩⟩
  · have := h.ids j w hw; omega
/-- a Grant is heard, of an ask that stands -/
theorem Ok.grant {n : Nat} {long r b : Int} {s : Sy} (h : Ok n long r b s) {i : Nat} {u : Un} {m a : Int} (hu : s.us[i]? = some u) (hw : (2, u.id, m) ∈ s.ws) (ha : (m, a) ∈ u.asks) (asks' : List (Int × Int)) (hs : asks'.Sublist u.asks) (A : Option Addr) (c : Nat) (hl : 0 ≤ long) :
    Ok n long r b { s with us := s.us.set i { u with en := max u.en (a + long), asks := asks', A := A, c := c } } := by
  have hun := h.un i u hu
  have h0 := hun.asks _ ha
  dsimp only at h0
  refine h.unit hu rfl ⟨hun.clk, hun.num, by have := hun.en; have := hun.clk; dsimp only; omega, fun p hp => hun.asks p (hs.subset hp), hun.up.sublist hs, by have := hun.len; have := hs.length_le; dsimp only; omega⟩ (Int.le_refl _)
    (fun m' hm' => ⟨fun p hp => (h.rets _ m' hm' i u hu rfl).1 p (hs.subset hp), fun hg => ?_⟩) fun e he => ?_
  · have h1 := (h.rets _ m' hm' i u hu rfl).1 _ ha
    have h2 := hg m hw
    dsimp only at h1
    omega
  · rcases he with he | ⟨m', a', h3, h4, h5⟩
    · rcases Int.le_total u.en (a + long) with h6 | h6
      · exact .inr ⟨a + long, .inr ⟨m, a, ha, hw, rfl⟩, by simp only at he ⊢; omega⟩
      · exact .inr ⟨u.en, .inl rfl, by simp only at he ⊢; omega⟩
    · exact .inr ⟨e, .inr ⟨m', a', hs.subset h3, h4, h5⟩, by dsimp only; omega⟩
/-- a unit's clock ticks -/
theorem Ok.tick1 {n : Nat} {long r b : Int} {s : Sy} (h : Ok n long r b s) {i : Nat} {u : Un} (hu : s.us[i]? = some u) : Ok n long r (b + 1) { s with us := s.us.set i { u with clock := u.clock + 1 } } := by
  have hun := h.un i u hu
  refine (h.mono (Int.le_refl _) (by omega)).unit hu rfl ⟨by have := hun.clk; dsimp only; omega, hun.num, by have := hun.en; dsimp only; omega, fun p hp => by have := hun.asks p hp; dsimp only; omega, hun.up, hun.len⟩ (Int.le_refl _)
    (fun m hm => ⟨(h.rets _ m hm i u hu rfl).1, fun hg => by have := (h.rets _ m hm i u hu rfl).2 hg; dsimp only; omega⟩) fun e he => .inr ⟨e, he, by dsimp only; omega⟩
/-- the greatest number of a node grows -/
theorem Ok.glset {n : Nat} {long r b : Int} {s : Sy} (h : Ok n long r b s) {i : Nat} {g m : Int} (hg : s.gl[i]? = some g) (hm : g ≤ m ∧ m ≤ r) : Ok n long r b { s with gl := s.gl.set i m } :=
  { h with
    gllen := by simp [h.gllen]
    glb := fun j g' hg' => by
      rcases set_get hg' with ⟨rfl, rfl, _⟩ | ⟨_, hg'⟩
      · have := h.glb _ _ hg; omega
      · exact h.glb _ _ hg'
    grants := fun x m' hm' => ⟨fun j g' hg' hj => by
      rcases set_get hg' with ⟨rfl, rfl, _⟩ | ⟨_, hg'⟩
      · have := (h.grants x m' hm').1 _ _ hg hj; omega
      · exact (h.grants x m' hm').1 _ _ hg' hj, (h.grants x m' hm').2⟩ }
/-- the lease is given -/
theorem Ok.give {n : Nat} {long r b : Int} {s : Sy} (h : Ok n long r b s) {i : Nat} {g m : Int} (hg : s.gl[i]? = some g) (hw : (1, (i : Int), m) ∈ s.ws) (hm : g < m) (hl : s.lease = 0 ∨ s.lease = i) (hlong : 0 ≤ long) :
    Ok n long (r + 1) b { s with gl := s.gl.set i m, lease := i, of := m, since := s.clock, ws := s.ws ++ [(2, (i : Int), m)] } := by
  have h0 := h.wok _ _ _ hw
  have hr := h.wslen
  have hmem : ∀ {k' x' m' : Int}, (k', x', m') ∈ s.ws ++ [(2, (i : Int), m)] → (k', x', m') ∈ s.ws ∨ (k' = 2 ∧ x' = i ∧ m' = m) := fun hm' => by
    rcases List.mem_append.1 hm' with h1 | h1
    · exact .inl h1
    · exact .inr (by simpa using h1)
  have hg0 := h.glb i g hg
  have hgs := (h.glset hg (m := m) ⟨by omega, by omega⟩).mono (r' := r + 1) (b' := b) (by omega) (Int.le_refl _)
  exact { hgs with
    wslen := by simp; omega
    snc := ⟨h.clk.1, Int.le_refl _⟩
    lse := ⟨by dsimp only; omega, h0.2.2.1⟩
    wok := fun k' x' m' hm' => by
      rcases hmem hm' with h1 | ⟨rfl, rfl, rfl⟩
      · exact hgs.wok _ _ _ h1
      · exact ⟨by omega, h0.2.1, h0.2.2.1, h0.2.2.2.1, by omega⟩
    wnum := fun k' x' m' hm' j u hu hi => by
      rcases hmem hm' with h1 | ⟨rfl, rfl, rfl⟩
      · exact h.wnum _ _ _ h1 j u hu hi
      · exact h.wnum _ _ _ hw j u hu hi
    grants := fun x' m' hm' => by
      rcases hmem hm' with h1 | ⟨_, rfl, rfl⟩
      · refine ⟨(hgs.grants x' m' h1).1, fun hx => ?_⟩
        have := (h.grants x' m' h1).1 i g hg hx
        dsimp only; omega
      · refine ⟨fun j g' hg' hj => ?_, fun _ => Int.le_refl _⟩
        have hji : j = i := by omega
        subst hji
        rcases set_get hg' with ⟨_, rfl, _⟩ | ⟨hne, _⟩
        · exact Int.le_refl _
        · exact absurd rfl hne
    rets := fun x' m' hm' j u hu hi => by
      rcases hmem hm' with h1 | ⟨h1, _⟩
      · exact ⟨(h.rets _ _ h1 j u hu hi).1, fun hgr => (h.rets _ _ h1 j u hu hi).2 fun m'' hm'' => hgr m'' (List.mem_append_left _ hm'')⟩
      · omega
    hold := by
      obtain ⟨hd, hh⟩ := h.hold
      refine ⟨(i : Int), fun j u hu e he => ?_⟩
      have hid := h.ids j u hu
      have old : Pot long s.ws u e → e ≤ u.clock ∨ (u.id = (i : Int) ∧ ((i : Int) = i ∨ (i : Int) = -1) ∧ e - u.clock ≤ s.clock + long - s.clock) := fun hp => by
        rcases hh j u hu e hp with h1 | ⟨h1, h2, h3⟩
        · exact .inl h1
        · have := h.snc
          exact .inr ⟨by omega, .inl rfl, by omega⟩
      rcases he with he | ⟨m', a', h1, h2, h3⟩
      · exact old (.inl he)
      · rcases hmem h2 with h4 | ⟨_, h4, rfl⟩
        · exact old (.inr ⟨m', a', h1, h4, h3⟩)
        · have := (h.un j u hu).asks _ h1
          exact .inr ⟨h4, .inl rfl, by dsimp only at this ⊢; omega⟩ }
/-- nobody has a lease any more -/
theorem Ok.freed {n : Nat} {long r b : Int} {s : Sy} (h : Ok n long r b s) (hall : ∀ (i : Nat) (u : Un), s.us[i]? = some u → ∀ e, Pot long s.ws u e → e ≤ u.clock) : Ok n long r b { s with lease := 0, of := 0, since := 0 } :=
  { h with
    snc := ⟨Int.le_refl _, h.clk.1⟩
    lse := ⟨by dsimp only; omega, by dsimp only; omega⟩
    grants := fun x m hm => ⟨(h.grants x m hm).1, fun hx => by have := (h.wok _ _ _ hm).2.1; dsimp only at hx; omega⟩
    hold := ⟨0, fun i u hu e he => .inl (hall i u hu e he)⟩ }
/-- .. a Return is heard -/
theorem Ok.back {n : Nat} {long r b : Int} {s : Sy} (h : Ok n long r b s) {x m : Int} (hw : (3, x, m) ∈ s.ws) (hl : s.lease = x) (ho : s.of ≤ m) : Ok n long r b { s with lease := 0, of := 0, since := 0 } := by
  have h0 := h.wok _ _ _ hw
  refine h.freed fun i u hu e he => ?_
  obtain ⟨hd, hh⟩ := h.hold
  rcases hh i u hu e he with h1 | ⟨h1, h2, h3⟩
  · exact h1
  · have hx : u.id = x := by omega
    have hgr : ∀ m', (2, x, m') ∈ s.ws → m' ≤ m := fun m' hm' => by have := (h.grants x m' hm').2 hl; omega
    have hr := h.rets x m hw i u hu hx
    rcases he with he | ⟨m', a', h4, h5, h6⟩
    · rw [he]; exact hr.2 hgr
    · rw [hx] at h5
      have h7 := hgr m' h5
      have h8 := hr.1 _ h4
      dsimp only at h8
      omega
/-- .. its time is over -/
theorem Ok.over {n : Nat} {long r b W : Int} {s : Sy} (h : Ok n long r b s) (hW : long < W) (ho : s.since + W ≤ s.clock) : Ok n long r b { s with lease := 0, of := 0, since := 0 } := by
  refine h.freed fun i u hu e he => ?_
  obtain ⟨hd, hh⟩ := h.hold
  rcases hh i u hu e he with h1 | ⟨_, _, h3⟩
  · exact h1
  · omega
/-- the centre breaks down -/
theorem Ok.broke {n : Nat} {long r b : Int} {s : Sy} (h : Ok n long r b s) : Ok n long r b { s with lease := -1, of := 0, since := s.clock } :=
  { h with
    snc := ⟨h.clk.1, Int.le_refl _⟩
    lse := ⟨Int.le_refl _, by dsimp only; omega⟩
    grants := fun x m hm => ⟨(h.grants x m hm).1, fun hx => by have := (h.wok _ _ _ hm).2.1; dsimp only at hx; omega⟩
    hold := by
      obtain ⟨hd, hh⟩ := h.hold
      refine ⟨hd, fun i u hu e he => ?_⟩
      rcases hh i u hu e he with h1 | ⟨h1, h2, h3⟩
      · exact .inl h1
      · have := h.snc
        exact .inr ⟨h1, .inr rfl, by dsimp only; omega⟩ }
/-- another one is wanted -/
theorem Ok.want {n : Nat} {long r b : Int} {s : Sy} (h : Ok n long r b s) {x : Int} (hx : 0 ≤ x ∧ x ≤ n) : Ok n long r b { s with wants := x } := { h with wnt := hx }
/-- all clocks tick -/
def Un.tk (u : Un) : Un := { u with clock := u.clock + 1 }
theorem Ok.tickAll {n : Nat} {long r b : Int} {s : Sy} (h : Ok n long r b s) : Ok n long r (b + 1) { s with clock := s.clock + 1, us := s.us.map Un.tk } := by
  have hget : ∀ {i : Nat} {v : Un}, (s.us.map Un.tk)[i]? = some v → ∃ u, s.us[i]? = some u ∧ v = u.tk := fun {i v} hv => by
    rw [List.getElem?_map] at hv
    cases hu : s.us[i]? with
    | none => rw [hu] at hv; cases hv
    | some u => rw [hu] at hv; cases hv; exact ⟨u, rfl, rfl⟩
  exact { h with
    uslen := by simp [h.uslen]
    ids := fun i v hv => by obtain ⟨u, hu, rfl⟩ := hget hv; exact h.ids i u hu
    clk := ⟨by have := h.clk; dsimp only; omega, by have := h.clk; dsimp only; omega⟩
    snc := ⟨h.snc.1, by have := h.snc; dsimp only; omega⟩
    un := fun i v hv => by
      obtain ⟨u, hu, rfl⟩ := hget hv
      have hun := h.un i u hu
      exact ⟨by have := hun.clk; dsimp only [Un.tk]; omega, hun.num, by have := hun.en; dsimp only [Un.tk]; omega, fun p hp => by have := hun.asks p hp; dsimp only [Un.tk]; omega, hun.up, hun.len⟩
    wnum := fun k x m hm i v hv hx => by obtain ⟨u, hu, rfl⟩ := hget hv; exact h.wnum k x m hm i u hu hx
    rets := fun x m hm i v hv hx => by
      obtain ⟨u, hu, rfl⟩ := hget hv
      exact ⟨(h.rets x m hm i u hu hx).1, fun hg => by have := (h.rets x m hm i u hu hx).2 hg; dsimp only [Un.tk]; omega⟩
    hold := by
      obtain ⟨hd, hh⟩ := h.hold
      refine ⟨hd, fun i v hv e he => ?_⟩
      obtain ⟨u, hu, rfl⟩ := hget hv
      rcases hh i u hu e he with h1 | ⟨h1, h2, h3⟩
      · exact .inl (by dsimp only [Un.tk]; omega)
      · exact .inr ⟨h1, h2, by dsimp only [Un.tk]; omega⟩ }
def tickTo (i : Nat) (us : List Un) : List Un := (us.take i).map Un.tk ++ us.drop i
theorem tickTo_zero (us : List Un) : tickTo 0 us = us := by simp [tickTo]
theorem tickTo_all (us : List Un) : tickTo us.length us = us.map Un.tk := by simp [tickTo]
theorem tickTo_length (i : Nat) (us : List Un) : (tickTo i us).length = us.length := by simp [tickTo]; omega
theorem tickTo_get {i : Nat} {us : List Un} {u : Un} (h : us[i]? = some u) : (tickTo i us)[i]? = some u := by
  have hlt := (List.getElem?_eq_some_iff.1 h).1
  unfold tickTo
  rw [List.getElem?_append_right (by simp; omega)]
  simp [Nat.min_eq_left (Nat.le_of_lt hlt), h]
theorem tickTo_succ {i : Nat} {us : List Un} {u : Un} (h : us[i]? = some u) : tickTo (i + 1) us = (tickTo i us).set i u.tk := by
  have hlt := (List.getElem?_eq_some_iff.1 h).1
  apply List.ext_getElem?
  intro j
  rw [List.getElem?_set, tickTo_length]
  unfold tickTo
  rw [List.getElem?_append, List.getElem?_append]
  simp only [List.length_map, List.length_take, List.getElem?_map, List.getElem?_take, List.getElem?_drop, Nat.min_eq_left (Nat.le_of_lt hlt), Nat.min_eq_left (Nat.succ_le_of_lt hlt)]
  by_cases hij : i = j
  · subst hij
    simp [hlt, (List.getElem?_eq_some_iff.1 h).2]
  · rw [if_neg hij]
    by_cases h1 : j < i
    · rw [if_pos (by omega), if_pos h1, if_pos (by omega), if_pos h1]
    · rw [if_neg (by omega), if_neg h1]
      congr 1; omega
/-! ### No two hold -/
def Un.holds (u : Un) : Bool := decide (u.clock < u.en)
theorem filter_le_one {α : Type} {p : α → Bool} : ∀ {l : List α}, (∀ (i j : Nat) (x y : α), l[i]? = some x → l[j]? = some y → p x = true → p y = true → i = j) → (l.filter p).length ≤ 1
  | [], _ => by simp
  | x :: l, h => by
    by_cases hx : p x = true
    · have : l.filter p = [] := by
        rw [List.filter_eq_nil_iff]
        intro y hy hpy
        obtain ⟨j, hj⟩ := List.mem_iff_getElem?.1 hy
        have := h 0 (j + 1) x y rfl (by simpa using hj) hx hpy
        omega
      simp [hx, this]
    · rw [List.filter_cons_of_neg hx]
      exact filter_le_one fun i j a b ha hb pa pb => by have := h (i + 1) (j + 1) a b (by simpa using ha) (by simpa using hb) pa pb; omega
theorem Ok.one {n : Nat} {long r b : Int} {s : Sy} (h : Ok n long r b s) : (if s.lease = 0 then 1 else 0 : Int) + ((s.us.filter Un.holds).length : Int) ≤ 1 := by
  obtain ⟨hd, hh⟩ := h.hold
  have key : ∀ (i : Nat) (u : Un), s.us[i]? = some u → u.holds = true → u.id = hd ∧ s.lease ≠ 0 := fun i u hu hp => by
    have hp : u.clock < u.en := by simpa [Un.holds] using hp
    have := h.ids i u hu
    rcases hh i u hu u.en (.inl rfl) with h1 | ⟨h1, h2, _⟩
    · omega
    · exact ⟨h1, by omega⟩
  split
  · rename_i hl
    have : s.us.filter Un.holds = [] := by
      rw [List.filter_eq_nil_iff]
      intro u hu hp
      obtain ⟨j, hj⟩ := List.mem_iff_getElem?.1 hu
      exact (key j u hj hp).2 hl
    simp [this]
  · have := filter_le_one (p := Un.holds) (l := s.us) fun i j x y hx hy px py => by
      have h1 := (key i x hx px).1
      have h2 := (key j y hy py).1
      have h3 := h.ids i x hx
      have h4 := h.ids j y hy
      omega
    omega
/-! ### The asks: as a list, as a map -/
def askM (l : List (Int × Int)) : List (Int × Value) := l.map fun p => (p.1, Value.int .i64 p.2)
theorem pickA_mem {m : Int} : ∀ {l : List (Int × Int)} {q : Nat × Int}, pickA m l = some q → l[q.1]? = some (m, q.2)
  | [], _, h => by cases h
  | p :: l, q, h => by
    simp only [pickA] at h
    split at h
    · rename_i hp
      cases h
      simp [← hp]
    · cases hl : pickA m l with
      | none => rw [hl] at h; cases h
      | some r => rw [hl] at h; cases h; simpa using pickA_mem hl
theorem look_ask (m : Int) : ∀ (l : List (Int × Int)), Sep.look m (askM l) = (pickA m l).map fun q => Value.int .i64 q.2
  | [] => rfl
  | p :: l => by
    simp only [askM, List.map_cons, Sep.look, pickA]
    split
    · rfl
    · have := look_ask m l
      simp only [askM] at this
      rw [this]
      cases pickA m l <;> rfl
theorem put_ask {m v : Int} {l : List (Int × Int)} (h : ∀ p ∈ l, p.1 < m) : Sep.put m (Value.int .i64 v) (askM l) = askM (l ++ [(m, v)]) := by
  rw [Sep.put_new]
  · simp [askM]
  · intro p hp
    obtain ⟨q, hq, rfl⟩ := List.mem_map.1 hp
    have := h q hq
    dsimp only; omega
theorem drop_ask {m : Int} : ∀ {l : List (Int × Int)} {q : Nat × Int}, l.Pairwise (fun p q => p.1 < q.1) → pickA m l = some q → l.drop (q.1 + 1) = l.filter fun p => decide (m < p.1)
  | [], _, _, h => by cases h
  | p :: l, q, hs, h => by
    simp only [pickA] at h
    rw [List.pairwise_cons] at hs
    split at h
    · rename_i hp
      cases h
      have : ∀ x ∈ l, decide (m < x.1) = true := fun x hx => by have := hs.1 x hx; simp; omega
      rw [List.filter_cons_of_neg (by simp; omega), List.filter_eq_self.2 this]
      rfl
    · cases hl : pickA m l with
      | none => rw [hl] at h; cases h
      | some r =>
        rw [hl] at h; cases h
        have h1 := pickA_mem hl
        have h2 := hs.1 _ (List.mem_of_getElem? h1)
        dsimp only at h2
        rw [List.filter_cons_of_neg (by simp; omega), ← drop_ask hs.2 hl]
        rfl
/-- what is left of the map in the midst of the walk that deletes -/
def keepM (m : Int) (left : List Int) (l : List (Int × Int)) : List (Int × Value) := askM (l.filter fun p => decide (m < p.1) || decide (p.1 ∈ left))
theorem keepM_all (m : Int) (l : List (Int × Int)) : keepM m (l.map Prod.fst) l = askM l := by
  unfold keepM
  rw [List.filter_eq_self.2]
  intro p hp
  have : p.1 ∈ l.map Prod.fst := List.mem_map.2 ⟨p, hp, rfl⟩
  simp [this]
theorem keepM_nil (m : Int) (l : List (Int × Int)) : keepM m [] l = askM (l.filter fun p => decide (m < p.1)) := by simp [keepM]
theorem mem_without {k x : Int} {left : List Int} : x ∈ Sep.without k left ↔ x ∈ left ∧ x ≠ k := by simp [Sep.without]
theorem keepM_go {m k : Int} {left : List Int} {l : List (Int × Int)} (hk : m < k) : keepM m (Sep.without k left) l = keepM m left l := by
  unfold keepM
  congr 1
  refine List.filter_congr fun p _ => ?_
  by_cases hp : p.1 = k
  · simp [hp, hk]
  · simp [mem_without, hp]
theorem keepM_del {m k : Int} {left : List Int} {l : List (Int × Int)} (hk : k ≤ m) : Sep.del k (keepM m left l) = keepM m (Sep.without k left) l := by
  unfold keepM Sep.del askM
  rw [List.filter_map, List.filter_filter]
  congr 1
  refine List.filter_congr fun p _ => ?_
  by_cases hp : p.1 = k
  · have : ¬ m < p.1 := by omega
    simp [hp, mem_without]; omega
  · simp [mem_without, hp]
theorem without_lt {k : Int} {left : List Int} (h : k ∈ left) : (Sep.without k left).length < left.length := by
  unfold Sep.without
  exact List.length_filter_lt_length_iff_exists.2 ⟨k, h, by simp⟩
end Go.Proofs.Ytpmnbenmjkeacaa
