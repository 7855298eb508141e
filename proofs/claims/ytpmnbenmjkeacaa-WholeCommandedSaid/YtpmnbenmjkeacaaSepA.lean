/- The words of a small separation calculus over the walk's own laws: frames of temporaries, resources in memory, regions in an order of my choosing, triples of code. No program is named here. -/
import Derived.OrdersHeld
import Derived.OrdersIn
import Derived.RangeFuncCalls
import Derived.RangeFuncLeaves
import Derived.Maps.Own
import Derived.Deep.Draws
import Derived.KernelRfl
import Derived.WalkKit
set_option linter.unusedVariables false
namespace Go.Sep
open Go

/-! ### 1. Frames of temporaries -/
abbrev Frm := List (Nat × Bool × Value)

structure Holds (n : Nat) (ds : List Deferred) (a : Act) (F : Frm) : Prop where
  defers : a.defers = ds
  size : a.tmps.size = n
  all : ∀ t g v, (t, g, v) ∈ F → a.tmps[t]? = some (if g then v else undef)

theorem Holds.nil {n : Nat} {ds : List Deferred} {a : Act} (hd : a.defers = ds) (hs : a.tmps.size = n) : Holds n ds a [] := ⟨hd, hs, fun _ _ _ h => by cases h⟩
theorem Holds.cons {n : Nat} {ds : List Deferred} {a : Act} {F : Frm} {t : Nat} {g : Bool} {v : Value} (h : Holds n ds a F) (h1 : a.tmps[t]? = some (if g then v else undef)) : Holds n ds a ((t, g, v) :: F) :=
  ⟨h.defers, h.size, fun t' g' v' hm => by
    rcases List.mem_cons.1 hm with e | e
    · cases e; exact h1
    · exact h.all _ _ _ e⟩
theorem Holds.sub {n : Nat} {ds : List Deferred} {a : Act} {F F' : Frm} (h : Holds n ds a F) (hs : ∀ x ∈ F', x ∈ F) : Holds n ds a F' :=
  ⟨h.defers, h.size, fun t g v hm => h.all t g v (hs _ hm)⟩

/-- temporary d is not spoken of -/
def noKey (d : Nat) : Frm → Bool
  | [] => true
  | (t, _, _) :: F => !(Nat.beq t d) && noKey d F
theorem noKey_mem {d : Nat} : ∀ {F : Frm}, noKey d F = true → ∀ {t g v}, (t, g, v) ∈ F → t ≠ d
  | [], _, _, _, _, h => by cases h
  | (t', _, _) :: F, h, t, g, v, hm => by
    simp only [noKey, Bool.and_eq_true, Bool.not_eq_true'] at h
    rcases List.mem_cons.1 hm with e | e
    · cases e
      intro he
      subst he
      simp [Nat.beq_refl] at h
    · exact noKey_mem h.2 e
theorem Holds.put {n : Nat} {ds : List Deferred} {a : Act} {F : Frm} {d : Nat} {g : Bool} {v : Value} (h : Holds n ds a F) (hn : Nat.blt d n = true) (hk : noKey d F = true) :
    Holds n ds (a.put (some d) (if g then v else undef)) ((d, g, v) :: F) := by
  have hd : d < a.tmps.size := by rw [h.size]; simpa [Nat.blt_eq] using hn
  refine ⟨h.defers, by simp [Act.put, h.size], fun t g' v' hm => ?_⟩
  rcases List.mem_cons.1 hm with e | e
  · cases e
    simp [Act.put, hd]
  · have hne := noKey_mem hk e
    simp only [Act.put]
    rw [Array.getElem?_setIfInBounds_ne (by omega)]
    exact h.all _ _ _ e
/-- a temporary is written that is spoken of: what was said of it is struck -/
inductive Del (d : Nat) : Frm → Frm → Prop
  | nil : Del d [] []
  | keep {t : Nat} {g : Bool} {v : Value} {F F' : Frm} (h : Nat.beq t d = false) (k : Del d F F') : Del d ((t, g, v) :: F) ((t, g, v) :: F')
  | drop {t : Nat} {g : Bool} {v : Value} {F F' : Frm} (k : Del d F F') : Del d ((t, g, v) :: F) F'
theorem Del.noKey {d : Nat} {F F' : Frm} (h : Del d F F') : noKey d F' = true := by
  induction h with
  | nil => rfl
  | keep h _ ih => simp [Sep.noKey, h, ih]
  | drop _ ih => exact ih
theorem Del.mem {d : Nat} {F F' : Frm} (h : Del d F F') : ∀ x ∈ F', x ∈ F := by
  induction h with
  | nil => exact fun _ h => h
  | keep h _ ih => exact fun x hx => by rcases List.mem_cons.1 hx with e | e; exact e ▸ List.mem_cons_self; exact List.mem_cons_of_mem _ (ih x e)
  | drop _ ih => exact fun x hx => List.mem_cons_of_mem _ (ih x hx)

/-- an operand's value where g -/
inductive Ev (F : Frm) : Operand → Bool → Value → Prop
  | c (v : Value) (g : Bool) : Ev F (.const v) g v
  | t {t : Nat} {v : Value} {g : Bool} (h : (t, true, v) ∈ F) : Ev F (.tmp t) g v
  | s {t : Nat} {v : Value} {g : Bool} (h : (t, g, v) ∈ F) : Ev F (.tmp t) g v
  | w {t : Nat} {v : Value} {g g' : Bool} (h : (t, g', v) ∈ F) (hg : g = true → g' = true) : Ev F (.tmp t) g v
  | f (f : Nat) (g : Bool) : Ev F (.func f) g (.func (.func f) #[] #[])
  | g (b : Nat) (g : Bool) : Ev F (.global b) g (.pointer (some ⟨b, 0, none⟩))
theorem Ev.eval {n : Nat} {ds : List Deferred} {a : Act} {F : Frm} {x : Operand} {g : Bool} {v : Value} (h : Holds n ds a F) (hx : Ev F x g v) (hg : g = true) : a.eval x = v := by
  cases hx with
  | c => rfl
  | t hm => have := h.all _ _ _ hm; simp [Act.eval, this]
  | s hm => subst hg; have := h.all _ _ _ hm; simp [Act.eval, this]
  | w hm hw => have h1 := hw hg; subst h1; have := h.all _ _ _ hm; simp [Act.eval, this]
  | f => rfl
  | g => rfl
/-- several operands -/
inductive Evs (F : Frm) (g : Bool) : List Operand → List Value → Prop
  | nil : Evs F g [] []
  | cons {x : Operand} {xs : List Operand} {v : Value} {vs : List Value} (h : Ev F x g v) (k : Evs F g xs vs) : Evs F g (x :: xs) (v :: vs)
theorem Evs.eval {n : Nat} {ds : List Deferred} {a : Act} {F : Frm} {xs : List Operand} {g : Bool} {vs : List Value} (h : Holds n ds a F) (hx : Evs F g xs vs) (hg : g = true) : xs.map a.eval = vs := by
  induction hx with
  | nil => rfl
  | cons hx _ ih => simp [Ev.eval h hx hg, ih]

/-! places in a list -/
theorem hd {α : Type} {x : α} {l : List α} : x ∈ x :: l := List.mem_cons_self
theorem tl {α : Type} {x y : α} {l : List α} (h : x ∈ l) : x ∈ y :: l := List.mem_cons_of_mem _ h
theorem m0 {α : Type} {x : α} {l : List α} : x ∈ x :: l := hd
theorem m1 {α : Type} {x y0 : α} {l : List α} : x ∈ y0 :: x :: l := tl (hd)
theorem m2 {α : Type} {x y0 y1 : α} {l : List α} : x ∈ y0 :: y1 :: x :: l := tl (tl (hd))
theorem m3 {α : Type} {x y0 y1 y2 : α} {l : List α} : x ∈ y0 :: y1 :: y2 :: x :: l := tl (tl (tl (hd)))
theorem m4 {α : Type} {x y0 y1 y2 y3 : α} {l : List α} : x ∈ y0 :: y1 :: y2 :: y3 :: x :: l := tl (tl (tl (tl (hd))))
theorem m5 {α : Type} {x y0 y1 y2 y3 y4 : α} {l : List α} : x ∈ y0 :: y1 :: y2 :: y3 :: y4 :: x :: l := tl (tl (tl (tl (tl (hd)))))
theorem m6 {α : Type} {x y0 y1 y2 y3 y4 y5 : α} {l : List α} : x ∈ y0 :: y1 :: y2 :: y3 :: y4 :: y5 :: x :: l := tl (tl (tl (tl (tl (tl (hd))))))
theorem m7 {α : Type} {x y0 y1 y2 y3 y4 y5 y6 : α} {l : List α} : x ∈ y0 :: y1 :: y2 :: y3 :: y4 :: y5 :: y6 :: x :: l := tl (tl (tl (tl (tl (tl (tl (hd)))))))
theorem m8 {α : Type} {x y0 y1 y2 y3 y4 y5 y6 y7 : α} {l : List α} : x ∈ y0 :: y1 :: y2 :: y3 :: y4 :: y5 :: y6 :: y7 :: x :: l := tl (tl (tl (tl (tl (tl (tl (tl (hd))))))))
theorem m9 {α : Type} {x y0 y1 y2 y3 y4 y5 y6 y7 y8 : α} {l : List α} : x ∈ y0 :: y1 :: y2 :: y3 :: y4 :: y5 :: y6 :: y7 :: y8 :: x :: l := tl (tl (tl (tl (tl (tl (tl (tl (tl (hd)))))))))
theorem m10 {α : Type} {x y0 y1 y2 y3 y4 y5 y6 y7 y8 y9 : α} {l : List α} : x ∈ y0 :: y1 :: y2 :: y3 :: y4 :: y5 :: y6 :: y7 :: y8 :: y9 :: x :: l := tl (tl (tl (tl (tl (tl (tl (tl (tl (tl (hd))))))))))
theorem m11 {α : Type} {x y0 y1 y2 y3 y4 y5 y6 y7 y8 y9 y10 : α} {l : List α} : x ∈ y0 :: y1 :: y2 :: y3 :: y4 :: y5 :: y6 :: y7 :: y8 :: y9 :: y10 :: x :: l := tl (tl (tl (tl (tl (tl (tl (tl (tl (tl (tl (hd)))))))))))
theorem m12 {α : Type} {x y0 y1 y2 y3 y4 y5 y6 y7 y8 y9 y10 y11 : α} {l : List α} : x ∈ y0 :: y1 :: y2 :: y3 :: y4 :: y5 :: y6 :: y7 :: y8 :: y9 :: y10 :: y11 :: x :: l := tl (tl (tl (tl (tl (tl (tl (tl (tl (tl (tl (tl (hd))))))))))))
theorem m13 {α : Type} {x y0 y1 y2 y3 y4 y5 y6 y7 y8 y9 y10 y11 y12 : α} {l : List α} : x ∈ y0 :: y1 :: y2 :: y3 :: y4 :: y5 :: y6 :: y7 :: y8 :: y9 :: y10 :: y11 :: y12 :: x :: l := tl (tl (tl (tl (tl (tl (tl (tl (tl (tl (tl (tl (tl (hd)))))))))))))
theorem m14 {α : Type} {x y0 y1 y2 y3 y4 y5 y6 y7 y8 y9 y10 y11 y12 y13 : α} {l : List α} : x ∈ y0 :: y1 :: y2 :: y3 :: y4 :: y5 :: y6 :: y7 :: y8 :: y9 :: y10 :: y11 :: y12 :: y13 :: x :: l := tl (tl (tl (tl (tl (tl (tl (tl (tl (tl (tl (tl (tl (tl (hd))))))))))))))
theorem m15 {α : Type} {x y0 y1 y2 y3 y4 y5 y6 y7 y8 y9 y10 y11 y12 y13 y14 : α} {l : List α} : x ∈ y0 :: y1 :: y2 :: y3 :: y4 :: y5 :: y6 :: y7 :: y8 :: y9 :: y10 :: y11 :: y12 :: y13 :: y14 :: x :: l := tl (tl (tl (tl (tl (tl (tl (tl (tl (tl (tl (tl (tl (tl (tl (hd)))))))))))))))
theorem m16 {α : Type} {x y0 y1 y2 y3 y4 y5 y6 y7 y8 y9 y10 y11 y12 y13 y14 y15 : α} {l : List α} : x ∈ y0 :: y1 :: y2 :: y3 :: y4 :: y5 :: y6 :: y7 :: y8 :: y9 :: y10 :: y11 :: y12 :: y13 :: y14 :: y15 :: x :: l := tl (tl (tl (tl (tl (tl (tl (tl (tl (tl (tl (tl (tl (tl (tl (tl (hd))))))))))))))))
theorem m17 {α : Type} {x y0 y1 y2 y3 y4 y5 y6 y7 y8 y9 y10 y11 y12 y13 y14 y15 y16 : α} {l : List α} : x ∈ y0 :: y1 :: y2 :: y3 :: y4 :: y5 :: y6 :: y7 :: y8 :: y9 :: y10 :: y11 :: y12 :: y13 :: y14 :: y15 :: y16 :: x :: l := tl (tl (tl (tl (tl (tl (tl (tl (tl (tl (tl (tl (tl (tl (tl (tl (tl (hd)))))))))))))))))
theorem m18 {α : Type} {x y0 y1 y2 y3 y4 y5 y6 y7 y8 y9 y10 y11 y12 y13 y14 y15 y16 y17 : α} {l : List α} : x ∈ y0 :: y1 :: y2 :: y3 :: y4 :: y5 :: y6 :: y7 :: y8 :: y9 :: y10 :: y11 :: y12 :: y13 :: y14 :: y15 :: y16 :: y17 :: x :: l := tl (tl (tl (tl (tl (tl (tl (tl (tl (tl (tl (tl (tl (tl (tl (tl (tl (tl (hd))))))))))))))))))
theorem m19 {α : Type} {x y0 y1 y2 y3 y4 y5 y6 y7 y8 y9 y10 y11 y12 y13 y14 y15 y16 y17 y18 : α} {l : List α} : x ∈ y0 :: y1 :: y2 :: y3 :: y4 :: y5 :: y6 :: y7 :: y8 :: y9 :: y10 :: y11 :: y12 :: y13 :: y14 :: y15 :: y16 :: y17 :: y18 :: x :: l := tl (tl (tl (tl (tl (tl (tl (tl (tl (tl (tl (tl (tl (tl (tl (tl (tl (tl (tl (hd)))))))))))))))))))
theorem m20 {α : Type} {x y0 y1 y2 y3 y4 y5 y6 y7 y8 y9 y10 y11 y12 y13 y14 y15 y16 y17 y18 y19 : α} {l : List α} : x ∈ y0 :: y1 :: y2 :: y3 :: y4 :: y5 :: y6 :: y7 :: y8 :: y9 :: y10 :: y11 :: y12 :: y13 :: y14 :: y15 :: y16 :: y17 :: y18 :: y19 :: x :: l := tl (tl (tl (tl (tl (tl (tl (tl (tl (tl (tl (tl (tl (tl (tl (tl (tl (tl (tl (tl (hd))))))))))))))))))))
theorem m21 {α : Type} {x y0 y1 y2 y3 y4 y5 y6 y7 y8 y9 y10 y11 y12 y13 y14 y15 y16 y17 y18 y19 y20 : α} {l : List α} : x ∈ y0 :: y1 :: y2 :: y3 :: y4 :: y5 :: y6 :: y7 :: y8 :: y9 :: y10 :: y11 :: y12 :: y13 :: y14 :: y15 :: y16 :: y17 :: y18 :: y19 :: y20 :: x :: l := tl (tl (tl (tl (tl (tl (tl (tl (tl (tl (tl (tl (tl (tl (tl (tl (tl (tl (tl (tl (tl (hd)))))))))))))))))))))
theorem m22 {α : Type} {x y0 y1 y2 y3 y4 y5 y6 y7 y8 y9 y10 y11 y12 y13 y14 y15 y16 y17 y18 y19 y20 y21 : α} {l : List α} : x ∈ y0 :: y1 :: y2 :: y3 :: y4 :: y5 :: y6 :: y7 :: y8 :: y9 :: y10 :: y11 :: y12 :: y13 :: y14 :: y15 :: y16 :: y17 :: y18 :: y19 :: y20 :: y21 :: x :: l := tl (tl (tl (tl (tl (tl (tl (tl (tl (tl (tl (tl (tl (tl (tl (tl (tl (tl (tl (tl (tl (tl (hd))))))))))))))))))))))
theorem m23 {α : Type} {x y0 y1 y2 y3 y4 y5 y6 y7 y8 y9 y10 y11 y12 y13 y14 y15 y16 y17 y18 y19 y20 y21 y22 : α} {l : List α} : x ∈ y0 :: y1 :: y2 :: y3 :: y4 :: y5 :: y6 :: y7 :: y8 :: y9 :: y10 :: y11 :: y12 :: y13 :: y14 :: y15 :: y16 :: y17 :: y18 :: y19 :: y20 :: y21 :: y22 :: x :: l := tl (tl (tl (tl (tl (tl (tl (tl (tl (tl (tl (tl (tl (tl (tl (tl (tl (tl (tl (tl (tl (tl (tl (hd)))))))))))))))))))))))
theorem m24 {α : Type} {x y0 y1 y2 y3 y4 y5 y6 y7 y8 y9 y10 y11 y12 y13 y14 y15 y16 y17 y18 y19 y20 y21 y22 y23 : α} {l : List α} : x ∈ y0 :: y1 :: y2 :: y3 :: y4 :: y5 :: y6 :: y7 :: y8 :: y9 :: y10 :: y11 :: y12 :: y13 :: y14 :: y15 :: y16 :: y17 :: y18 :: y19 :: y20 :: y21 :: y22 :: y23 :: x :: l := tl (tl (tl (tl (tl (tl (tl (tl (tl (tl (tl (tl (tl (tl (tl (tl (tl (tl (tl (tl (tl (tl (tl (tl (hd))))))))))))))))))))))))
theorem m25 {α : Type} {x y0 y1 y2 y3 y4 y5 y6 y7 y8 y9 y10 y11 y12 y13 y14 y15 y16 y17 y18 y19 y20 y21 y22 y23 y24 : α} {l : List α} : x ∈ y0 :: y1 :: y2 :: y3 :: y4 :: y5 :: y6 :: y7 :: y8 :: y9 :: y10 :: y11 :: y12 :: y13 :: y14 :: y15 :: y16 :: y17 :: y18 :: y19 :: y20 :: y21 :: y22 :: y23 :: y24 :: x :: l := tl (tl (tl (tl (tl (tl (tl (tl (tl (tl (tl (tl (tl (tl (tl (tl (tl (tl (tl (tl (tl (tl (tl (tl (tl (hd)))))))))))))))))))))))))
theorem m26 {α : Type} {x y0 y1 y2 y3 y4 y5 y6 y7 y8 y9 y10 y11 y12 y13 y14 y15 y16 y17 y18 y19 y20 y21 y22 y23 y24 y25 : α} {l : List α} : x ∈ y0 :: y1 :: y2 :: y3 :: y4 :: y5 :: y6 :: y7 :: y8 :: y9 :: y10 :: y11 :: y12 :: y13 :: y14 :: y15 :: y16 :: y17 :: y18 :: y19 :: y20 :: y21 :: y22 :: y23 :: y24 :: y25 :: x :: l := tl (tl (tl (tl (tl (tl (tl (tl (tl (tl (tl (tl (tl (tl (tl (tl (tl (tl (tl (tl (tl (tl (tl (tl (tl (tl (hd))))))))))))))))))))))))))
theorem m27 {α : Type} {x y0 y1 y2 y3 y4 y5 y6 y7 y8 y9 y10 y11 y12 y13 y14 y15 y16 y17 y18 y19 y20 y21 y22 y23 y24 y25 y26 : α} {l : List α} : x ∈ y0 :: y1 :: y2 :: y3 :: y4 :: y5 :: y6 :: y7 :: y8 :: y9 :: y10 :: y11 :: y12 :: y13 :: y14 :: y15 :: y16 :: y17 :: y18 :: y19 :: y20 :: y21 :: y22 :: y23 :: y24 :: y25 :: y26 :: x :: l := tl (tl (tl (tl (tl (tl (tl (tl (tl (tl (tl (tl (tl (tl (tl (tl (tl (tl (tl (tl (tl (tl (tl (tl (tl (tl (tl (hd)))))))))))))))))))))))))))
theorem m28 {α : Type} {x y0 y1 y2 y3 y4 y5 y6 y7 y8 y9 y10 y11 y12 y13 y14 y15 y16 y17 y18 y19 y20 y21 y22 y23 y24 y25 y26 y27 : α} {l : List α} : x ∈ y0 :: y1 :: y2 :: y3 :: y4 :: y5 :: y6 :: y7 :: y8 :: y9 :: y10 :: y11 :: y12 :: y13 :: y14 :: y15 :: y16 :: y17 :: y18 :: y19 :: y20 :: y21 :: y22 :: y23 :: y24 :: y25 :: y26 :: y27 :: x :: l := tl (tl (tl (tl (tl (tl (tl (tl (tl (tl (tl (tl (tl (tl (tl (tl (tl (tl (tl (tl (tl (tl (tl (tl (tl (tl (tl (tl (hd))))))))))))))))))))))))))))
theorem m29 {α : Type} {x y0 y1 y2 y3 y4 y5 y6 y7 y8 y9 y10 y11 y12 y13 y14 y15 y16 y17 y18 y19 y20 y21 y22 y23 y24 y25 y26 y27 y28 : α} {l : List α} : x ∈ y0 :: y1 :: y2 :: y3 :: y4 :: y5 :: y6 :: y7 :: y8 :: y9 :: y10 :: y11 :: y12 :: y13 :: y14 :: y15 :: y16 :: y17 :: y18 :: y19 :: y20 :: y21 :: y22 :: y23 :: y24 :: y25 :: y26 :: y27 :: y28 :: x :: l := tl (tl (tl (tl (tl (tl (tl (tl (tl (tl (tl (tl (tl (tl (tl (tl (tl (tl (tl (tl (tl (tl (tl (tl (tl (tl (tl (tl (tl (hd)))))))))))))))))))))))))))))
theorem m30 {α : Type} {x y0 y1 y2 y3 y4 y5 y6 y7 y8 y9 y10 y11 y12 y13 y14 y15 y16 y17 y18 y19 y20 y21 y22 y23 y24 y25 y26 y27 y28 y29 : α} {l : List α} : x ∈ y0 :: y1 :: y2 :: y3 :: y4 :: y5 :: y6 :: y7 :: y8 :: y9 :: y10 :: y11 :: y12 :: y13 :: y14 :: y15 :: y16 :: y17 :: y18 :: y19 :: y20 :: y21 :: y22 :: y23 :: y24 :: y25 :: y26 :: y27 :: y28 :: y29 :: x :: l := tl (tl (tl (tl (tl (tl (tl (tl (tl (tl (tl (tl (tl (tl (tl (tl (tl (tl (tl (tl (tl (tl (tl (tl (tl (tl (tl (tl (tl (tl (hd))))))))))))))))))))))))))))))
theorem m31 {α : Type} {x y0 y1 y2 y3 y4 y5 y6 y7 y8 y9 y10 y11 y12 y13 y14 y15 y16 y17 y18 y19 y20 y21 y22 y23 y24 y25 y26 y27 y28 y29 y30 : α} {l : List α} : x ∈ y0 :: y1 :: y2 :: y3 :: y4 :: y5 :: y6 :: y7 :: y8 :: y9 :: y10 :: y11 :: y12 :: y13 :: y14 :: y15 :: y16 :: y17 :: y18 :: y19 :: y20 :: y21 :: y22 :: y23 :: y24 :: y25 :: y26 :: y27 :: y28 :: y29 :: y30 :: x :: l := tl (tl (tl (tl (tl (tl (tl (tl (tl (tl (tl (tl (tl (tl (tl (tl (tl (tl (tl (tl (tl (tl (tl (tl (tl (tl (tl (tl (tl (tl (tl (hd)))))))))))))))))))))))))))))))
theorem m32 {α : Type} {x y0 y1 y2 y3 y4 y5 y6 y7 y8 y9 y10 y11 y12 y13 y14 y15 y16 y17 y18 y19 y20 y21 y22 y23 y24 y25 y26 y27 y28 y29 y30 y31 : α} {l : List α} : x ∈ y0 :: y1 :: y2 :: y3 :: y4 :: y5 :: y6 :: y7 :: y8 :: y9 :: y10 :: y11 :: y12 :: y13 :: y14 :: y15 :: y16 :: y17 :: y18 :: y19 :: y20 :: y21 :: y22 :: y23 :: y24 :: y25 :: y26 :: y27 :: y28 :: y29 :: y30 :: y31 :: x :: l := tl (tl (tl (tl (tl (tl (tl (tl (tl (tl (tl (tl (tl (tl (tl (tl (tl (tl (tl (tl (tl (tl (tl (tl (tl (tl (tl (tl (tl (tl (tl (tl (hd))))))))))))))))))))))))))))))))
theorem m33 {α : Type} {x y0 y1 y2 y3 y4 y5 y6 y7 y8 y9 y10 y11 y12 y13 y14 y15 y16 y17 y18 y19 y20 y21 y22 y23 y24 y25 y26 y27 y28 y29 y30 y31 y32 : α} {l : List α} : x ∈ y0 :: y1 :: y2 :: y3 :: y4 :: y5 :: y6 :: y7 :: y8 :: y9 :: y10 :: y11 :: y12 :: y13 :: y14 :: y15 :: y16 :: y17 :: y18 :: y19 :: y20 :: y21 :: y22 :: y23 :: y24 :: y25 :: y26 :: y27 :: y28 :: y29 :: y30 :: y31 :: y32 :: x :: l := tl (tl (tl (tl (tl (tl (tl (tl (tl (tl (tl (tl (tl (tl (tl (tl (tl (tl (tl (tl (tl (tl (tl (tl (tl (tl (tl (tl (tl (tl (tl (tl (tl (hd)))))))))))))))))))))))))))))))))
theorem m34 {α : Type} {x y0 y1 y2 y3 y4 y5 y6 y7 y8 y9 y10 y11 y12 y13 y14 y15 y16 y17 y18 y19 y20 y21 y22 y23 y24 y25 y26 y27 y28 y29 y30 y31 y32 y33 : α} {l : List α} : x ∈ y0 :: y1 :: y2 :: y3 :: y4 :: y5 :: y6 :: y7 :: y8 :: y9 :: y10 :: y11 :: y12 :: y13 :: y14 :: y15 :: y16 :: y17 :: y18 :: y19 :: y20 :: y21 :: y22 :: y23 :: y24 :: y25 :: y26 :: y27 :: y28 :: y29 :: y30 :: y31 :: y32 :: y33 :: x :: l := tl (tl (tl (tl (tl (tl (tl (tl (tl (tl (tl (tl (tl (tl (tl (tl (tl (tl (tl (tl (tl (tl (tl (tl (tl (tl (tl (tl (tl (tl (tl (tl (tl (tl (hd))))))))))))))))))))))))))))))))))
theorem m35 {α : Type} {x y0 y1 y2 y3 y4 y5 y6 y7 y8 y9 y10 y11 y12 y13 y14 y15 y16 y17 y18 y19 y20 y21 y22 y23 y24 y25 y26 y27 y28 y29 y30 y31 y32 y33 y34 : α} {l : List α} : x ∈ y0 :: y1 :: y2 :: y3 :: y4 :: y5 :: y6 :: y7 :: y8 :: y9 :: y10 :: y11 :: y12 :: y13 :: y14 :: y15 :: y16 :: y17 :: y18 :: y19 :: y20 :: y21 :: y22 :: y23 :: y24 :: y25 :: y26 :: y27 :: y28 :: y29 :: y30 :: y31 :: y32 :: y33 :: y34 :: x :: l := tl (tl (tl (tl (tl (tl (tl (tl (tl (tl (tl (tl (tl (tl (tl (tl (tl (tl (tl (tl (tl (tl (tl (tl (tl (tl (tl (tl (tl (tl (tl (tl (tl (tl (tl (hd)))))))))))))))))))))))))))))))))))
theorem m36 {α : Type} {x y0 y1 y2 y3 y4 y5 y6 y7 y8 y9 y10 y11 y12 y13 y14 y15 y16 y17 y18 y19 y20 y21 y22 y23 y24 y25 y26 y27 y28 y29 y30 y31 y32 y33 y34 y35 : α} {l : List α} : x ∈ y0 :: y1 :: y2 :: y3 :: y4 :: y5 :: y6 :: y7 :: y8 :: y9 :: y10 :: y11 :: y12 :: y13 :: y14 :: y15 :: y16 :: y17 :: y18 :: y19 :: y20 :: y21 :: y22 :: y23 :: y24 :: y25 :: y26 :: y27 :: y28 :: y29 :: y30 :: y31 :: y32 :: y33 :: y34 :: y35 :: x :: l := tl (tl (tl (tl (tl (tl (tl (tl (tl (tl (tl (tl (tl (tl (tl (tl (tl (tl (tl (tl (tl (tl (tl (tl (tl (tl (tl (tl (tl (tl (tl (tl (tl (tl (tl (tl (hd))))))))))))))))))))))))))))))))))))
theorem m37 {α : Type} {x y0 y1 y2 y3 y4 y5 y6 y7 y8 y9 y10 y11 y12 y13 y14 y15 y16 y17 y18 y19 y20 y21 y22 y23 y24 y25 y26 y27 y28 y29 y30 y31 y32 y33 y34 y35 y36 : α} {l : List α} : x ∈ y0 :: y1 :: y2 :: y3 :: y4 :: y5 :: y6 :: y7 :: y8 :: y9 :: y10 :: y11 :: y12 :: y13 :: y14 :: y15 :: y16 :: y17 :: y18 :: y19 :: y20 :: y21 :: y22 :: y23 :: y24 :: y25 :: y26 :: y27 :: y28 :: y29 :: y30 :: y31 :: y32 :: y33 :: y34 :: y35 :: y36 :: x :: l := tl (tl (tl (tl (tl (tl (tl (tl (tl (tl (tl (tl (tl (tl (tl (tl (tl (tl (tl (tl (tl (tl (tl (tl (tl (tl (tl (tl (tl (tl (tl (tl (tl (tl (tl (tl (tl (hd)))))))))))))))))))))))))))))))))))))
theorem m38 {α : Type} {x y0 y1 y2 y3 y4 y5 y6 y7 y8 y9 y10 y11 y12 y13 y14 y15 y16 y17 y18 y19 y20 y21 y22 y23 y24 y25 y26 y27 y28 y29 y30 y31 y32 y33 y34 y35 y36 y37 : α} {l : List α} : x ∈ y0 :: y1 :: y2 :: y3 :: y4 :: y5 :: y6 :: y7 :: y8 :: y9 :: y10 :: y11 :: y12 :: y13 :: y14 :: y15 :: y16 :: y17 :: y18 :: y19 :: y20 :: y21 :: y22 :: y23 :: y24 :: y25 :: y26 :: y27 :: y28 :: y29 :: y30 :: y31 :: y32 :: y33 :: y34 :: y35 :: y36 :: y37 :: x :: l := tl (tl (tl (tl (tl (tl (tl (tl (tl (tl (tl (tl (tl (tl (tl (tl (tl (tl (tl (tl (tl (tl (tl (tl (tl (tl (tl (tl (tl (tl (tl (tl (tl (tl (tl (tl (tl (tl (hd))))))))))))))))))))))))))))))))))))))
theorem m39 {α : Type} {x y0 y1 y2 y3 y4 y5 y6 y7 y8 y9 y10 y11 y12 y13 y14 y15 y16 y17 y18 y19 y20 y21 y22 y23 y24 y25 y26 y27 y28 y29 y30 y31 y32 y33 y34 y35 y36 y37 y38 : α} {l : List α} : x ∈ y0 :: y1 :: y2 :: y3 :: y4 :: y5 :: y6 :: y7 :: y8 :: y9 :: y10 :: y11 :: y12 :: y13 :: y14 :: y15 :: y16 :: y17 :: y18 :: y19 :: y20 :: y21 :: y22 :: y23 :: y24 :: y25 :: y26 :: y27 :: y28 :: y29 :: y30 :: y31 :: y32 :: y33 :: y34 :: y35 :: y36 :: y37 :: y38 :: x :: l := tl (tl (tl (tl (tl (tl (tl (tl (tl (tl (tl (tl (tl (tl (tl (tl (tl (tl (tl (tl (tl (tl (tl (tl (tl (tl (tl (tl (tl (tl (tl (tl (tl (tl (tl (tl (tl (tl (tl (hd)))))))))))))))))))))))))))))))))))))))
theorem m40 {α : Type} {x y0 y1 y2 y3 y4 y5 y6 y7 y8 y9 y10 y11 y12 y13 y14 y15 y16 y17 y18 y19 y20 y21 y22 y23 y24 y25 y26 y27 y28 y29 y30 y31 y32 y33 y34 y35 y36 y37 y38 y39 : α} {l : List α} : x ∈ y0 :: y1 :: y2 :: y3 :: y4 :: y5 :: y6 :: y7 :: y8 :: y9 :: y10 :: y11 :: y12 :: y13 :: y14 :: y15 :: y16 :: y17 :: y18 :: y19 :: y20 :: y21 :: y22 :: y23 :: y24 :: y25 :: y26 :: y27 :: y28 :: y29 :: y30 :: y31 :: y32 :: y33 :: y34 :: y35 :: y36 :: y37 :: y38 :: y39 :: x :: l := tl (tl (tl (tl (tl (tl (tl (tl (tl (tl (tl (tl (tl (tl (tl (tl (tl (tl (tl (tl (tl (tl (tl (tl (tl (tl (tl (tl (tl (tl (tl (tl (tl (tl (tl (tl (tl (tl (tl (tl (hd))))))))))))))))))))))))))))))))))))))))
theorem m41 {α : Type} {x y0 y1 y2 y3 y4 y5 y6 y7 y8 y9 y10 y11 y12 y13 y14 y15 y16 y17 y18 y19 y20 y21 y22 y23 y24 y25 y26 y27 y28 y29 y30 y31 y32 y33 y34 y35 y36 y37 y38 y39 y40 : α} {l : List α} : x ∈ y0 :: y1 :: y2 :: y3 :: y4 :: y5 :: y6 :: y7 :: y8 :: y9 :: y10 :: y11 :: y12 :: y13 :: y14 :: y15 :: y16 :: y17 :: y18 :: y19 :: y20 :: y21 :: y22 :: y23 :: y24 :: y25 :: y26 :: y27 :: y28 :: y29 :: y30 :: y31 :: y32 :: y33 :: y34 :: y35 :: y36 :: y37 :: y38 :: y39 :: y40 :: x :: l := tl (tl (tl (tl (tl (tl (tl (tl (tl (tl (tl (tl (tl (tl (tl (tl (tl (tl (tl (tl (tl (tl (tl (tl (tl (tl (tl (tl (tl (tl (tl (tl (tl (tl (tl (tl (tl (tl (tl (tl (tl (hd)))))))))))))))))))))))))))))))))))))))))
theorem m42 {α : Type} {x y0 y1 y2 y3 y4 y5 y6 y7 y8 y9 y10 y11 y12 y13 y14 y15 y16 y17 y18 y19 y20 y21 y22 y23 y24 y25 y26 y27 y28 y29 y30 y31 y32 y33 y34 y35 y36 y37 y38 y39 y40 y41 : α} {l : List α} : x ∈ y0 :: y1 :: y2 :: y3 :: y4 :: y5 :: y6 :: y7 :: y8 :: y9 :: y10 :: y11 :: y12 :: y13 :: y14 :: y15 :: y16 :: y17 :: y18 :: y19 :: y20 :: y21 :: y22 :: y23 :: y24 :: y25 :: y26 :: y27 :: y28 :: y29 :: y30 :: y31 :: y32 :: y33 :: y34 :: y35 :: y36 :: y37 :: y38 :: y39 :: y40 :: y41 :: x :: l := tl (tl (tl (tl (tl (tl (tl (tl (tl (tl (tl (tl (tl (tl (tl (tl (tl (tl (tl (tl (tl (tl (tl (tl (tl (tl (tl (tl (tl (tl (tl (tl (tl (tl (tl (tl (tl (tl (tl (tl (tl (tl (hd))))))))))))))))))))))))))))))))))))))))))
theorem m43 {α : Type} {x y0 y1 y2 y3 y4 y5 y6 y7 y8 y9 y10 y11 y12 y13 y14 y15 y16 y17 y18 y19 y20 y21 y22 y23 y24 y25 y26 y27 y28 y29 y30 y31 y32 y33 y34 y35 y36 y37 y38 y39 y40 y41 y42 : α} {l : List α} : x ∈ y0 :: y1 :: y2 :: y3 :: y4 :: y5 :: y6 :: y7 :: y8 :: y9 :: y10 :: y11 :: y12 :: y13 :: y14 :: y15 :: y16 :: y17 :: y18 :: y19 :: y20 :: y21 :: y22 :: y23 :: y24 :: y25 :: y26 :: y27 :: y28 :: y29 :: y30 :: y31 :: y32 :: y33 :: y34 :: y35 :: y36 :: y37 :: y38 :: y39 :: y40 :: y41 :: y42 :: x :: l := tl (tl (tl (tl (tl (tl (tl (tl (tl (tl (tl (tl (tl (tl (tl (tl (tl (tl (tl (tl (tl (tl (tl (tl (tl (tl (tl (tl (tl (tl (tl (tl (tl (tl (tl (tl (tl (tl (tl (tl (tl (tl (tl (hd)))))))))))))))))))))))))))))))))))))))))))
theorem m44 {α : Type} {x y0 y1 y2 y3 y4 y5 y6 y7 y8 y9 y10 y11 y12 y13 y14 y15 y16 y17 y18 y19 y20 y21 y22 y23 y24 y25 y26 y27 y28 y29 y30 y31 y32 y33 y34 y35 y36 y37 y38 y39 y40 y41 y42 y43 : α} {l : List α} : x ∈ y0 :: y1 :: y2 :: y3 :: y4 :: y5 :: y6 :: y7 :: y8 :: y9 :: y10 :: y11 :: y12 :: y13 :: y14 :: y15 :: y16 :: y17 :: y18 :: y19 :: y20 :: y21 :: y22 :: y23 :: y24 :: y25 :: y26 :: y27 :: y28 :: y29 :: y30 :: y31 :: y32 :: y33 :: y34 :: y35 :: y36 :: y37 :: y38 :: y39 :: y40 :: y41 :: y42 :: y43 :: x :: l := tl (tl (tl (tl (tl (tl (tl (tl (tl (tl (tl (tl (tl (tl (tl (tl (tl (tl (tl (tl (tl (tl (tl (tl (tl (tl (tl (tl (tl (tl (tl (tl (tl (tl (tl (tl (tl (tl (tl (tl (tl (tl (tl (tl (hd))))))))))))))))))))))))))))))))))))))))))))
theorem m45 {α : Type} {x y0 y1 y2 y3 y4 y5 y6 y7 y8 y9 y10 y11 y12 y13 y14 y15 y16 y17 y18 y19 y20 y21 y22 y23 y24 y25 y26 y27 y28 y29 y30 y31 y32 y33 y34 y35 y36 y37 y38 y39 y40 y41 y42 y43 y44 : α} {l : List α} : x ∈ y0 :: y1 :: y2 :: y3 :: y4 :: y5 :: y6 :: y7 :: y8 :: y9 :: y10 :: y11 :: y12 :: y13 :: y14 :: y15 :: y16 :: y17 :: y18 :: y19 :: y20 :: y21 :: y22 :: y23 :: y24 :: y25 :: y26 :: y27 :: y28 :: y29 :: y30 :: y31 :: y32 :: y33 :: y34 :: y35 :: y36 :: y37 :: y38 :: y39 :: y40 :: y41 :: y42 :: y43 :: y44 :: x :: l := tl (tl (tl (tl (tl (tl (tl (tl (tl (tl (tl (tl (tl (tl (tl (tl (tl (tl (tl (tl (tl (tl (tl (tl (tl (tl (tl (tl (tl (tl (tl (tl (tl (tl (tl (tl (tl (tl (tl (tl (tl (tl (tl (tl (tl (hd)))))))))))))))))))))))))))))))))))))))))))))
theorem m46 {α : Type} {x y0 y1 y2 y3 y4 y5 y6 y7 y8 y9 y10 y11 y12 y13 y14 y15 y16 y17 y18 y19 y20 y21 y22 y23 y24 y25 y26 y27 y28 y29 y30 y31 y32 y33 y34 y35 y36 y37 y38 y39 y40 y41 y42 y43 y44 y45 : α} {l : List α} : x ∈ y0 :: y1 :: y2 :: y3 :: y4 :: y5 :: y6 :: y7 :: y8 :: y9 :: y10 :: y11 :: y12 :: y13 :: y14 :: y15 :: y16 :: y17 :: y18 :: y19 :: y20 :: y21 :: y22 :: y23 :: y24 :: y25 :: y26 :: y27 :: y28 :: y29 :: y30 :: y31 :: y32 :: y33 :: y34 :: y35 :: y36 :: y37 :: y38 :: y39 :: y40 :: y41 :: y42 :: y43 :: y44 :: y45 :: x :: l := tl (tl (tl (tl (tl (tl (tl (tl (tl (tl (tl (tl (tl (tl (tl (tl (tl (tl (tl (tl (tl (tl (tl (tl (tl (tl (tl (tl (tl (tl (tl (tl (tl (tl (tl (tl (tl (tl (tl (tl (tl (tl (tl (tl (tl (tl (hd))))))))))))))))))))))))))))))))))))))))))))))
theorem m47 {α : Type} {x y0 y1 y2 y3 y4 y5 y6 y7 y8 y9 y10 y11 y12 y13 y14 y15 y16 y17 y18 y19 y20 y21 y22 y23 y24 y25 y26 y27 y28 y29 y30 y31 y32 y33 y34 y35 y36 y37 y38 y39 y40 y41 y42 y43 y44 y45 y46 : α} {l : List α} : x ∈ y0 :: y1 :: y2 :: y3 :: y4 :: y5 :: y6 :: y7 :: y8 :: y9 :: y10 :: y11 :: y12 :: y13 :: y14 :: y15 :: y16 :: y17 :: y18 :: y19 :: y20 :: y21 :: y22 :: y23 :: y24 :: y25 :: y26 :: y27 :: y28 :: y29 :: y30 :: y31 :: y32 :: y33 :: y34 :: y35 :: y36 :: y37 :: y38 :: y39 :: y40 :: y41 :: y42 :: y43 :: y44 :: y45 :: y46 :: x :: l := tl (tl (tl (tl (tl (tl (tl (tl (tl (tl (tl (tl (tl (tl (tl (tl (tl (tl (tl (tl (tl (tl (tl (tl (tl (tl (tl (tl (tl (tl (tl (tl (tl (tl (tl (tl (tl (tl (tl (tl (tl (tl (tl (tl (tl (tl (tl (hd)))))))))))))))))))))))))))))))))))))))))))))))
theorem m48 {α : Type} {x y0 y1 y2 y3 y4 y5 y6 y7 y8 y9 y10 y11 y12 y13 y14 y15 y16 y17 y18 y19 y20 y21 y22 y23 y24 y25 y26 y27 y28 y29 y30 y31 y32 y33 y34 y35 y36 y37 y38 y39 y40 y41 y42 y43 y44 y45 y46 y47 : α} {l : List α} : x ∈ y0 :: y1 :: y2 :: y3 :: y4 :: y5 :: y6 :: y7 :: y8 :: y9 :: y10 :: y11 :: y12 :: y13 :: y14 :: y15 :: y16 :: y17 :: y18 :: y19 :: y20 :: y21 :: y22 :: y23 :: y24 :: y25 :: y26 :: y27 :: y28 :: y29 :: y30 :: y31 :: y32 :: y33 :: y34 :: y35 :: y36 :: y37 :: y38 :: y39 :: y40 :: y41 :: y42 :: y43 :: y44 :: y45 :: y46 :: y47 :: x :: l := tl (tl (tl (tl (tl (tl (tl (tl (tl (tl (tl (tl (tl (tl (tl (tl (tl (tl (tl (tl (tl (tl (tl (tl (tl (tl (tl (tl (tl (tl (tl (tl (tl (tl (tl (tl (tl (tl (tl (tl (tl (tl (tl (tl (tl (tl (tl (tl (hd))))))))))))))))))))))))))))))))))))))))))))))))
theorem m49 {α : Type} {x y0 y1 y2 y3 y4 y5 y6 y7 y8 y9 y10 y11 y12 y13 y14 y15 y16 y17 y18 y19 y20 y21 y22 y23 y24 y25 y26 y27 y28 y29 y30 y31 y32 y33 y34 y35 y36 y37 y38 y39 y40 y41 y42 y43 y44 y45 y46 y47 y48 : α} {l : List α} : x ∈ y0 :: y1 :: y2 :: y3 :: y4 :: y5 :: y6 :: y7 :: y8 :: y9 :: y10 :: y11 :: y12 :: y13 :: y14 :: y15 :: y16 :: y17 :: y18 :: y19 :: y20 :: y21 :: y22 :: y23 :: y24 :: y25 :: y26 :: y27 :: y28 :: y29 :: y30 :: y31 :: y32 :: y33 :: y34 :: y35 :: y36 :: y37 :: y38 :: y39 :: y40 :: y41 :: y42 :: y43 :: y44 :: y45 :: y46 :: y47 :: y48 :: x :: l := tl (tl (tl (tl (tl (tl (tl (tl (tl (tl (tl (tl (tl (tl (tl (tl (tl (tl (tl (tl (tl (tl (tl (tl (tl (tl (tl (tl (tl (tl (tl (tl (tl (tl (tl (tl (tl (tl (tl (tl (tl (tl (tl (tl (tl (tl (tl (tl (tl (hd)))))))))))))))))))))))))))))))))))))))))))))))))
theorem m50 {α : Type} {x y0 y1 y2 y3 y4 y5 y6 y7 y8 y9 y10 y11 y12 y13 y14 y15 y16 y17 y18 y19 y20 y21 y22 y23 y24 y25 y26 y27 y28 y29 y30 y31 y32 y33 y34 y35 y36 y37 y38 y39 y40 y41 y42 y43 y44 y45 y46 y47 y48 y49 : α} {l : List α} : x ∈ y0 :: y1 :: y2 :: y3 :: y4 :: y5 :: y6 :: y7 :: y8 :: y9 :: y10 :: y11 :: y12 :: y13 :: y14 :: y15 :: y16 :: y17 :: y18 :: y19 :: y20 :: y21 :: y22 :: y23 :: y24 :: y25 :: y26 :: y27 :: y28 :: y29 :: y30 :: y31 :: y32 :: y33 :: y34 :: y35 :: y36 :: y37 :: y38 :: y39 :: y40 :: y41 :: y42 :: y43 :: y44 :: y45 :: y46 :: y47 :: y48 :: y49 :: x :: l := tl (tl (tl (tl (tl (tl (tl (tl (tl (tl (tl (tl (tl (tl (tl (tl (tl (tl (tl (tl (tl (tl (tl (tl (tl (tl (tl (tl (tl (tl (tl (tl (tl (tl (tl (tl (tl (tl (tl (tl (tl (tl (tl (tl (tl (tl (tl (tl (tl (tl (hd))))))))))))))))))))))))))))))))))))))))))))))))))
theorem m51 {α : Type} {x y0 y1 y2 y3 y4 y5 y6 y7 y8 y9 y10 y11 y12 y13 y14 y15 y16 y17 y18 y19 y20 y21 y22 y23 y24 y25 y26 y27 y28 y29 y30 y31 y32 y33 y34 y35 y36 y37 y38 y39 y40 y41 y42 y43 y44 y45 y46 y47 y48 y49 y50 : α} {l : List α} : x ∈ y0 :: y1 :: y2 :: y3 :: y4 :: y5 :: y6 :: y7 :: y8 :: y9 :: y10 :: y11 :: y12 :: y13 :: y14 :: y15 :: y16 :: y17 :: y18 :: y19 :: y20 :: y21 :: y22 :: y23 :: y24 :: y25 :: y26 :: y27 :: y28 :: y29 :: y30 :: y31 :: y32 :: y33 :: y34 :: y35 :: y36 :: y37 :: y38 :: y39 :: y40 :: y41 :: y42 :: y43 :: y44 :: y45 :: y46 :: y47 :: y48 :: y49 :: y50 :: x :: l := tl (tl (tl (tl (tl (tl (tl (tl (tl (tl (tl (tl (tl (tl (tl (tl (tl (tl (tl (tl (tl (tl (tl (tl (tl (tl (tl (tl (tl (tl (tl (tl (tl (tl (tl (tl (tl (tl (tl (tl (tl (tl (tl (tl (tl (tl (tl (tl (tl (tl (tl (hd)))))))))))))))))))))))))))))))))))))))))))))))))))
theorem m52 {α : Type} {x y0 y1 y2 y3 y4 y5 y6 y7 y8 y9 y10 y11 y12 y13 y14 y15 y16 y17 y18 y19 y20 y21 y22 y23 y24 y25 y26 y27 y28 y29 y30 y31 y32 y33 y34 y35 y36 y37 y38 y39 y40 y41 y42 y43 y44 y45 y46 y47 y48 y49 y50 y51 : α} {l : List α} : x ∈ y0 :: y1 :: y2 :: y3 :: y4 :: y5 :: y6 :: y7 :: y8 :: y9 :: y10 :: y11 :: y12 :: y13 :: y14 :: y15 :: y16 :: y17 :: y18 :: y19 :: y20 :: y21 :: y22 :: y23 :: y24 :: y25 :: y26 :: y27 :: y28 :: y29 :: y30 :: y31 :: y32 :: y33 :: y34 :: y35 :: y36 :: y37 :: y38 :: y39 :: y40 :: y41 :: y42 :: y43 :: y44 :: y45 :: y46 :: y47 :: y48 :: y49 :: y50 :: y51 :: x :: l := tl (tl (tl (tl (tl (tl (tl (tl (tl (tl (tl (tl (tl (tl (tl (tl (tl (tl (tl (tl (tl (tl (tl (tl (tl (tl (tl (tl (tl (tl (tl (tl (tl (tl (tl (tl (tl (tl (tl (tl (tl (tl (tl (tl (tl (tl (tl (tl (tl (tl (tl (tl (hd))))))))))))))))))))))))))))))))))))))))))))))))))))
theorem m53 {α : Type} {x y0 y1 y2 y3 y4 y5 y6 y7 y8 y9 y10 y11 y12 y13 y14 y15 y16 y17 y18 y19 y20 y21 y22 y23 y24 y25 y26 y27 y28 y29 y30 y31 y32 y33 y34 y35 y36 y37 y38 y39 y40 y41 y42 y43 y44 y45 y46 y47 y48 y49 y50 y51 y52 : α} {l : List α} : x ∈ y0 :: y1 :: y2 :: y3 :: y4 :: y5 :: y6 :: y7 :: y8 :: y9 :: y10 :: y11 :: y12 :: y13 :: y14 :: y15 :: y16 :: y17 :: y18 :: y19 :: y20 :: y21 :: y22 :: y23 :: y24 :: y25 :: y26 :: y27 :: y28 :: y29 :: y30 :: y31 :: y32 :: y33 :: y34 :: y35 :: y36 :: y37 :: y38 :: y39 :: y40 :: y41 :: y42 :: y43 :: y44 :: y45 :: y46 :: y47 :: y48 :: y49 :: y50 :: y51 :: y52 :: x :: l := tl (tl (tl (tl (tl (tl (tl (tl (tl (tl (tl (tl (tl (tl (tl (tl (tl (tl (tl (tl (tl (tl (tl (tl (tl (tl (tl (tl (tl (tl (tl (tl (tl (tl (tl (tl (tl (tl (tl (tl (tl (tl (tl (tl (tl (tl (tl (tl (tl (tl (tl (tl (tl (hd)))))))))))))))))))))))))))))))))))))))))))))))))))))
theorem m54 {α : Type} {x y0 y1 y2 y3 y4 y5 y6 y7 y8 y9 y10 y11 y12 y13 y14 y15 y16 y17 y18 y19 y20 y21 y22 y23 y24 y25 y26 y27 y28 y29 y30 y31 y32 y33 y34 y35 y36 y37 y38 y39 y40 y41 y42 y43 y44 y45 y46 y47 y48 y49 y50 y51 y52 y53 : α} {l : List α} : x ∈ y0 :: y1 :: y2 :: y3 :: y4 :: y5 :: y6 :: y7 :: y8 :: y9 :: y10 :: y11 :: y12 :: y13 :: y14 :: y15 :: y16 :: y17 :: y18 :: y19 :: y20 :: y21 :: y22 :: y23 :: y24 :: y25 :: y26 :: y27 :: y28 :: y29 :: y30 :: y31 :: y32 :: y33 :: y34 :: y35 :: y36 :: y37 :: y38 :: y39 :: y40 :: y41 :: y42 :: y43 :: y44 :: y45 :: y46 :: y47 :: y48 :: y49 :: y50 :: y51 :: y52 :: y53 :: x :: l := tl (tl (tl (tl (tl (tl (tl (tl (tl (tl (tl (tl (tl (tl (tl (tl (tl (tl (tl (tl (tl (tl (tl (tl (tl (tl (tl (tl (tl (tl (tl (tl (tl (tl (tl (tl (tl (tl (tl (tl (tl (tl (tl (tl (tl (tl (tl (tl (tl (tl (tl (tl (tl (tl (hd))))))))))))))))))))))))))))))))))))))))))))))))))))))
theorem m55 {α : Type} {x y0 y1 y2 y3 y4 y5 y6 y7 y8 y9 y10 y11 y12 y13 y14 y15 y16 y17 y18 y19 y20 y21 y22 y23 y24 y25 y26 y27 y28 y29 y30 y31 y32 y33 y34 y35 y36 y37 y38 y39 y40 y41 y42 y43 y44 y45 y46 y47 y48 y49 y50 y51 y52 y53 y54 : α} {l : List α} : x ∈ y0 :: y1 :: y2 :: y3 :: y4 :: y5 :: y6 :: y7 :: y8 :: y9 :: y10 :: y11 :: y12 :: y13 :: y14 :: y15 :: y16 :: y17 :: y18 :: y19 :: y20 :: y21 :: y22 :: y23 :: y24 :: y25 :: y26 :: y27 :: y28 :: y29 :: y30 :: y31 :: y32 :: y33 :: y34 :: y35 :: y36 :: y37 :: y38 :: y39 :: y40 :: y41 :: y42 :: y43 :: y44 :: y45 :: y46 :: y47 :: y48 :: y49 :: y50 :: y51 :: y52 :: y53 :: y54 :: x :: l := tl (tl (tl (tl (tl (tl (tl (tl (tl (tl (tl (tl (tl (tl (tl (tl (tl (tl (tl (tl (tl (tl (tl (tl (tl (tl (tl (tl (tl (tl (tl (tl (tl (tl (tl (tl (tl (tl (tl (tl (tl (tl (tl (tl (tl (tl (tl (tl (tl (tl (tl (tl (tl (tl (tl (hd)))))))))))))))))))))))))))))))))))))))))))))))))))))))
theorem m56 {α : Type} {x y0 y1 y2 y3 y4 y5 y6 y7 y8 y9 y10 y11 y12 y13 y14 y15 y16 y17 y18 y19 y20 y21 y22 y23 y24 y25 y26 y27 y28 y29 y30 y31 y32 y33 y34 y35 y36 y37 y38 y39 y40 y41 y42 y43 y44 y45 y46 y47 y48 y49 y50 y51 y52 y53 y54 y55 : α} {l : List α} : x ∈ y0 :: y1 :: y2 :: y3 :: y4 :: y5 :: y6 :: y7 :: y8 :: y9 :: y10 :: y11 :: y12 :: y13 :: y14 :: y15 :: y16 :: y17 :: y18 :: y19 :: y20 :: y21 :: y22 :: y23 :: y24 :: y25 :: y26 :: y27 :: y28 :: y29 :: y30 :: y31 :: y32 :: y33 :: y34 :: y35 :: y36 :: y37 :: y38 :: y39 :: y40 :: y41 :: y42 :: y43 :: y44 :: y45 :: y46 :: y47 :: y48 :: y49 :: y50 :: y51 :: y52 :: y53 :: y54 :: y55 :: x :: l := tl (tl (tl (tl (tl (tl (tl (tl (tl (tl (tl (tl (tl (tl (tl (tl (tl (tl (tl (tl (tl (tl (tl (tl (tl (tl (tl (tl (tl (tl (tl (tl (tl (tl (tl (tl (tl (tl (tl (tl (tl (tl (tl (tl (tl (tl (tl (tl (tl (tl (tl (tl (tl (tl (tl (tl (hd))))))))))))))))))))))))))))))))))))))))))))))))))))))))
theorem m57 {α : Type} {x y0 y1 y2 y3 y4 y5 y6 y7 y8 y9 y10 y11 y12 y13 y14 y15 y16 y17 y18 y19 y20 y21 y22 y23 y24 y25 y26 y27 y28 y29 y30 y31 y32 y33 y34 y35 y36 y37 y38 y39 y40 y41 y42 y43 y44 y45 y46 y47 y48 y49 y50 y51 y52 y53 y54 y55 y56 : α} {l : List α} : x ∈ y0 :: y1 :: y2 :: y3 :: y4 :: y5 :: y6 :: y7 :: y8 :: y9 :: y10 :: y11 :: y12 :: y13 :: y14 :: y15 :: y16 :: y17 :: y18 :: y19 :: y20 :: y21 :: y22 :: y23 :: y24 :: y25 :: y26 :: y27 :: y28 :: y29 :: y30 :: y31 :: y32 :: y33 :: y34 :: y35 :: y36 :: y37 :: y38 :: y39 :: y40 :: y41 :: y42 :: y43 :: y44 :: y45 :: y46 :: y47 :: y48 :: y49 :: y50 :: y51 :: y52 :: y53 :: y54 :: y55 :: y56 :: x :: l := tl (tl (tl (tl (tl (tl (tl (tl (tl (tl (tl (tl (tl (tl (tl (tl (tl (tl (tl (tl (tl (tl (tl (tl (tl (tl (tl (tl (tl (tl (tl (tl (tl (tl (tl (tl (tl (tl (tl (tl (tl (tl (tl (tl (tl (tl (tl (tl (tl (tl (tl (tl (tl (tl (tl (tl (tl (hd)))))))))))))))))))))))))))))))))))))))))))))))))))))))))
theorem m58 {α : Type} {x y0 y1 y2 y3 y4 y5 y6 y7 y8 y9 y10 y11 y12 y13 y14 y15 y16 y17 y18 y19 y20 y21 y22 y23 y24 y25 y26 y27 y28 y29 y30 y31 y32 y33 y34 y35 y36 y37 y38 y39 y40 y41 y42 y43 y44 y45 y46 y47 y48 y49 y50 y51 y52 y53 y54 y55 y56 y57 : α} {l : List α} : x ∈ y0 :: y1 :: y2 :: y3 :: y4 :: y5 :: y6 :: y7 :: y8 :: y9 :: y10 :: y11 :: y12 :: y13 :: y14 :: y15 :: y16 :: y17 :: y18 :: y19 :: y20 :: y21 :: y22 :: y23 :: y24 :: y25 :: y26 :: y27 :: y28 :: y29 :: y30 :: y31 :: y32 :: y33 :: y34 :: y35 :: y36 :: y37 :: y38 :: y39 :: y40 :: y41 :: y42 :: y43 :: y44 :: y45 :: y46 :: y47 :: y48 :: y49 :: y50 :: y51 :: y52 :: y53 :: y54 :: y55 :: y56 :: y57 :: x :: l := tl (tl (tl (tl (tl (tl (tl (tl (tl (tl (tl (tl (tl (tl (tl (tl (tl (tl (tl (tl (tl (tl (tl (tl (tl (tl (tl (tl (tl (tl (tl (tl (tl (tl (tl (tl (tl (tl (tl (tl (tl (tl (tl (tl (tl (tl (tl (tl (tl (tl (tl (tl (tl (tl (tl (tl (tl (tl (hd))))))))))))))))))))))))))))))))))))))))))))))))))))))))))
theorem m59 {α : Type} {x y0 y1 y2 y3 y4 y5 y6 y7 y8 y9 y10 y11 y12 y13 y14 y15 y16 y17 y18 y19 y20 y21 y22 y23 y24 y25 y26 y27 y28 y29 y30 y31 y32 y33 y34 y35 y36 y37 y38 y39 y40 y41 y42 y43 y44 y45 y46 y47 y48 y49 y50 y51 y52 y53 y54 y55 y56 y57 y58 : α} {l : List α} : x ∈ y0 :: y1 :: y2 :: y3 :: y4 :: y5 :: y6 :: y7 :: y8 :: y9 :: y10 :: y11 :: y12 :: y13 :: y14 :: y15 :: y16 :: y17 :: y18 :: y19 :: y20 :: y21 :: y22 :: y23 :: y24 :: y25 :: y26 :: y27 :: y28 :: y29 :: y30 :: y31 :: y32 :: y33 :: y34 :: y35 :: y36 :: y37 :: y38 :: y39 :: y40 :: y41 :: y42 :: y43 :: y44 :: y45 :: y46 :: y47 :: y48 :: y49 :: y50 :: y51 :: y52 :: y53 :: y54 :: y55 :: y56 :: y57 :: y58 :: x :: l := tl (tl (tl (tl (tl (tl (tl (tl (tl (tl (tl (tl (tl (tl (tl (tl (tl (tl (tl (tl (tl (tl (tl (tl (tl (tl (tl (tl (tl (tl (tl (tl (tl (tl (tl (tl (tl (tl (tl (tl (tl (tl (tl (tl (tl (tl (tl (tl (tl (tl (tl (tl (tl (tl (tl (tl (tl (tl (tl (hd)))))))))))))))))))))))))))))))))))))))))))))))))))))))))))
theorem subNil {α : Type} {l : List α} : ∀ x ∈ ([] : List α), x ∈ l := fun _ h => by cases h
theorem subCons {α : Type} {y : α} {l l' : List α} (h : y ∈ l') (k : ∀ x ∈ l, x ∈ l') : ∀ x ∈ y :: l, x ∈ l' := fun x hx => by
  rcases List.mem_cons.1 hx with e | e
  · exact e ▸ h
  · exact k x e

/-! ### 2. Resources in memory -/
/-- a fact on some blocks -/
structure Ent where
  foot : List Nat
  ok : World → Prop
  loc : ∀ w w' : World, (∀ b ∈ foot, w'.heap[b]? = w.heap[b]?) → ok w → ok w'

/-- the fact holds, its blocks are there -/
structure In (w : World) (e : Ent) : Prop where
  ok : e.ok w
  lt : ∀ b ∈ e.foot, b < w.heap.size

structure St (w0 : World) (M : Nat → Prop) (L : List Ent) (w : World) : Prop where
  os : w.os = w0.os
  tape : w.tape = w0.tape
  output : w.output = w0.output
  size : w0.heap.size ≤ w.heap.size
  keep : ∀ b, b < w0.heap.size → ¬ M b → w.heap[b]? = w0.heap[b]?
  ok : ∀ e ∈ L, e.ok w
  lt : ∀ e ∈ L, ∀ b ∈ e.foot, b < w.heap.size
  nd : (L.flatMap Ent.foot).Nodup
  inM : ∀ e ∈ L, ∀ b ∈ e.foot, M b ∨ w0.heap.size ≤ b

/-- nothing that was there may be written -/
def no : Nat → Prop := fun _ => False

/-- read-only in a call that may write M -/
structure Ro (w0 : World) (M : Nat → Prop) (e : Ent) : Prop where
  ok : e.ok w0
  lt : ∀ b ∈ e.foot, b < w0.heap.size
  out : ∀ b ∈ e.foot, ¬ M b
theorem In.ro {w : World} {e : Ent} (h : In w e) : Ro w no e := ⟨h.ok, h.lt, fun _ _ h => h⟩

theorem St.refl (w : World) (M : Nat → Prop) : St w M [] w :=
  ⟨rfl, rfl, rfl, Nat.le_refl _, fun _ _ _ => rfl, fun _ h => (by cases h), fun _ h => (by cases h), List.nodup_nil, fun _ h => (by cases h)⟩
theorem St.draw {w0 w : World} {M : Nat → Prop} {L : List Ent} (h : St w0 M L w) : St w0 M L { w with drawn := w.drawn + 1 } :=
  ⟨h.os, h.tape, h.output, h.size, h.keep, fun e he => e.loc w _ (fun _ _ => rfl) (h.ok e he), h.lt, h.nd, h.inM⟩
theorem St.in_ {w0 w : World} {M : Nat → Prop} {L : List Ent} {e : Ent} (h : St w0 M L w) (he : e ∈ L) : In w e := ⟨h.ok e he, h.lt e he⟩
theorem St.ro {w0 w : World} {M : Nat → Prop} {L : List Ent} {e : Ent} (h : St w0 M L w) (he : Ro w0 M e) : In w e :=
  ⟨e.loc _ _ (fun b hb => h.keep b (he.lt b hb) (he.out b hb)) he.ok, fun b hb => Nat.lt_of_lt_of_le (he.lt b hb) h.size⟩
/-- resources in another order, some let go -/
theorem St.perm {w0 w : World} {M : Nat → Prop} {L L' : List Ent} (h : St w0 M L w) (hp : L.Perm L') : St w0 M L' w :=
  ⟨h.os, h.tape, h.output, h.size, h.keep, fun e he => h.ok e (hp.mem_iff.2 he), fun e he => h.lt e (hp.mem_iff.2 he), ((hp.flatMap_right Ent.foot).nodup_iff).1 h.nd, fun e he => h.inM e (hp.mem_iff.2 he)⟩
theorem sublist_flatMap {α β : Type} (f : α → List β) {l l' : List α} (h : l'.Sublist l) : (l'.flatMap f).Sublist (l.flatMap f) := by
  induction h with
  | slnil => exact List.Sublist.refl _
  | cons a _ ih => simp only [List.flatMap_cons]; exact ih.trans (List.sublist_append_right _ _)
  | cons_cons a _ ih => simp only [List.flatMap_cons]; exact (List.Sublist.refl _).append ih
theorem St.sub {w0 w : World} {M : Nat → Prop} {L L' : List Ent} (h : St w0 M L w) (hs : L'.Sublist L) : St w0 M L' w :=
  ⟨h.os, h.tape, h.output, h.size, h.keep, fun e he => h.ok e (hs.subset he), fun e he => h.lt e (hs.subset he), h.nd.sublist (sublist_flatMap _ hs), fun e he => h.inM e (hs.subset he)⟩
/-- A STEP that turns one resource's blocks and makes new ones: the rest abides. -/
theorem St.turn {w0 w w' : World} {M : Nat → Prop} {e : Ent} {L N : List Ent} (h : St w0 M (e :: L) w) (hk : St w (· ∈ e.foot) N w') : St w0 M (N ++ L) w' := by
  have hnd := h.nd
  simp only [List.flatMap_cons] at hnd
  have hne : ∀ x ∈ L, ∀ b ∈ x.foot, b ∉ e.foot := fun x hx b hb hbe =>
    (List.nodup_append.1 hnd).2.2 b hbe b (List.mem_flatMap.2 ⟨x, hx, hb⟩) rfl
  have old : ∀ x ∈ L, ∀ b ∈ x.foot, w'.heap[b]? = w.heap[b]? := fun x hx b hb => hk.keep b (h.lt x (List.mem_cons_of_mem _ hx) b hb) (hne x hx b hb)
  refine ⟨hk.os.trans h.os, hk.tape.trans h.tape, hk.output.trans h.output, Nat.le_trans h.size hk.size, fun b hb hm => ?_, fun x hx => ?_, fun x hx b hb => ?_, ?_, fun x hx b hb => ?_⟩
  · rw [hk.keep b (Nat.lt_of_lt_of_le hb h.size) (fun hbe => ?_)]
    · exact h.keep b hb hm
    · rcases h.inM e List.mem_cons_self b hbe with h1 | h1
      · exact hm h1
      · omega
  · rcases List.mem_append.1 hx with hx | hx
    · exact hk.ok x hx
    · exact x.loc _ _ (fun b hb => old x hx b hb) (h.ok x (List.mem_cons_of_mem _ hx))
  · rcases List.mem_append.1 hx with hx | hx
    · exact hk.lt x hx b hb
    · exact Nat.lt_of_lt_of_le (h.lt x (List.mem_cons_of_mem _ hx) b hb) hk.size
  · rw [List.flatMap_append]
    refine List.nodup_append.2 ⟨hk.nd, (List.nodup_append.1 hnd).2.1, fun b hb b' hb' he => ?_⟩
    subst he
    obtain ⟨x, hx, hbx⟩ := List.mem_flatMap.1 hb
    obtain ⟨y, hy, hby⟩ := List.mem_flatMap.1 hb'
    rcases hk.inM x hx b hbx with h1 | h1
    · exact hne y hy b hby h1
    · have := h.lt y (List.mem_cons_of_mem _ hy) b hby
      omega
  · rcases List.mem_append.1 hx with hx | hx
    · rcases hk.inM x hx b hb with h1 | h1
      · exact h.inM e List.mem_cons_self b h1
      · exact .inr (Nat.le_trans h.size h1)
    · exact h.inM x (List.mem_cons_of_mem _ hx) b hb
/-- A step that writes nothing that was there. -/
theorem St.grow {w0 w w' : World} {M : Nat → Prop} {L N : List Ent} (h : St w0 M L w) (hk : St w no N w') : St w0 M (N ++ L) w' := by
  have h1 : St w0 M (⟨[], fun _ => True, fun _ _ _ h => h⟩ :: L) w :=
    ⟨h.os, h.tape, h.output, h.size, h.keep, fun e he => by rcases List.mem_cons.1 he with rfl | he; trivial; exact h.ok e he,
      fun e he => by rcases List.mem_cons.1 he with rfl | he; (intro b hb; cases hb); exact h.lt e he, by simpa [List.flatMap_cons] using h.nd,
      fun e he => by rcases List.mem_cons.1 he with rfl | he; (intro b hb; cases hb); exact h.inM e he⟩
  refine h1.turn ⟨hk.os, hk.tape, hk.output, hk.size, fun b hb _ => hk.keep b hb (fun h => h), hk.ok, hk.lt, hk.nd, fun e he b hb => ?_⟩
  rcases hk.inM e he b hb with h | h
  · exact h.elim
  · exact .inr h
/-- several resources taken together -/
def both (e f : Ent) : Ent := ⟨e.foot ++ f.foot, fun w => e.ok w ∧ f.ok w, fun w w' h hk => ⟨e.loc w w' (fun b hb => h b (List.mem_append_left _ hb)) hk.1, f.loc w w' (fun b hb => h b (List.mem_append_right _ hb)) hk.2⟩⟩
theorem St.join {w0 w : World} {M : Nat → Prop} {L : List Ent} {e f : Ent} (h : St w0 M (e :: f :: L) w) : St w0 M (both e f :: L) w :=
  ⟨h.os, h.tape, h.output, h.size, h.keep,
    fun x hx => by
      rcases List.mem_cons.1 hx with rfl | hx
      · exact ⟨h.ok e (by simp), h.ok f (by simp)⟩
      · exact h.ok x (by simp [hx]),
    fun x hx b hb => by
      rcases List.mem_cons.1 hx with rfl | hx
      · rcases List.mem_append.1 hb with hb | hb
        · exact h.lt e (by simp) b hb
        · exact h.lt f (by simp) b hb
      · exact h.lt x (by simp [hx]) b hb,
    by simpa [List.flatMap_cons, both] using h.nd,
    fun x hx b hb => by
      rcases List.mem_cons.1 hx with rfl | hx
      · rcases List.mem_append.1 hb with hb | hb
        · exact h.inM e (by simp) b hb
        · exact h.inM f (by simp) b hb
      · exact h.inM x (by simp [hx]) b hb⟩
theorem St.part {w0 w : World} {M : Nat → Prop} {L : List Ent} {e f : Ent} (h : St w0 M (both e f :: L) w) : St w0 M (e :: f :: L) w :=
  ⟨h.os, h.tape, h.output, h.size, h.keep,
    fun x hx => by
      rcases List.mem_cons.1 hx with rfl | hx
      · exact (h.ok _ List.mem_cons_self).1
      · rcases List.mem_cons.1 hx with rfl | hx
        · exact (h.ok _ List.mem_cons_self).2
        · exact h.ok x (by simp [hx]),
    fun x hx b hb => by
      rcases List.mem_cons.1 hx with rfl | hx
      · exact h.lt _ List.mem_cons_self b (List.mem_append_left _ hb)
      · rcases List.mem_cons.1 hx with rfl | hx
        · exact h.lt _ List.mem_cons_self b (List.mem_append_right _ hb)
        · exact h.lt x (by simp [hx]) b hb,
    by simpa [List.flatMap_cons, both] using h.nd,
    fun x hx b hb => by
      rcases List.mem_cons.1 hx with rfl | hx
      · exact h.inM _ List.mem_cons_self b (List.mem_append_left _ hb)
      · rcases List.mem_cons.1 hx with rfl | hx
        · exact h.inM _ List.mem_cons_self b (List.mem_append_right _ hb)
        · exact h.inM x (by simp [hx]) b hb⟩
/-- a resource seen otherwise -/
theorem St.conv {w0 w : World} {M : Nat → Prop} {L : List Ent} {e f : Ent} (h : St w0 M (e :: L) w) (hf : f.foot = e.foot) (hok : e.ok w → f.ok w) : St w0 M (f :: L) w :=
  ⟨h.os, h.tape, h.output, h.size, h.keep,
    fun x hx => by
      rcases List.mem_cons.1 hx with rfl | hx
      · exact hok (h.ok e List.mem_cons_self)
      · exact h.ok x (by simp [hx]),
    fun x hx b hb => by
      rcases List.mem_cons.1 hx with rfl | hx
      · exact h.lt e List.mem_cons_self b (hf ▸ hb)
      · exact h.lt x (by simp [hx]) b hb,
    by have := h.nd; simp only [List.flatMap_cons, hf] at this ⊢; exact this,
    fun x hx b hb => by
      rcases List.mem_cons.1 hx with rfl | hx
      · exact h.inM e List.mem_cons_self b (hf ▸ hb)
      · exact h.inM x (by simp [hx]) b hb⟩

/-! ### 3. One operation, and a region in an order of my choosing -/
/-- the widest fence: of an activation, or of a round of loop r -/
def Fr (r : Option Nat) : Fence := { Fence.wide with round := r }
theorem fr_room {r : Option Nat} {n : Nat} : (Fr r).room n := fun _ h => by cases h
theorem fr_calls {r : Option Nat} {n : Nat} {P : Program} {f : FuncId} {args : Array Value} {w : World} {R : Ending → World → Prop} (h : Calls P f args w R) : CallsIn (Fr r) n P f args w R :=
  ⟨trivial, fun cs _ => (callsIn_wide (n := 0).2 h).2 cs (room_wide _)⟩
/-- a round's contract -/
def Rounds (P : Program) (l : Nat) (f : FuncId) (tmps : Array Value) (assign body : Code) (w : World) (R : Ending → World → Prop) : Prop := RoundIn Fence.wide 0 P l f tmps assign body w R
theorem Rounds.mono {P : Program} {l : Nat} {f : FuncId} {tmps : Array Value} {assign body : Code} {w : World} {R R' : Ending → World → Prop} (h : Rounds P l f tmps assign body w R) (hr : ∀ e w', R e w' → R' e w') : Rounds P l f tmps assign body w R' := RoundIn.mono h hr
theorem fr_rounds {r : Option Nat} {n : Nat} {P : Program} {l : Nat} {f : FuncId} {tmps : Array Value} {assign body : Code} {w : World} {R : Ending → World → Prop} (h : Rounds P l f tmps assign body w R) : RoundIn (Fr r) n P l f tmps assign body w R :=
  ⟨trivial, fun c cs _ => h.2 c cs (room_wide _)⟩
theorem rounds_of {n : Nat} {P : Program} {l : Nat} {f : FuncId} {tmps : Array Value} {assign body : Code} {w : World} {R : Ending → World → Prop} (h : RoundIn (Fr none) n P l f tmps assign body w R) : Rounds P l f tmps assign body w R :=
  ⟨trivial, fun c cs _ => h.2 c cs (room_wide _)⟩

section
variable {P : Program}

/-- The operation is carried out, it neither panics nor ends: then K. -/
def exec (P : Program) (o : Oper) (a : Act) (w : World) (K : Act → World → Prop) : Prop :=
  match (execOp a.eval o).run P w with
  | .ok (.value v) w' => K (a.put o.dst v) w'
  | .ok .skip w' => K (a.put o.dst undef) w'
  | .ok (.enter f args) w' => Calls P f args w' fun e w'' => ∃ v, e = .returned v ∧ K (a.put o.dst v) w''
  | .ok (.round l f tmps assign body) w' => Rounds P l f tmps assign body w' fun e w'' => ∃ v, e = .returned v ∧ K (a.put o.dst v) w''
  | _ => False
theorem exec_mono {o : Oper} {a : Act} {w : World} {K K' : Act → World → Prop} (h : exec P o a w K) (hk : ∀ a w, K a w → K' a w) : exec P o a w K' := by
  unfold exec at h ⊢
  generalize (execOp a.eval o).run P w = r at *
  cases r with
  | ok n w' =>
    cases n <;> simp only at h ⊢ <;> first
      | exact hk _ _ h
      | exact h.elim
      | exact Calls.mono h (fun e w'' ⟨v, he, h⟩ => ⟨v, he, hk _ _ h⟩)
      | exact Rounds.mono h (fun e w'' ⟨v, he, h⟩ => ⟨v, he, hk _ _ h⟩)
  | halt x w' => exact h.elim

theorem exec_wp {r : Option Nat} {n : Nat} {o : Oper} {a : Act} {w : World} {K : Act → World → Prop} {Q : Exit → Act → World → Prop} (h : exec P o a w K) : o.wpIn (Fr r) n P a w K Q := by
  refine ⟨fun _ _ => trivial, ?_⟩
  by_cases hd : ∃ c, o.op = .defer c
  · exfalso
    obtain ⟨c, hc⟩ := hd
    unfold exec at h
    have hx : execOp a.eval o = (do let d ← resolve a.eval c o.type; pure (.defer d)) := by
      unfold execOp; simp [hc]
    rw [hx] at h
    cases hr : (resolve a.eval c o.type).run P w with
    | ok d w' => simp [hr] at h
    | halt x w' => simp [hr] at h
  · have hs : o.semAt (Fr r).round a.eval = execOp a.eval o := Oper.semAt_eq _ _ _ fun c hc => hd ⟨c, hc⟩
    rw [hs]
    unfold exec at h
    generalize (execOp a.eval o).run P w = r at *
    cases r with
    | ok n w' =>
      cases n <;> simp only [Oper.uponIn] at h ⊢ <;> first
        | exact h
        | exact h.elim
        | exact ⟨fun h => (by cases h), fr_calls (Calls.mono h (fun e w'' ⟨v, he, hk⟩ => by subst he; exact hk))⟩
        | exact ⟨fun h => (by cases h), fr_rounds (Rounds.mono h (fun e w'' ⟨v, he, hk⟩ => by subst he; exact hk))⟩
    | halt x w' => exact h.elim

/-- the walk: each operation, and whether it is carried out where it stands (true), or read in every world that meets S (false) -/
def wpLex (P : Program) (ops : Array Oper) (S : World → Prop) (Q : Act → World → Prop) : List (Oper × Bool) → Act → World → Prop
  | [], a, w => Q a w
  | (o, true) :: rest, a, w => if Region.wanted o (yielded ops a.tmps) then exec P o a w (fun a' w' => S w' ∧ wpLex P ops S Q rest a' w') else wpLex P ops S Q rest (a.put o.dst undef) w
  | (o, false) :: rest, a, w => ∃ v, YieldsIf P ops S o v a ∧ wpLex P ops S Q rest (a.put o.dst v) w

/-- the operations of a region that is walked in the order of the text -/
def plain (l : List Oper) : List (Oper × Bool) := l.map fun o => (o, true)

theorem wpList_of_lex {r : Option Nat} {ops : Array Oper} {S : World → Prop} {Q : Exit → Act → World → Prop} : ∀ (l : List Oper) (k : Nat) (a : Act) (w : World), (∀ j, l[j]? = ops[k + j]?) →
    wpLex P ops S (Q .normal) (plain l) a w → wpOpsIn (Fr r) 0 P ops Q ((List.range l.length).map (k + ·)) a w
  | [], _, _, _, _, h => h
  | o :: l, k, a, w, hl, h => by
    have h0 : ops[k]? = some o := by simpa using (hl 0).symm
    have ih := fun a' w' => wpList_of_lex (r := r) (S := S) (Q := Q) l (k + 1) a' w' (fun j => by have := hl (j + 1); simpa [Nat.add_assoc, Nat.add_comm 1 j] using this)
    have hr : (List.range (o :: l).length).map (k + ·) = k :: (List.range l.length).map (k + 1 + ·) := by
      rw [List.length_cons, List.range_succ_eq_map]
      simp [List.map_map, Function.comp_def, Nat.add_assoc, Nat.add_comm 1]
    rw [hr, wpOpsIn_cons]
    unfold wpOpIn
    simp only [h0]
    simp only [plain, List.map_cons, wpLex] at h
    split
    · rename_i hw
      rw [if_pos hw] at h
      exact exec_wp (exec_mono h fun a w hk => ih _ _ hk.2)
    · rename_i hw
      rw [if_neg hw] at h
      exact ⟨fun _ _ => trivial, ih _ _ h⟩

/-- A region in the order of the text. -/
theorem wp_region_plain {r : Option Nat} {id : Nat} {l : List Oper} {Q : Exit → Act → World → Prop} {a : Act} {w : World} (h : wpLex P l.toArray (fun _ => True) (Q .normal) (plain l) a w) : (Code.region id l.toArray false).wpIn (Fr r) 0 P Q a w := by
  refine wpIn_region ?_
  have := wpList_of_lex (r := r) (S := fun _ => True) (Q := Q) l 0 a w (by simp) h
  simpa using this

/-- pick operations in an order -/
def pickOps (ops : Array Oper) (π : List (Nat × Bool)) : List (Oper × Bool) := π.map fun p => (ops.getD p.1 default, p.2)

/-- is this an order by which one may go? -/
def ordOK (md : Region.Mode) (ops : Array Oper) : List (Nat × Bool) → Array Bool → Bool
  | [], listed => (Region.ready md ops listed).isEmpty
  | (k, true) :: π, listed => (Region.ready md ops listed == [k]) && decide (k < ops.size) && ordOK md ops π (listed.setIfInBounds k true)
  | (k, false) :: π, listed => (Region.ready md ops listed).contains k && Region.free md ops listed k && decide (k < ops.size) && ordOK md ops π (listed.setIfInBounds k true)

/-! In a round as anywhere: the laws of regions that draw, with 'S'. No operation is a defer statement. -/
def isDefer (o : Oper) : Bool := match o.op with | .defer _ => true | _ => false
def noDefer (ops : Array Oper) : Bool := ops.all fun o => !isDefer o
theorem noDefer_spec {ops : Array Oper} (h : noDefer ops = true) {i : Nat} {o : Oper} (hi : ops[i]? = some o) : ∀ c, o.op ≠ .defer c := fun c hc => by
  obtain ⟨hlt, he⟩ := Array.getElem?_eq_some_iff.1 hi
  have := Array.all_eq_true.1 h i hlt
  rw [he] at this
  simp [isDefer, hc] at this
section
variable {r : Option Nat} {n : Nat} {ops : Array Oper} {Q : Exit → Act → World → Prop} {md : Region.Mode} {S : World → Prop}
theorem yieldsIf_wpOpIn {i : Nat} {o : Oper} {v : Value} {a : Act} (hi : ops[i]? = some o) (hnd : ∀ c, o.op ≠ .defer c) (hy : YieldsIf P ops S o v a)
    {K : Act → World → Prop} {w : World} (hS : S w) (h : K (a.put o.dst v) w) : wpOpIn (Fr r) n P ops Q i K a w := by
  unfold wpOpIn
  simp only [hi]
  rcases hy with ⟨hw, hv⟩ | ⟨hw, rfl⟩
  · simp only [hw, if_true, Oper.wpIn, Oper.semAt_eq _ _ _ hnd, hv w hS, Oper.uponIn]; exact ⟨fun _ _ => trivial, h⟩
  · simp only [hw, Bool.false_eq_true, if_false]; exact ⟨fun _ _ => trivial, h⟩
theorem wpOpIn_putIf {j : Nat} {oi oj : Oper} {v : Value} (hj : ops[j]? = some oj) (hnd : ∀ c, oj.op ≠ .defer c) (hap : oi.apart ops oj = true)
    (hsi : ∀ cs b, oi.op ≠ .select cs b) (hsj : ∀ cs b, oj.op ≠ .select cs b)
    (hQ : ∀ c a w, Q (.panic c) (a.put oi.dst v) w → Q (.panic c) a w) {K : Act → World → Prop} {a : Act} {w : World}
    (hy : YieldsIf P ops S oi v a) (h : wpOpIn (Fr r) n P ops Q j K (a.put oi.dst v) w) :
    wpOpIn (Fr r) n P ops Q j (fun a' w' => YieldsIf P ops S oi v a' ∧ K (a'.put oi.dst v) w') a w := by
  obtain ⟨h1, h2, h3⟩ := Oper.apart_spec hap
  have keep : ∀ (a : Act), YieldsIf P ops S oi v a → ∀ u, YieldsIf P ops S oi v (a.put oj.dst u) := fun a hy u =>
    hy.of_same (execOp_put oi hsi a oj.dst u h3) (wanted_put oi a oj.dst u h3)
  have keepD : ∀ d, YieldsIf P ops S oi v { a with defers := d :: a.defers } := fun d => hy.of_same rfl rfl
  unfold wpOpIn at *
  simp only [hj] at *
  rw [wanted_put oj a oi.dst v h1] at h
  split
  · rename_i hw
    simp only [hw, if_true] at h
    unfold Oper.wpIn at *
    refine ⟨fun _ _ => trivial, ?_⟩
    have h := h.2
    rw [Oper.semAt_eq _ _ _ hnd, execOp_put oj hsj a oi.dst v h1] at h
    rw [Oper.semAt_eq _ _ _ hnd]
    generalize (execOp a.eval oj).run P w = r at *
    cases r with
    | ok x w' =>
      cases x <;> simp only [Oper.uponIn] at h ⊢
      case value u => exact ⟨keep a hy u, by rw [← Act.put_comm a v u h2]; exact h⟩
      case skip => exact ⟨keep a hy _, by rw [← Act.put_comm a v undef h2]; exact h⟩
      case defer d =>
        refine ⟨keep _ (keepD d) _, ?_⟩
        rw [← Act.put_comm _ v undef h2, ← Act.put_defers]
        exact h
      case enter f args =>
        refine ⟨h.1, CallsIn.mono h.2 fun e w'' he => ?_⟩
        cases e with
        | returned u => exact ⟨keep a hy u, by rw [← Act.put_comm a v u h2]; exact he⟩
        | panicked c => exact hQ _ _ _ he
        | outgrown => exact he
      case row row args => exact ⟨h.1, RowsIn.mono h.2 fun u w'' he => ⟨keep a hy u, by rw [← Act.put_comm a v u h2]; exact he⟩⟩
      case round l f tmps assign body =>
        refine ⟨h.1, RoundIn.mono h.2 fun e w'' he => ?_⟩
        cases e with
        | returned u => exact ⟨keep a hy u, by rw [← Act.put_comm a v u h2]; exact he⟩
        | panicked c => exact hQ _ _ _ he
        | outgrown => exact he
    | halt x w' =>
      cases x <;> simp only [Oper.uponIn] at h ⊢
      case panic u => exact hQ _ _ _ h
  · rename_i hw
    simp only [hw] at h
    exact ⟨fun _ _ => trivial, keep a hy _, by rw [← Act.put_comm a v undef h2]; exact h.2⟩
/-! Two conditions: S2 holds till the first late operation comes up; S1 holds throughout. -/
def NoLate (late : List Nat) (listed : Array Bool) : Prop := ∀ l ∈ late, listed.getD l false = false
def Closed (md : Region.Mode) (ops : Array Oper) (listed : Array Bool) : Prop := ∀ k, listed.getD k false = true → ∀ o, ops[k]? = some o → ∀ e ∈ o.after, Region.binds md e = true → listed.getD e.on false = true
def reach (md : Region.Mode) (ops : Array Oper) : Nat → Nat → Nat → Bool
  | 0, _, _ => false
  | f + 1, j, i => match ops[j]? with
    | none => false
    | some o => o.after.any fun e => Region.binds md e && (e.on == i || reach md ops f e.on i)
theorem reach_listed {listed : Array Bool} (hc : Closed md ops listed) {i : Nat} : ∀ (f j : Nat), listed.getD j false = true → reach md ops f j i = true → listed.getD i false = true
  | 0, _, _, h => by cases h
  | f + 1, j, hj, h => by
    unfold reach at h
    cases ho : ops[j]? with
    | none => rw [ho] at h; cases h
    | some o =>
      rw [ho] at h
      simp only [Array.any_eq_true'] at h
      obtain ⟨e, he, hb⟩ := h
      simp only [Bool.and_eq_true, Bool.or_eq_true, beq_iff_eq] at hb
      have h1 := hc j hj o ho e he hb.1
      rcases hb.2 with h2 | h2
      · exact h2 ▸ h1
      · exact reach_listed hc f e.on h1 h2
theorem Closed.step {listed : Array Bool} (hc : Closed md ops listed) {j : Nat} (hj : j ∈ Region.ready md ops listed) : Closed md ops (listed.setIfInBounds j true) := by
  intro k hk o ho e he hb
  by_cases hkj : j = k
  · subst hkj
    obtain ⟨_, o', ho', hall⟩ := mem_ready.1 hj
    rw [ho] at ho'
    cases ho'
    exact getD_set_true (hall e he hb)
  · rw [getD_set_ne false hkj] at hk
    exact getD_set_true (hc k hk o ho e he hb)
theorem NoLate.back {late : List Nat} {listed : Array Bool} {i : Nat} (h : NoLate late (listed.setIfInBounds i true)) : NoLate late listed := fun l hl => by
  cases hx : listed.getD l false with
  | false => rfl
  | true => have := getD_set_true (i := i) hx; rw [h l hl] at this; cases this
theorem NoLate.on {late : List Nat} {listed : Array Bool} {i : Nat} (h : NoLate late listed) (hi : i ∉ late) : NoLate late (listed.setIfInBounds i true) := fun l hl => by
  have hne : i ≠ l := fun e => hi (by rw [e]; exact hl)
  rw [getD_set_ne false hne]; exact h l hl
def Inv2 (S1 S2 : World → Prop) (late : List Nat) (listed : Array Bool) (w : World) : Prop := S1 w ∧ (NoLate late listed → S2 w)
variable {S1 S2 : World → Prop} {late : List Nat}
def wpAnyHIn (r : Option Nat) (n : Nat) (P : Program) (md : Region.Mode) (ops : Array Oper) (Q : Exit → Act → World → Prop) (S1 S2 : World → Prop) (late : List Nat) : Nat → Array Bool → Act → World → Prop
  | 0, listed, a, w => Region.ready md ops listed = [] ∧ Q .normal a w
  | fuel + 1, listed, a, w =>
    (Region.ready md ops listed = [] → Q .normal a w) ∧
    ∀ i ∈ Region.ready md ops listed, wpOpIn (Fr r) n P ops Q i (fun a' w' => Inv2 S1 S2 late (listed.setIfInBounds i true) w' ∧ wpAnyHIn r n P md ops Q S1 S2 late fuel (listed.setIfInBounds i true) a' w') a w
theorem wpAnyIn_of_held : ∀ (fuel : Nat) (listed : Array Bool) (a : Act) (w : World), wpAnyHIn r n P md ops Q S1 S2 late fuel listed a w → wpAnyIn (Fr r) n P md ops Q fuel listed a w
  | 0, _, _, _, h => h
  | fuel + 1, _, _, _, h => ⟨h.1, fun i hi => wpOpIn_mono (fun a' w' h' => wpAnyIn_of_held fuel _ a' w' h'.2) (h.2 i hi)⟩
theorem wpAnyHIn_first {i : Nat} {oi : Oper} {v : Value} (hi : ops[i]? = some oi) (hnd : noDefer ops = true) (hsel : ∀ (j : Nat) (o : Oper) cs b, ops[j]? = some o → o.op ≠ .select cs b)
    (hQ : ∀ c a w, Q (.panic c) (a.put oi.dst v) w → Q (.panic c) a w) (hil : i ∉ late) (hSi : ∀ listed w, Closed md ops listed → listed.getD i true = false → Inv2 S1 S2 late listed w → S w) :
    ∀ (fuel : Nat) (listed : Array Bool) (a : Act) (w : World),
      (∀ j oj, ops[j]? = some oj → j ≠ i → listed.getD j true = false → (∀ e ∈ oj.after, Region.binds md e = true → e.on ≠ i) → oi.apart ops oj = true) →
      i ∈ Region.ready md ops listed → YieldsIf P ops S oi v a → Closed md ops listed → Inv2 S1 S2 late listed w →
      wpAnyHIn r n P md ops Q S1 S2 late fuel (listed.setIfInBounds i true) (a.put oi.dst v) w → wpAnyHIn r n P md ops Q S1 S2 late (fuel + 1) listed a w := by
  intro fuel
  induction fuel with
  | zero =>
    intro listed a w _ hr hy hcl hS H
    refine ⟨fun h => (by rw [h] at hr; cases hr), fun j hj => ?_⟩
    by_cases hji : j = i
    · subst hji; exact yieldsIf_wpOpIn hi (noDefer_spec hnd hi) hy (hSi _ _ hcl (mem_ready.1 hr).1 hS) ⟨⟨hS.1, fun hn => hS.2 hn.back⟩, H⟩
    · have := ready_mono hj hji
      rw [H.1] at this
      cases this
  | succ fuel ih =>
    intro listed a w hfree hr hy hcl hS H
    refine ⟨fun h => (by rw [h] at hr; cases hr), fun j hj => ?_⟩
    by_cases hji : j = i
    · subst hji; exact yieldsIf_wpOpIn hi (noDefer_spec hnd hi) hy (hSi _ _ hcl (mem_ready.1 hr).1 hS) ⟨⟨hS.1, fun hn => hS.2 hn.back⟩, H⟩
    · have h1 := H.2 j (ready_mono hj hji)
      obtain ⟨hjun, oj, hoj, hall⟩ := mem_ready.1 hj
      have hnot : ∀ e ∈ oj.after, Region.binds md e = true → e.on ≠ i := fun e he hb heq => by
        have h1 := hall e he hb
        have h0 := (mem_ready.1 hr).1
        rw [heq] at h1
        rcases Nat.lt_or_ge i listed.size with h' | h'
        · simp [h'] at h0 h1; rw [h0] at h1; cases h1
        · simp [Array.getElem?_eq_none h'] at h1
      have h2 := wpOpIn_putIf hoj (noDefer_spec hnd hoj) (hfree j oj hoj hji hjun hnot) (fun cs b => hsel i oi cs b hi) (fun cs b => hsel j oj cs b hoj) hQ hy h1
      have hfree' : ∀ k ok, ops[k]? = some ok → k ≠ i → (listed.setIfInBounds j true).getD k true = false →
          (∀ e ∈ ok.after, Region.binds md e = true → e.on ≠ i) → oi.apart ops ok = true := fun k ok hk hki hun hno => by
        refine hfree k ok hk hki ?_ hno
        by_cases hjk : j = k
        · subst hjk; exact hjun
        · rw [getD_set_ne true hjk] at hun; exact hun
      refine wpOpIn_mono (fun a' w' h3 => ?_) h2
      have hinv : Inv2 S1 S2 late (listed.setIfInBounds j true) w' := ⟨h3.2.1.1, fun hn => h3.2.1.2 (by rw [Array.setIfInBounds_comm _ _ (Ne.symm hji)]; exact hn.on hil)⟩
      refine ⟨hinv, ih (listed.setIfInBounds j true) a' w' hfree' (ready_mono hr (Ne.symm hji)) h3.1 (hcl.step hj) hinv ?_⟩
      rw [Array.setIfInBounds_comm _ _ hji]
      exact h3.2.2
theorem wpAnyHIn_all {rs : List Nat} {fuel : Nat} {listed : Array Bool} {a : Act} {w : World} (hr : Region.ready md ops listed = rs) (hne : rs ≠ [])
    (h : ∀ i ∈ rs, wpOpIn (Fr r) n P ops Q i (fun a' w' => Inv2 S1 S2 late (listed.setIfInBounds i true) w' ∧ wpAnyHIn r n P md ops Q S1 S2 late fuel (listed.setIfInBounds i true) a' w') a w) : wpAnyHIn r n P md ops Q S1 S2 late (fuel + 1) listed a w :=
  ⟨fun h0 => absurd (hr ▸ h0) hne, hr ▸ h⟩
theorem wpAnyHIn_done {listed : Array Bool} {a : Act} {w : World} (hr : Region.ready md ops listed = []) (h : Q .normal a w) :
    ∀ fuel, wpAnyHIn r n P md ops Q S1 S2 late fuel listed a w
  | 0 => ⟨hr, h⟩
  | _ + 1 => ⟨fun _ => h, by rw [hr]; simp⟩
/-- the second part of the order: from the first late operation on -/
theorem wpAnyH_late (hs : Region.noSelect ops = true) (hnd : noDefer ops = true)
    (hQ : ∀ c d v a w, Q (.panic c) (Act.put a d v) w → Q (.panic c) a w) : ∀ (π : List (Nat × Bool)) (listed : Array Bool) (fuel : Nat) (a : Act) (w : World), π.length ≤ fuel →
    (∀ k, (k, true) ∈ π → k ∈ late) → (∀ k, (k, false) ∈ π → k ∉ late) → Closed .any ops listed → ordOK .any ops π listed = true → Inv2 S1 S2 late listed w → wpLex P ops S1 (Q .normal) (pickOps ops π) a w → wpAnyHIn r n P .any ops Q S1 S2 late fuel listed a w
  | [], listed, fuel, a, w, _, _, _, _, ho, _, h => wpAnyHIn_done (by simpa [ordOK] using ho) h fuel
  | (k, true) :: π, listed, fuel, a, w, hf, hl, hl', hcl, ho, hS, h => by
    obtain ⟨fuel, rfl⟩ : ∃ m, fuel = m + 1 := ⟨fuel - 1, by simp only [List.length_cons] at hf; omega⟩
    simp only [ordOK, Bool.and_eq_true, beq_iff_eq, decide_eq_true_eq] at ho
    obtain ⟨⟨hr, hk⟩, ho⟩ := ho
    have hkr : k ∈ Region.ready .any ops listed := by rw [hr]; exact List.mem_singleton_self _
    have hkl : k < listed.size := by
      have h0 := (mem_ready.1 hkr).1
      rcases Nat.lt_or_ge k listed.size with h' | h'
      · exact h'
      · simp [Array.getElem?_eq_none h'] at h0
    have hinv : ∀ w', S1 w' → Inv2 S1 S2 late (listed.setIfInBounds k true) w' := fun w' h1 => ⟨h1, fun hn => by
      have := hn k (hl k List.mem_cons_self)
      simp [hkl] at this⟩
    refine wpAnyHIn_all hr (by simp) fun i hi => ?_
    obtain rfl : i = k := by simpa using hi
    have ho' : ops[i]? = some (ops.getD i default) := by simp [hk]
    have ih := fun a' w' hS' => wpAnyH_late hs hnd hQ π (listed.setIfInBounds i true) fuel a' w' (by simp only [List.length_cons] at hf; omega) (fun k hk => hl k (List.mem_cons_of_mem _ hk)) (fun k hk => hl' k (List.mem_cons_of_mem _ hk)) (hcl.step hkr) ho hS'
    simp only [pickOps, List.map_cons, wpLex] at h
    generalize ops.getD i default = o at *
    unfold wpOpIn
    simp only [ho']
    by_cases hw : Region.wanted o (yielded ops a.tmps) = true
    · rw [if_pos hw] at h ⊢
      exact exec_wp (exec_mono h fun a w hk => ⟨hinv w hk.1, ih _ _ (hinv w hk.1) hk.2⟩)
    · rw [if_neg hw] at h ⊢
      exact ⟨fun _ _ => trivial, hinv w hS.1, ih _ _ (hinv w hS.1) h⟩
  | (k, false) :: π, listed, fuel, a, w, hf, hl, hl', hcl, ho, hS, h => by
    obtain ⟨fuel, rfl⟩ : ∃ m, fuel = m + 1 := ⟨fuel - 1, by simp only [List.length_cons] at hf; omega⟩
    simp only [ordOK, Bool.and_eq_true, decide_eq_true_eq] at ho
    obtain ⟨⟨⟨hr, hfr⟩, hk⟩, ho⟩ := ho
    simp only [pickOps, List.map_cons, wpLex] at h
    obtain ⟨v, hy, h⟩ := h
    have hkr : k ∈ Region.ready .any ops listed := by simpa using hr
    have ho' : ops[k]? = some (ops.getD k default) := by simp [hk]
    exact wpAnyHIn_first (S := S1) ho' hnd (Region.noSelect_spec hs) (fun c a w => hQ c _ v a w) (hl' k List.mem_cons_self) (fun _ _ _ _ h => h.1) fuel listed a w (Region.free_spec ho' hfr) hkr hy hcl hS
      (wpAnyH_late hs hnd hQ π _ fuel _ w (by simp only [List.length_cons] at hf; omega) (fun k hk => hl k (List.mem_cons_of_mem _ hk)) (fun k hk => hl' k (List.mem_cons_of_mem _ hk)) (hcl.step hkr) ho ⟨hS.1, fun hn => hS.2 hn.back⟩ h)
/-- the first part: every late operation waits for what is read here -/
theorem wpAnyH_of_lex (hs : Region.noSelect ops = true) (hnd : noDefer ops = true) (h21 : ∀ w, S2 w → S1 w)
    (hQ : ∀ c d v a w, Q (.panic c) (Act.put a d v) w → Q (.panic c) a w) (π2 : List (Nat × Bool)) (h2l : ∀ k, (k, true) ∈ π2 → k ∈ late) (h2l' : ∀ k, (k, false) ∈ π2 → k ∉ late) (f : Nat) :
    ∀ (π : List (Nat × Bool)) (listed : Array Bool) (fuel : Nat) (a : Act) (w : World), π.length + π2.length ≤ fuel →
    (∀ k b, (k, b) ∈ π → k ∉ late ∧ ∀ j ∈ late, reach .any ops f j k = true) → Closed .any ops listed → ordOK .any ops (π ++ π2) listed = true → S2 w → wpLex P ops S2 (fun a w => wpLex P ops S1 (Q .normal) (pickOps ops π2) a w) (pickOps ops π) a w → wpAnyHIn r n P .any ops Q S1 S2 late fuel listed a w
  | [], listed, fuel, a, w, hf, _, hcl, ho, hS, h => wpAnyH_late hs hnd hQ π2 listed fuel a w (by simpa using hf) h2l h2l' hcl (by simpa using ho) ⟨h21 w hS, fun _ => hS⟩ h
  | (k, true) :: π, listed, fuel, a, w, hf, hl, hcl, ho, hS, h => by
    obtain ⟨fuel, rfl⟩ : ∃ m, fuel = m + 1 := ⟨fuel - 1, by simp only [List.length_cons] at hf; omega⟩
    simp only [List.cons_append, ordOK, Bool.and_eq_true, beq_iff_eq, decide_eq_true_eq] at ho
    obtain ⟨⟨hr, hk⟩, ho⟩ := ho
    have hkr : k ∈ Region.ready .any ops listed := by rw [hr]; exact List.mem_singleton_self _
    refine wpAnyHIn_all hr (by simp) fun i hi => ?_
    obtain rfl : i = k := by simpa using hi
    have ho' : ops[i]? = some (ops.getD i default) := by simp [hk]
    have ih := fun a' w' hS' => wpAnyH_of_lex hs hnd h21 hQ π2 h2l h2l' f π (listed.setIfInBounds i true) fuel a' w' (by simp only [List.length_cons] at hf; omega) (fun k b hk => hl k b (List.mem_cons_of_mem _ hk)) (hcl.step hkr) ho hS'
    simp only [pickOps, List.map_cons, wpLex] at h
    generalize ops.getD i default = o at *
    unfold wpOpIn
    simp only [ho']
    by_cases hw : Region.wanted o (yielded ops a.tmps) = true
    · rw [if_pos hw] at h ⊢
      exact exec_wp (exec_mono h fun a w hk => ⟨⟨h21 w hk.1, fun _ => hk.1⟩, ih _ _ hk.1 hk.2⟩)
    · rw [if_neg hw] at h ⊢
      exact ⟨fun _ _ => trivial, ⟨h21 w hS, fun _ => hS⟩, ih _ _ hS h⟩
  | (k, false) :: π, listed, fuel, a, w, hf, hl, hcl, ho, hS, h => by
    obtain ⟨fuel, rfl⟩ : ∃ m, fuel = m + 1 := ⟨fuel - 1, by simp only [List.length_cons] at hf; omega⟩
    simp only [List.cons_append, ordOK, Bool.and_eq_true, decide_eq_true_eq] at ho
    obtain ⟨⟨⟨hr, hfr⟩, hk⟩, ho⟩ := ho
    simp only [pickOps, List.map_cons, wpLex] at h
    obtain ⟨v, hy, h⟩ := h
    have hkr : k ∈ Region.ready .any ops listed := by simpa using hr
    have ho' : ops[k]? = some (ops.getD k default) := by simp [hk]
    obtain ⟨hk1, hk2⟩ := hl k false List.mem_cons_self
    have hnl : ∀ listed : Array Bool, Closed .any ops listed → listed.getD k true = false → NoLate late listed := fun listed hc hun l hl => by
      cases hx : listed.getD l false with
      | false => rfl
      | true =>
        have := reach_listed hc f l hx (hk2 l hl)
        rcases Nat.lt_or_ge k listed.size with h' | h'
        · simp [h'] at hun this; rw [hun] at this; cases this
        · simp [Array.getElem?_eq_none h'] at hun
    exact wpAnyHIn_first (S := S2) ho' hnd (Region.noSelect_spec hs) (fun c a w => hQ c _ v a w) hk1 (fun listed _ hc hun h => h.2 (hnl listed hc hun)) fuel listed a w (Region.free_spec ho' hfr) hkr hy hcl ⟨h21 w hS, fun _ => hS⟩
      (wpAnyH_of_lex hs hnd h21 hQ π2 h2l h2l' f π _ fuel _ w (by simp only [List.length_cons] at hf; omega) (fun k b hk => hl k b (List.mem_cons_of_mem _ hk)) (hcl.step hkr) ho hS h)
end

/-- what a post says of a panic does not hang on the temporaries: here: it says 'never' -/
def NoPanicQ (Q : Exit → Act → World → Prop) : Exit → Act → World → Prop
  | .panic _, _, _ => False
  | e, a, w => Q e a w

/-- A region that draws its order: walked in the order π1, π2: every operation of π2 that is carried out waits for all of π1. -/
def lateOK (ops : Array Oper) (π1 π2 : List (Nat × Bool)) : Bool :=
  π2.all fun p => π1.all (fun q => q.1 != p.1) && (!p.2 || (π1.all (fun q => reach .any ops ops.size p.1 q.1) && π2.all (fun q => q.2 || q.1 != p.1)))
theorem wp_region_ord {r : Option Nat} {id : Nat} {l : List Oper} {S1 S2 : World → Prop} {Q : Exit → Act → World → Prop} {a : Act} {w : World} (π1 π2 : List (Nat × Bool)) (hm : P.follows .mixedOrders = true)
    (hs : (Region.noSelect l.toArray && noDefer l.toArray && lateOK l.toArray π1 π2 && (decide (π1.length + π2.length ≤ l.toArray.size) && ordOK .any l.toArray (π1 ++ π2) (Array.replicate l.toArray.size false))) = true) (h21 : ∀ w, S2 w → S1 w)
    (hS : S2 { w with drawn := w.drawn + 1 }) (h : wpLex P l.toArray S2 (fun a w => wpLex P l.toArray S1 (Q .normal) (pickOps l.toArray π2) a w) (pickOps l.toArray π1) a { w with drawn := w.drawn + 1 }) : (Code.region id l.toArray true).wpIn (Fr r) 0 P Q a w := by
  simp only [Bool.and_eq_true, decide_eq_true_eq] at hs
  obtain ⟨⟨⟨hs1, hs2⟩, hs3⟩, hs4, hs5⟩ := hs
  unfold lateOK at hs3
  simp only [List.all_eq_true, Bool.and_eq_true, Bool.or_eq_true, bne_iff_ne] at hs3
  have hmem : ∀ k, k ∈ (π2.filter (·.2)).map (·.1) ↔ (k, true) ∈ π2 := fun k => by
    simp only [List.mem_map, List.mem_filter]
    constructor
    · rintro ⟨⟨k', b⟩, ⟨h1, h2⟩, h3⟩
      cases h3
      cases h2
      exact h1
    · exact fun h => ⟨(k, true), ⟨h, rfl⟩, rfl⟩
  have := wpIn_region_any (F := Fr r) (n := 0) (id := id) hm (wpAnyIn_of_held _ _ _ _ (wpAnyH_of_lex (r := r) (n := 0) (Q := NoPanicQ Q) (late := (π2.filter (·.2)).map (·.1)) hs1 hs2 h21 (fun _ _ _ _ _ h => h) π2
    (fun k hk => (hmem k).2 hk)
    (fun k hk hk' => by
      have h1 := (hs3 _ ((hmem k).1 hk')).2
      rcases h1 with h1 | ⟨_, h1⟩
      · simp at h1
      · rcases h1 _ hk with h2 | h2
        · cases h2
        · exact h2 rfl)
    l.toArray.size π1 _ _ a _ hs4
    (fun k b hk => ⟨fun hk' => (hs3 _ ((hmem k).1 hk')).1 _ hk rfl, fun j hj => by
      have h1 := (hs3 _ ((hmem j).1 hj)).2
      rcases h1 with h1 | ⟨h1, _⟩
      · simp at h1
      · exact h1 _ hk⟩)
    (fun k hk => by
      exfalso
      simp only [Array.getD_eq_getD_getElem?, Array.getElem?_replicate] at hk
      split at hk <;> cases hk)
    hs5 hS h))
  exact wpIn_mono this fun e a w h => by cases e <;> first | exact h | exact (h : False).elim
end
end Go.Sep
