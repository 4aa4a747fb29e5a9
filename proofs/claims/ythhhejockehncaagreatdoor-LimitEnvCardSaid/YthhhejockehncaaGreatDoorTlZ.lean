/-
  Tree land, part Z: what is to be shown of prepared code, in one formula; less may be known at a loop's head.
-/
import Derived.Test.YthhhejockehncaaGreatDoorTlX
set_option linter.all false
namespace Go.TL
open Go

section
variable {P : Program} {G : Globals} {ro : Option Nat}

/-- The same, or less is known. -/
inductive LeL : List V → List V → Prop
  | nil : LeL [] []
  | any {v l l'} (h : LeL l l') : LeL (.any :: l) (v :: l')
  | same {v l l'} (h : LeL l l') : LeL (v :: l) (v :: l')

theorem LeL.refl : ∀ l : List V, LeL l l
  | [] => .nil
  | _ :: l => .same (LeL.refl l)

theorem LeL.rel {w : World} {M : Nat → Prop} {β : Beta} : ∀ {l l' : List V}, LeL l l' → ∀ {xs : List Value}, RelL w M β l' xs → RelL w M β l xs := by
  intro l l' h
  induction h with
  | nil => intro xs hx; exact hx
  | any h ih =>
    intro xs hx
    match xs, hx with
    | [], hx => exact absurd hx.1 (by simp)
    | x :: xs, hx =>
      have := ih (xs := xs) ⟨by simpa using hx.1, fun j hj y hy => hx.2 (j + 1) (by simpa using hj) y (by simpa using hy)⟩
      refine ⟨by simpa using this.1, fun j hj y hy => ?_⟩
      cases j with
      | zero => exact .any _
      | succ j => exact this.2 j (by simpa using hj) y (by simpa using hy)
  | same h ih =>
    intro xs hx
    match xs, hx with
    | [], hx => exact absurd hx.1 (by simp)
    | x :: xs, hx =>
      have := ih (xs := xs) ⟨by simpa using hx.1, fun j hj y hy => hx.2 (j + 1) (by simpa using hj) y (by simpa using hy)⟩
      refine ⟨by simpa using this.1, fun j hj y hy => ?_⟩
      cases j with
      | zero => exact hx.2 0 (by simp) y (by simpa using hy)
      | succ j => exact this.2 j (by simpa using hj) y (by simpa using hy)

/-- The state (t, s) may be told as (u, s'): less is known, and things of the call's own from k on may be forgotten. -/
def Weak (G : Globals) (k : Nat) (t : List V) (s : List Cell) (u : List V) (s' : List Cell) : Prop :=
  ∀ A w β a, St G A w β s t a → ∃ β', St G A w β' s' u a ∧ β'.take k = β.take k ∧ k ≤ s'.length ∧ (∀ b, Mset β' s' b → Mset β s b) ∧ (∀ c : Nat, c < k → s[c]? = some Cell.mark → s'[c]? = some Cell.mark)

theorem Weak.refl {k : Nat} {t : List V} {s : List Cell} (hk : k ≤ s.length) : Weak G k t s t s := fun _ _ β _ h => ⟨β, h, rfl, hk, fun _ hb => hb, fun _ _ hc => hc⟩

theorem Weak.le {k : Nat} {t u : List V} {s : List Cell} (hk : k ≤ s.length) (h : LeL u t) : Weak G k t s u s := fun _ _ β _ hs => ⟨β, ⟨hs.sr, h.rel hs.tmps, hs.calm⟩, rfl, hk, fun _ hb => hb, fun _ _ hc => hc⟩

theorem Weak.trans {k : Nat} {t u v : List V} {s s' s'' : List Cell} (h1 : Weak G k t s u s') (h2 : Weak G k u s' v s'') : Weak G k t s v s'' := by
  intro A w β a hs
  obtain ⟨β1, a1, a2, a3, a4, a5⟩ := h1 A w β a hs
  obtain ⟨β2, b1, b2, b3, b4, b5⟩ := h2 A w β1 a a1
  exact ⟨β2, b1, b2.trans a2, b3, fun b hb => a4 b (b4 b hb), fun c hc hm => b5 c hc (a5 c hc hm)⟩

theorem weak_ext {w0 w : World} {β0 β β' : Beta} {σ0 s s' : List Cell} (he : Ext w0 β0 σ0 w β s) (hl : β0.length = σ0.length) (hl' : β'.length = s'.length) (h1 : β'.take σ0.length = β.take σ0.length) (h2 : σ0.length ≤ s'.length)
    (h3 : ∀ b, Mset β' s' b → Mset β s b) (h4 : ∀ c : Nat, c < σ0.length → s[c]? = some Cell.mark → s'[c]? = some Cell.mark) : Ext w0 β0 σ0 w β' s' where
  os := he.os
  tape := he.tape
  output := he.output
  size := he.size
  same := he.same
  kept := he.kept
  sub := fun b hb hm => he.sub b hb (h3 b hm)
  pre := by
    obtain ⟨l, hl2⟩ := he.pre
    refine ⟨β'.drop σ0.length, ?_⟩
    have : β.take σ0.length = β0 := by rw [hl2, List.take_append_of_le_length (by omega), ← hl, List.take_length]
    rw [← this, ← h1, List.take_append_drop]
  marks := fun c hc => h4 c (get_lt hc) (he.marks c hc)

end
end Go.TL
