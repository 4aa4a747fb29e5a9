/-
  Tree land, part B: how a state stands after a step of the world: growth, a new row, a store, a row put by, an append in place.
-/
import Derived.Test.YthhhejockehncaaGreatDoorTlA
import Derived.Laws.IdiomCopy
import Derived.Laws.IdiomRangeMap
set_option linter.all false
namespace Go.TL
open Go

theorem Room.of_heap {w w' : World} {b p n : Nat} (h : w'.heap[b]? = w.heap[b]?) (hr : Room w b p n) : Room w' b p n := by
  obtain ⟨arr, t, fr, h1, h2⟩ := hr
  exact ⟨arr, t, fr, h.trans h1, h2⟩

theorem ElemsAt.move {w w' : World} {A : Nat → Prop} {β β' : Beta} {σ σ' : List Cell} {b p s : Nat} {xs : List V} (he : Ext w β σ w' β' σ') (h : w'.heap[b]? = w.heap[b]?)
    (hx : ElemsAt w (Mav A β σ) β b p s xs) : ElemsAt w' (Mav A β' σ') β' b p s xs := fun i hi => by
  obtain ⟨h1, h2, h3⟩ := hx i hi
  refine ⟨h1, h2, fun j hj => ?_⟩
  obtain ⟨x, h4, h5⟩ := h3 j hj
  exact ⟨x, (cell_of_heap (a := ⟨b, p + i * s + j, none⟩) h).trans h4, h5.ext he⟩

theorem get_lt {α : Type} {l : List α} {c : Nat} {x : α} (h : l[c]? = some x) : c < l.length := by
  rcases Nat.lt_or_ge c l.length with hlt | hge
  · exact hlt
  · rw [List.getElem?_eq_none hge] at h; cases h

theorem heap_lt {w : World} {b : Nat} {o : Obj} (h : w.heap[b]? = some o) : b < w.heap.size := by
  rcases Nat.lt_or_ge b w.heap.size with hlt | hge
  · exact hlt
  · rw [Array.getElem?_eq_none hge] at h; cases h

theorem CellOk.free {w : World} {A : Nat → Prop} {β : Beta} {σ : List Cell} {q : Nat × Nat × Nat} {cl : Cell} (h : CellOk w A β σ q cl) (hm : cl.mutable = true) :
    ¬ A q.1 ∧ q.1 < w.heap.size := by
  cases cl with
  | row s xs => exact h.2.2.2
  | held s xs => cases hm
  | dead => cases hm
  | iter s pos => exact h.2
  | mark => exact h.2

/-- A thing of the call's own over a step that leaves its block as it was (if it may be written at all). -/
theorem CellOk.move {w w' : World} {A : Nat → Prop} {β β' : Beta} {σ σ' : List Cell} {q : Nat × Nat × Nat} {cl : Cell} (he : Ext w β σ w' β' σ')
    (hs : cl.mutable = true → w'.heap[q.1]? = w.heap[q.1]?) (h : CellOk w A β σ q cl) : CellOk w' A β' σ' q cl := by
  cases cl with
  | row s xs =>
    obtain ⟨h1, h2, h3, h4, h5⟩ := h
    exact ⟨h1, h2.of_heap (hs rfl), h3.move he (hs rfl), h4, Nat.lt_of_lt_of_le h5 he.size⟩
  | held s xs =>
    obtain ⟨h1, h2, h3⟩ := h
    refine ⟨h1, fun i hi => ?_, fun hne h0 hm => ?_⟩
    · obtain ⟨e1, e2, e3⟩ := h2 i hi
      refine ⟨e1, e2, fun j hj => ?_⟩
      obtain ⟨x, h4, h5⟩ := e3 j hj
      have hne : xs ≠ [] := fun e => by subst e; simp at hi
      exact ⟨x, (cell_of_heap (a := ⟨q.1, q.2.1 + i * s + j, none⟩) (he.same _ (cell_lt h4) (fun hm => h3 hne (by omega) (.inr hm)))).trans h4, h5.ext he⟩
    · have hlt : q.1 < w.heap.size := by
        have hpos : 0 < xs.length := by
          cases xs with
          | nil => exact absurd rfl hne
          | cons a l => simp
        obtain ⟨e1, e2, e3⟩ := h2 0 hpos
        obtain ⟨x, h4, -⟩ := e3 0 (by omega)
        exact cell_lt h4
      exact h3 hne h0 (hm.imp id (he.sub _ hlt))
  | dead => trivial
  | iter s pos =>
    obtain ⟨h1, h2, h3⟩ := h
    exact ⟨(hs rfl).trans h1, h2, Nat.lt_of_lt_of_le h3 he.size⟩
  | mark =>
    obtain ⟨h1, h2, h3⟩ := h
    exact ⟨(hs rfl).trans h1, h2, Nat.lt_of_lt_of_le h3 he.size⟩

/-- A step: what is as it was, and what is new. -/
theorem SR.step {w w' : World} {G : Globals} {A : Nat → Prop} {β β' : Beta} {σ σ' : List Cell} (h : SR G w A β σ) (he : Ext w β σ w' β' σ') (hl : β'.length = σ'.length)
    (hok : ∀ (c : Nat) cl q, σ'[c]? = some cl → β'[c]? = some q → CellOk w' A β' σ' q cl ∨ (σ[c]? = some cl ∧ (cl.mutable = true → w'.heap[q.1]? = w.heap[q.1]?)))
    (hd : ∀ (c c' : Nat) (cl cl' : Cell) b q q', σ'[c]? = some cl → cl.mutable = true → σ'[c']? = some cl' → cl'.mutable = true → β'[c]? = some (b, q) → β'[c']? = some (b, q') → c = c') :
    SR G w' A β' σ' := by
  refine ⟨hl, h.glob.ext he, fun b hb => Nat.lt_of_lt_of_le (h.low b hb) he.size, fun c cl q hc hq => ?_, hd⟩
  rcases hok c cl q hc hq with h1 | ⟨h1, h2⟩
  · exact h1
  · have hlt := get_lt h1
    have hq0 : β[c]? = some q := by
      obtain ⟨l, rfl⟩ := he.pre
      rwa [List.getElem?_append_left (by rw [h.len]; exact hlt)] at hq
    exact (h.ok c cl q h1 hq0).move he h2

/-- The world has grown; nothing that was there has changed. -/
theorem SR.grow {w w' : World} {G : Globals} {A : Nat → Prop} {β : Beta} {σ : List Cell} (h : SR G w A β σ) (hb : RowKit.Below w.heap.size w w') :
    SR G w' A β σ ∧ Ext w β σ w' β σ := by
  have he : Ext w β σ w' β σ := ⟨hb.os, hb.tape, hb.output, hb.size, fun b hlt _ => hb.block b hlt, fun b arr t fr hh => ⟨arr, fr, (hb.block b (heap_lt hh)).trans hh, rfl⟩, fun _ _ hm => hm, ⟨[], by simp⟩, fun _ hc => hc⟩
  exact ⟨h.step he h.len (fun c cl q hc hq => .inr ⟨hc, fun hm => hb.block _ ((h.ok c cl q hc hq).free hm).2⟩) h.dist, he⟩

theorem mset_append {β : Beta} {σ : List Cell} (hl : β.length = σ.length) {cl : Cell} {q : Nat × Nat × Nat} {b : Nat} (h : Mset (β ++ [q]) (σ ++ [cl]) b) : Mset β σ b ∨ (cl.mutable = true ∧ b = q.1) := by
  obtain ⟨c, cl', r, h1, h2, h3⟩ := h
  rcases Nat.lt_trichotomy c σ.length with hlt | heq | hgt
  · rw [List.getElem?_append_left hlt] at h1
    rw [List.getElem?_append_left (by omega)] at h3
    exact .inl ⟨c, cl', r, h1, h2, h3⟩
  · subst heq
    rw [List.getElem?_append_right (Nat.le_refl _)] at h1
    rw [← hl, List.getElem?_append_right (Nat.le_refl _)] at h3
    simp at h1 h3
    subst h1; subst h3
    exact .inr ⟨h2, rfl⟩
  · rw [List.getElem?_eq_none (by simp; omega)] at h1; cases h1

theorem mset_append_left {β : Beta} {σ : List Cell} {cl : Cell} {q : Nat × Nat × Nat} {b : Nat} (h : Mset β σ b) : Mset (β ++ [q]) (σ ++ [cl]) b := by
  obtain ⟨c, cl', r, h1, h2, h3⟩ := h
  exact ⟨c, cl', r, by rw [List.getElem?_append_left (get_lt h1)]; exact h1, h2, by rw [List.getElem?_append_left (get_lt h3)]; exact h3⟩

/-- A new object of the call's own. -/
theorem SR.new {w : World} {G : Globals} {A : Nat → Prop} {β : Beta} {σ : List Cell} (h : SR G w A β σ) (o : Obj) (cl : Cell) (s : Nat) :
    Ext w β σ (w.alloc o) (β ++ [(w.heap.size, 0, s)]) (σ ++ [cl]) ∧
    ((CellOk (w.alloc o) A (β ++ [(w.heap.size, 0, s)]) (σ ++ [cl]) (w.heap.size, 0, s) cl) → SR G (w.alloc o) A (β ++ [(w.heap.size, 0, s)]) (σ ++ [cl])) := by
  have hb : RowKit.Below w.heap.size w (w.alloc o) := (RowKit.Below.refl _ _).alloc (Nat.le_refl _) o
  have he : Ext w β σ (w.alloc o) (β ++ [(w.heap.size, 0, s)]) (σ ++ [cl]) :=
    ⟨hb.os, hb.tape, hb.output, hb.size, fun b hlt _ => hb.block b hlt, fun b arr t fr hh => ⟨arr, fr, (hb.block b (heap_lt hh)).trans hh, rfl⟩,
     fun b hlt hm => (mset_append h.len hm).resolve_right (fun ⟨_, e⟩ => by simp at e; omega), ⟨_, rfl⟩, fun c hc => by rw [List.getElem?_append_left (get_lt hc)]; exact hc⟩
  refine ⟨he, fun hok => h.step he (by simp [h.len]) (fun c cl' q hc hq => ?_) ?_⟩
  · rcases Nat.lt_trichotomy c σ.length with hlt | heq | hgt
    · rw [List.getElem?_append_left hlt] at hc
      rw [List.getElem?_append_left (by rw [h.len]; omega)] at hq
      exact .inr ⟨hc, fun hm => hb.block _ ((h.ok c cl' q hc hq).free hm).2⟩
    · subst heq
      rw [List.getElem?_append_right (Nat.le_refl _)] at hc
      rw [← h.len, List.getElem?_append_right (Nat.le_refl _)] at hq
      simp at hc hq
      subst hc; subst hq
      exact .inl hok
    · rw [List.getElem?_eq_none (by simp; omega)] at hc; cases hc
  · intro c c' cl1 cl2 b q q' h1 m1 h2 m2 b1 b2
    have key : ∀ (c : Nat) (cl1 : Cell) q, (σ ++ [cl])[c]? = some cl1 → cl1.mutable = true → (β ++ [(w.heap.size, 0, s)])[c]? = some (b, q) →
        (c < σ.length ∧ b < w.heap.size ∧ σ[c]? = some cl1 ∧ β[c]? = some (b, q)) ∨ (c = σ.length ∧ b = w.heap.size) := by
      intro c cl1 q h1 m1 b1
      rcases Nat.lt_trichotomy c σ.length with hlt | heq | hgt
      · rw [List.getElem?_append_left hlt] at h1
        rw [List.getElem?_append_left (by rw [h.len]; omega)] at b1
        exact .inl ⟨hlt, ((h.ok c cl1 _ h1 b1).free m1).2, h1, b1⟩
      · subst heq
        rw [← h.len, List.getElem?_append_right (Nat.le_refl _)] at b1
        simp at b1
        exact .inr ⟨rfl, b1.1.symm⟩
      · rw [List.getElem?_eq_none (by simp; omega)] at h1; cases h1
    rcases key c cl1 q h1 m1 b1 with ⟨l1, s1, x1, y1⟩ | ⟨l1, s1⟩ <;> rcases key c' cl2 q' h2 m2 b2 with ⟨l2, s2, x2, y2⟩ | ⟨l2, s2⟩
    · exact h.dist c c' cl1 cl2 b q q' x1 m1 x2 m2 y1 y2
    · omega
    · omega
    · omega

theorem _root_.Go.World.alloc_heap_new' (w : World) (o : Obj) : (w.alloc o).heap[w.heap.size]? = some o := by show (w.heap.push o)[w.heap.size]? = some o; simp

theorem not_avoid_new {w : World} {G : Globals} {A : Nat → Prop} {β : Beta} {σ : List Cell} (h : SR G w A β σ) : ¬ A w.heap.size := fun hA => Nat.lt_irrefl _ (h.low _ hA)

/-- Elements, flat: what lies at the cells of a row. -/
def Flat (w : World) (M : Nat → Prop) (β : Beta) (s : Nat) (xs : List V) (arr : Array Value) : Prop :=
  xs.length * s ≤ arr.size ∧ ∀ i (h : i < xs.length), xs[i].stores = true ∧ xs[i].cells.length = s ∧
    ∀ j (hj : j < (xs[i]'h).cells.length), ∃ x, arr[i * s + j]? = some x ∧ Rel w M β ((xs[i]'h).cells[j]'hj) x

/-- A new row. -/
theorem SR.newRow {w : World} {G : Globals} {A : Nat → Prop} {β : Beta} {σ : List Cell} (h : SR G w A β σ) {s : Nat} {xs : List V} {arr : Array Value} (t : TypeId) (hf : Flat w (Mav A β σ) β s xs arr) :
    SR G (w.alloc (.cells arr t)) A (β ++ [(w.heap.size, 0, s)]) (σ ++ [.row s xs]) ∧
    Ext w β σ (w.alloc (.cells arr t)) (β ++ [(w.heap.size, 0, s)]) (σ ++ [.row s xs]) := by
  obtain ⟨he, hs⟩ := h.new (.cells arr t) (.row s xs) s
  refine ⟨hs ⟨rfl, ⟨arr, t, (0, 0), World.alloc_heap_new' _ _, fun k _ hk => by simp at hk, by simpa using hf.1⟩, fun i hi => ?_, not_avoid_new h, by rw [World.size_alloc]; exact Nat.lt_succ_self _⟩, he⟩
  obtain ⟨h1, h2, h3⟩ := hf.2 i hi
  refine ⟨h1, h2, fun j hj => ?_⟩
  obtain ⟨x, h4, h5⟩ := h3 j hj
  exact ⟨x, by simpa using h4, h5.ext he⟩

end Go.TL
