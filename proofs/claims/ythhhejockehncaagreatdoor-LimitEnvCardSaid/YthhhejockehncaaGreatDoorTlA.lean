/-
  Tree land, part A: values as trees, and how they stand for the model's values in a world.
-/
import Derived.OrdersIn
import Derived.Below
set_option linter.all false
namespace Go.TL
open Go

/-- A value as a tree. 'ref c i o': a pointer into row c, element i, offset o. 'imm xs o': a pointer into memory that nobody writes, which holds xs. 'sl': a slice in such memory. 'osl c o n': the elements o .. o+n-1 of row c. 'cap0': a slice of no capacity, or nil. 'any': nothing is known. -/
inductive V where
  | bool (b : Bool)
  | int (k : IntKind) (n : Int)
  | str (s : List UInt8)
  | nilp | nils | nilf | nili | nilm
  | ref (c i o : Nat)
  | imm (xs : List V) (o : Nat)
  | sl (xs : List V)
  | osl (c o n : Nat)
  | fn (f : Fn) (first captured : List V)
  | ifc (t : TypeId) (v : V)
  | agg (xs : List V)
  | tup (xs : List V)
  | obj (c : Nat)
  | mp (c : Nat)
  | cap0
  | any
  deriving Inhabited

def V.cells : V → List V
  | .agg xs => xs
  | v => [v]

/-- One cell's value. -/
def V.leaf : V → Bool
  | .agg _ | .tup _ | .any => false
  | _ => true

/-- A value that can lie in memory. -/
def V.stores : V → Bool
  | .agg xs => xs.all V.leaf
  | v => v.leaf

abbrev Beta := List (Nat × Nat × Nat)

inductive Rel (w : World) (M : Nat → Prop) : Beta → V → Value → Prop
  | bool {β} (b) : Rel w M β (.bool b) (.bool b)
  | int {β} (k n) : Rel w M β (.int k n) (.int k n)
  | str {β} (s) : Rel w M β (.str s) (.string ⟨s.toArray⟩)
  | nilp {β} : Rel w M β .nilp (.pointer none)
  | nils {β} : Rel w M β .nils (.slice none 0 0)
  | nilf {β} : Rel w M β .nilf .nilFunc
  | nili {β} : Rel w M β .nili .nilIface
  | nilm {β} : Rel w M β .nilm (.map none)
  | ref {β : Beta} {c i o b p s} (h : β[c]? = some (b, p, s)) : Rel w M β (.ref c i o) (.pointer (some ⟨b, p + i * s + o, none⟩))
  | imm {β : Beta} {xs o b p} (x : Nat → Value) (hl : ∀ v ∈ xs, v.leaf = true)
      (hc : ∀ j, j < xs.length → w.cell? ⟨b, p + j, none⟩ = some (x j) ∧ ¬ M b)
      (hr : ∀ j (h : j < xs.length), Rel w M [] xs[j] (x j)) : Rel w M β (.imm xs o) (.pointer (some ⟨b, p + o, none⟩))
  | sl {β : Beta} {xs b p s cap} (x : Nat → Nat → Value) (hcap : xs.length ≤ cap)
      (hl : ∀ v ∈ xs, v.stores = true ∧ v.cells.length = s)
      (hc : ∀ i j, i < xs.length → j < s → w.cell? ⟨b, p + i * s + j, none⟩ = some (x i j) ∧ ¬ M b)
      (hr : ∀ i j (hi : i < xs.length) (hj : j < (xs[i]'hi).cells.length), Rel w M [] ((xs[i]'hi).cells[j]'hj) (x i j)) :
      Rel w M β (.sl xs) (.slice (some ⟨b, p, none⟩) xs.length cap)
  | sl0 {β : Beta} (a : Option Addr) (cap : Nat) (h : a = none → cap = 0) : Rel w M β (.sl []) (.slice a 0 cap)
  | osl {β : Beta} {c o n b p s cap arr t fr} (h : β[c]? = some (b, p, s)) (hcap : n ≤ cap) (hb : w.heap[b]? = some (.cells arr t fr)) (hz : p + (o + cap) * s ≤ arr.size) :
      Rel w M β (.osl c o n) (.slice (some ⟨b, p + o * s, none⟩) n cap)
  | osl0 {β : Beta} {c o q} (b p : Nat) (h : β[c]? = some q) : Rel w M β (.osl c o 0) (.slice (some ⟨b, p, none⟩) 0 0)
  | fn {β : Beta} {f fi ca fa cb} (h1 : fa.size = fi.length) (h2 : cb.size = ca.length)
      (r1 : ∀ j (h : j < fi.length), Rel w M β fi[j] (fa.getD j default)) (r2 : ∀ j (h : j < ca.length), Rel w M β ca[j] (cb.getD j default)) :
      Rel w M β (.fn f fi ca) (.func f fa cb)
  | ifc {β : Beta} {t v x} (h : Rel w M β v x) (hs : v.stores = true) : Rel w M β (.ifc t v) (.iface t x)
  | agg {β : Beta} {xs arr} (h1 : arr.size = xs.length) (hl : ∀ v ∈ xs, v.leaf = true) (r1 : ∀ j (h : j < xs.length), Rel w M β xs[j] (arr.getD j default)) :
      Rel w M β (.agg xs) (.agg arr)
  | tup {β : Beta} {xs arr} (h1 : arr.size = xs.length) (r1 : ∀ j (h : j < xs.length), Rel w M β xs[j] (arr.getD j default)) :
      Rel w M β (.tup xs) (.tuple arr)
  | obj {β : Beta} {c b q} (h : β[c]? = some (b, q)) : Rel w M β (.obj c) (.pointer (some ⟨b, 0, none⟩))
  | mp {β : Beta} {c b q} (h : β[c]? = some (b, q)) : Rel w M β (.mp c) (.map (some b))
  | cap0 {β : Beta} (a : Option Addr) : Rel w M β .cap0 (.slice a 0 0)
  | any {β : Beta} (x) : Rel w M β .any x

/-- Pointwise, on lists. -/
def RelL (w : World) (M : Nat → Prop) (β : Beta) (vs : List V) (xs : List Value) : Prop :=
  xs.length = vs.length ∧ ∀ j (h : j < vs.length) x, xs[j]? = some x → Rel w M β vs[j] x

/-- What a call owns: rows, and other objects. -/
inductive Cell where
  | row (s : Nat) (xs : List V)
  | held (s : Nat) (xs : List V)
  | dead
  | iter (s : List UInt8) (pos : Nat)
  | mark
  deriving Inhabited

def Cell.mutable : Cell → Bool
  | .row .. | .iter .. | .mark => true
  | _ => false

/-- The blocks that may be written. -/
def Mset (β : Beta) (σ : List Cell) (b : Nat) : Prop := ∃ (c : Nat) (cl : Cell) (q : Nat × Nat), σ[c]? = some cl ∧ cl.mutable = true ∧ β[c]? = some (b, q)
def Mav (A : Nat → Prop) (β : Beta) (σ : List Cell) (b : Nat) : Prop := A b ∨ Mset β σ b

/-- The elements xs, of s cells each, lie from place p of block b on. -/
def ElemsAt (w : World) (M : Nat → Prop) (β : Beta) (b p s : Nat) (xs : List V) : Prop :=
  ∀ i (h : i < xs.length), xs[i].stores = true ∧ xs[i].cells.length = s ∧
    ∀ j (hj : j < xs[i].cells.length), ∃ x, w.cell? ⟨b, p + i * s + j, none⟩ = some x ∧ Rel w M β ((xs[i]'h).cells[j]'hj) x

/-- A block of cells none of which is frozen, with room for n cells from p on. -/
def Room (w : World) (b p n : Nat) : Prop :=
  ∃ arr t fr, w.heap[b]? = some (.cells arr t fr) ∧ (∀ k, k ≤ arr.size → ¬ (fr.1 ≤ k ∧ k < fr.2)) ∧ p + n ≤ arr.size

/-- What is known of one of the call's own things, at the place q. -/
def CellOk (w : World) (A : Nat → Prop) (β : Beta) (σ : List Cell) (q : Nat × Nat × Nat) : Cell → Prop
  | .row s xs => q.2.2 = s ∧ Room w q.1 q.2.1 (xs.length * s) ∧ ElemsAt w (Mav A β σ) β q.1 q.2.1 s xs ∧ ¬ A q.1 ∧ q.1 < w.heap.size
  | .held s xs => q.2.2 = s ∧ ElemsAt w (Mav A β σ) β q.1 q.2.1 s xs ∧ (xs ≠ [] → s ≠ 0 → ¬ Mav A β σ q.1)
  | .iter s pos => w.heap[q.1]? = some (.stringIter ⟨s.toArray⟩ pos) ∧ ¬ A q.1 ∧ q.1 < w.heap.size
  | .dead => True
  | .mark => w.heap[q.1]? = some (.deferred (some [])) ∧ ¬ A q.1 ∧ q.1 < w.heap.size

structure Globals where
  vars : List (Nat × V)
  /-- The cells from here on are the frame's own. -/
  base : Nat := 0
def Globals.at (G : Globals) (n : Nat) : Globals := { G with base := n }
/-- The package-level variables that are known, as pointers to what they hold. -/
def Glob (G : Globals) (M : Nat → Prop) (w : World) : Prop := ∀ gv ∈ G.vars, Rel w M [] gv.2 (.pointer (some ⟨gv.1, 0, none⟩))

structure SR (G : Globals) (w : World) (A : Nat → Prop) (β : Beta) (σ : List Cell) : Prop where
  len : β.length = σ.length
  glob : Glob G (Mav A β σ) w
  low : ∀ b, A b → b < w.heap.size
  ok : ∀ (c : Nat) cl q, σ[c]? = some cl → β[c]? = some q → CellOk w A β σ q cl
  dist : ∀ (c c' : Nat) (cl cl' : Cell) b q q', σ[c]? = some cl → cl.mutable = true → σ[c']? = some cl' → cl'.mutable = true → β[c]? = some (b, q) → β[c']? = some (b, q') → c = c'

/-- From one state to a later one. -/
structure Ext (w : World) (β : Beta) (σ : List Cell) (w' : World) (β' : Beta) (σ' : List Cell) : Prop where
  os : w'.os = w.os
  tape : w'.tape = w.tape
  output : w'.output = w.output
  size : w.heap.size ≤ w'.heap.size
  same : ∀ b, b < w.heap.size → ¬ Mset β σ b → w'.heap[b]? = w.heap[b]?
  kept : ∀ (b : Nat) arr t fr, w.heap[b]? = some (.cells arr t fr) → ∃ arr' fr', w'.heap[b]? = some (.cells arr' t fr') ∧ arr'.size = arr.size
  sub : ∀ b, b < w.heap.size → Mset β' σ' b → Mset β σ b
  pre : ∃ l, β' = β ++ l
  marks : ∀ c : Nat, σ[c]? = some Cell.mark → σ'[c]? = some Cell.mark

theorem Ext.refl (w : World) (β : Beta) (σ : List Cell) : Ext w β σ w β σ :=
  ⟨rfl, rfl, rfl, Nat.le_refl _, fun _ _ _ => rfl, fun _ arr _ fr h => ⟨arr, fr, h, rfl⟩, fun _ _ h => h, ⟨[], by simp⟩, fun _ h => h⟩

theorem Ext.trans {w₁ w₂ w₃ : World} {β₁ β₂ β₃ : Beta} {σ₁ σ₂ σ₃ : List Cell} (h : Ext w₁ β₁ σ₁ w₂ β₂ σ₂) (k : Ext w₂ β₂ σ₂ w₃ β₃ σ₃) : Ext w₁ β₁ σ₁ w₃ β₃ σ₃ where
  os := k.os.trans h.os
  tape := k.tape.trans h.tape
  output := k.output.trans h.output
  size := Nat.le_trans h.size k.size
  same := fun b hb hm => (k.same b (Nat.lt_of_lt_of_le hb h.size) (fun hm' => hm (h.sub b hb hm'))).trans (h.same b hb hm)
  kept := fun b arr t fr hb => by
    obtain ⟨arr', fr', h1, h2⟩ := h.kept b arr t fr hb
    obtain ⟨arr'', fr'', h3, h4⟩ := k.kept b arr' t fr' h1
    exact ⟨arr'', fr'', h3, h4.trans h2⟩
  sub := fun b hb hm => h.sub b hb (k.sub b (Nat.lt_of_lt_of_le hb h.size) hm)
  pre := by
    obtain ⟨l, hl⟩ := h.pre
    obtain ⟨l', hl'⟩ := k.pre
    exact ⟨l ++ l', by rw [hl', hl, List.append_assoc]⟩
  marks := fun c hc => k.marks c (h.marks c hc)

theorem Ext.beta {w w' : World} {β β' : Beta} {σ σ' : List Cell} (h : Ext w β σ w' β' σ') {c : Nat} {q : Nat × Nat × Nat} (hc : β[c]? = some q) : β'[c]? = some q := by
  obtain ⟨l, rfl⟩ := h.pre
  rw [List.getElem?_append_left (by
    rcases Nat.lt_or_ge c β.length with hlt | hge
    · exact hlt
    · rw [List.getElem?_eq_none hge] at hc; cases hc)]
  exact hc

theorem cell_lt {w : World} {a : Addr} {x : Value} (h : w.cell? a = some x) : a.block < w.heap.size := by
  rcases Nat.lt_or_ge a.block w.heap.size with hlt | hge
  · exact hlt
  · simp [World.cell?, Array.getElem?_eq_none hge] at h

theorem cell_of_heap {w w' : World} {a : Addr} (h : w'.heap[a.block]? = w.heap[a.block]?) : w'.cell? a = w.cell? a := by
  simp [World.cell?, h]

/-- What a value reads as stays, as long as what it leads to is not written. -/
theorem Rel.weaken {w w' : World} {M M' : Nat → Prop} {β β' : Beta} {v : V} {x : Value}
    (hc : ∀ b, b < w.heap.size → ¬ M b → w'.heap[b]? = w.heap[b]? ∧ ¬ M' b)
    (hk : ∀ (b : Nat) arr t fr, w.heap[b]? = some (.cells arr t fr) → ∃ arr' fr', w'.heap[b]? = some (.cells arr' t fr') ∧ arr'.size = arr.size)
    (hβ : ∀ (c : Nat) q, β[c]? = some q → β'[c]? = some q) (h : Rel w M β v x) : Rel w' M' β' v x := by
  have cellc : ∀ (a : Addr) y, w.cell? a = some y ∧ ¬ M a.block → w'.cell? a = some y ∧ ¬ M' a.block := by
    intro a y ⟨h1, h2⟩
    obtain ⟨h3, h4⟩ := hc a.block (cell_lt h1) h2
    exact ⟨(cell_of_heap h3).trans h1, h4⟩
  induction h generalizing β' with
  | bool b => exact .bool b
  | int k n => exact .int k n
  | str s => exact .str s
  | nilp => exact .nilp
  | nils => exact .nils
  | nilf => exact .nilf
  | nili => exact .nili
  | nilm => exact .nilm
  | ref h => exact .ref (hβ _ _ h)
  | imm x hl h1 hr ih => exact .imm x hl (fun j hj => cellc _ _ (h1 j hj)) (fun j hj => ih j hj (fun _ _ hq => hq))
  | sl0 a cap h => exact .sl0 a cap h
  | sl x hcap hl h1 hr ih => exact .sl x hcap hl (fun i j hi hj => cellc _ _ (h1 i j hi hj)) (fun i j hi hj => ih i j hi hj (fun _ _ hq => hq))
  | osl h hcap hb hz =>
    obtain ⟨arr', fr', h3, h4⟩ := hk _ _ _ _ hb
    exact .osl (hβ _ _ h) hcap h3 (by omega)
  | osl0 b p h => exact .osl0 b p (hβ _ _ h)
  | fn h1 h2 r1 r2 ih1 ih2 => exact .fn h1 h2 (fun j hj => ih1 j hj hβ) (fun j hj => ih2 j hj hβ)
  | ifc h hs ih => exact .ifc (ih hβ) hs
  | agg h1 hl r1 ih => exact .agg h1 hl (fun j hj => ih j hj hβ)
  | tup h1 r1 ih => exact .tup h1 (fun j hj => ih j hj hβ)
  | obj h => exact .obj (hβ _ _ h)
  | mp h => exact .mp (hβ _ _ h)
  | cap0 a => exact .cap0 a
  | any x => exact .any x

/-- A value that leads to nothing of a call's own. -/
theorem Rel.up {w : World} {M : Nat → Prop} {β : Beta} {v : V} {x : Value} (h : Rel w M [] v x) : Rel w M β v x :=
  h.weaken (fun _ _ hb => ⟨rfl, hb⟩) (fun _ arr _ fr hh => ⟨arr, fr, hh, rfl⟩) (fun _ _ hq => by simp at hq)

theorem Rel.ext {w w' : World} {A : Nat → Prop} {β β' : Beta} {σ σ' : List Cell} {v : V} {x : Value} (he : Ext w β σ w' β' σ') (h : Rel w (Mav A β σ) β v x) :
    Rel w' (Mav A β' σ') β' v x :=
  h.weaken (fun b hb hm => ⟨he.same b hb (fun h' => hm (.inr h')), fun h' => hm (h'.imp id (he.sub b hb))⟩) he.kept (fun _ _ hq => he.beta hq)

theorem RelL.ext {w w' : World} {A : Nat → Prop} {β β' : Beta} {σ σ' : List Cell} {vs : List V} {xs : List Value} (he : Ext w β σ w' β' σ') (h : RelL w (Mav A β σ) β vs xs) :
    RelL w' (Mav A β' σ') β' vs xs := ⟨h.1, fun j hj x hx => (h.2 j hj x hx).ext he⟩

theorem Glob.weaken {G : Globals} {M M' : Nat → Prop} {w : World} (h : Glob G M w) (hm : ∀ b, ¬ M b → ¬ M' b) : Glob G M' w := fun gv hg =>
  (h gv hg).weaken (fun b _ hb => ⟨rfl, hm b hb⟩) (fun _ arr _ fr hh => ⟨arr, fr, hh, rfl⟩) (fun _ _ hq => hq)

theorem Glob.ext {G : Globals} {w w' : World} {A : Nat → Prop} {β β' : Beta} {σ σ' : List Cell} (he : Ext w β σ w' β' σ') (h : Glob G (Mav A β σ) w) : Glob G (Mav A β' σ') w' := fun gv hg =>
  (h gv hg).weaken (fun b hb hm => ⟨he.same b hb (fun h' => hm (.inr h')), fun h' => hm (h'.imp id (he.sub b hb))⟩) he.kept (fun _ _ hq => hq)

end Go.TL
