/-
  Tree land, part N: slices written out, make, copy, clear; type assertions; nil checks.
-/
import Derived.Test.YthhhejockehncaaGreatDoorTlM
import Derived.IntWalk
set_option linter.all false
namespace Go.TL
open Go

section
variable {P : Program} {G : Globals}

theorem flat_set {s : Nat} : ∀ (xs : List V) (i : Nat) (v : V), (∀ x ∈ xs, x.cells.length = s) → v.cells.length = s → i < xs.length → splice (flat xs) (i * s) v.cells = flat (xs.set i v)
  | x :: r, 0, v, h, hv, _ => by
    have hx : x.cells.length = s := h x (by simp)
    simp only [Nat.zero_mul, splice, List.take_zero, List.nil_append, Nat.zero_add, List.set_cons_zero, flat, List.flatMap_cons]
    rw [hv, ← hx, List.drop_left]
  | x :: r, i + 1, v, h, hv, hi => by
    have hx : x.cells.length = s := h x (by simp)
    have ih := flat_set r i v (fun y hy => h y (by simp [hy])) hv (by simpa using hi)
    simp only [splice, flat, List.flatMap_cons, List.set_cons_succ] at ih ⊢
    rw [← ih, Nat.succ_mul]
    rw [show i * s + s = x.cells.length + i * s by omega, List.take_length_add_append, Nat.add_assoc, List.drop_length_add_append, List.append_assoc, List.append_assoc]
    simp [List.append_assoc]

/-- A row with some of its elements given. -/
def evSetAll : List V → List (Nat × V) → List V
  | xs, [] => xs
  | xs, (i, v) :: r => evSetAll (xs.set i v) r

theorem fill_flat {s : Nat} : ∀ (ps : List (Nat × V)) (xs : List V), (∀ x ∈ xs, x.cells.length = s) → (∀ p ∈ ps, p.1 < xs.length ∧ p.2.cells.length = s ∧ p.2.stores = true) →
    evFill (flat xs) (ps.map fun p => (p.1 * s, s, p.2)) = some (flat (evSetAll xs ps)) ∧ (evSetAll xs ps).length = xs.length ∧
      ((∀ x ∈ xs, x.stores = true ∧ x.cells.length = s) → ∀ x ∈ evSetAll xs ps, x.stores = true ∧ x.cells.length = s)
  | [], xs, _, _ => ⟨rfl, rfl, fun h => h⟩
  | (i, v) :: r, xs, hx, hp => by
    obtain ⟨p1, p2, p3⟩ := hp (i, v) (by simp)
    simp only at p1 p2 p3
    have hset : ∀ x ∈ xs.set i v, x.cells.length = s := fun x hxm => (List.mem_or_eq_of_mem_set hxm).elim (hx x) (fun e => e ▸ p2)
    obtain ⟨h1, h2, h3⟩ := fill_flat r (xs.set i v) hset (fun p hpm => by
      obtain ⟨q1, q2⟩ := hp p (by simp [hpm])
      exact ⟨by simpa using q1, q2⟩)
    refine ⟨?_, by simp only [evSetAll, h2, List.length_set], fun hall x hxm => h3 (fun y hy => (List.mem_or_eq_of_mem_set hy).elim (hall y) (fun e => e ▸ ⟨p3, p2⟩)) x hxm⟩
    have hl := flat_length xs hx
    have hle : i * s + s ≤ (flat xs).length := by
      rw [hl]
      have := Nat.mul_le_mul_right s (Nat.succ_le_of_lt p1)
      rwa [Nat.succ_mul] at this
    simp only [List.map_cons, evFill, evSetAll]
    rw [if_pos ⟨p2, hle, p3⟩, flat_set xs i v hx p2 p1]
    exact h1

/-- The zero cells of n elements. -/
theorem zeros_rel {w : World} {M : Nat → Prop} {β : Beta} {z : V} {y : Value} (hs : z.stores = true) (hr : Rel w M β z y) (n : Nat) (hpos : 0 < z.cells.length) :
    RelA w M β (flat (List.replicate n z)) ((Array.range (n * z.cells.length)).map (y.cells[· % y.cells.size]!)) := by
  obtain ⟨r1, r2, r3⟩ := cells_rel hs hr
  have hl : (flat (List.replicate n z)).length = n * z.cells.length := by
    rw [flat_length _ (fun x hx => by rw [List.eq_of_mem_replicate hx])]; simp
  refine ⟨by simp [hl], fun v hv => ?_, fun k hk => ?_⟩
  · simp only [flat, List.mem_flatMap] at hv
    obtain ⟨x, hx, hvx⟩ := hv
    rw [List.eq_of_mem_replicate hx] at hvx
    exact r2 v hvx
  · have hk' : k < n * z.cells.length := by rw [← hl]; exact hk
    have hi : k / z.cells.length < n := Nat.div_lt_of_lt_mul (by rw [Nat.mul_comm]; exact hk')
    have hj : k % z.cells.length < z.cells.length := Nat.mod_lt _ hpos
    have hg := flat_get (List.replicate n z) (fun x hx => by rw [List.eq_of_mem_replicate hx]) (k / z.cells.length) (k % z.cells.length) (by simpa using hi) hj
    rw [show k / z.cells.length * z.cells.length + k % z.cells.length = k by rw [Nat.mul_comm]; exact Nat.div_add_mod k _, List.getElem?_eq_getElem hk] at hg
    simp only [List.getElem_replicate, List.getElem?_eq_getElem hj] at hg
    injection hg with hg
    rw [hg]
    have e : ((Array.range (n * z.cells.length)).map (y.cells[· % y.cells.size]!)).getD k default = y.cells.getD (k % z.cells.length) default := by
      have e1 : ((Array.range (n * z.cells.length)).map (y.cells[· % y.cells.size]!))[k]? = some (y.cells[k % y.cells.size]!) := by simp [hk']
      have e2 : y.cells[k % y.cells.size]! = y.cells.getD (k % z.cells.length) default := by
        rw [r1]
        simp [Array.getD_eq_getD_getElem?, r1, hj]
      rw [Array.getD_eq_getD_getElem?, e1, ← e2]
      rfl
    rw [e]
    exact r3 _ hj

theorem relA_relL {w : World} {M : Nat → Prop} {β : Beta} {cs : List V} {arr : Array Value} (h : RelA w M β cs arr) : RelL w M β cs arr.toList :=
  ⟨by simpa using h.1, fun j hj x hx => by
    have := h.2.2 j hj
    have e : arr.getD j default = x := by
      have hlt : j < arr.size := by rw [h.1]; exact hj
      simp [hlt] at hx
      simp [Array.getD, hlt, hx]
    rw [e] at this
    exact this⟩

def prepRow (P : Program) (t : TypeId) (n : Nat) : Option V :=
  match P.underlying t with
  | some (.slice e) => match zeroV P e with
    | some z => if sizeP P e = some z.cells.length ∧ 0 < z.cells.length ∧ n * z.cells.length ≤ 16777216 then some z else none
    | none => none
  | _ => none

def evRow (σ : List Cell) (z : V) (n : Nat) (ps : List (Nat × V)) : Option (V × List Cell) :=
  if n = 0 then (if ps = [] then some (.cap0, σ) else none) else
  if ps.all (fun p => decide (p.1 < n) && decide (p.2.cells.length = z.cells.length) && p.2.stores) then
    some (.osl σ.length 0 n, σ ++ [.row z.cells.length (evSetAll (List.replicate n z) ps)]) else none

theorem row_ok {t : TypeId} {n : Nat} {z : V} (hp : prepRow P t n = some z) {A : Nat → Prop} {w : World} {β : Beta} {σ σ' : List Cell} (hs : SR G w A β σ) {ps : List (Nat × V)} {xs : Array (Nat × Value)} {v : V}
    (h : evRow σ z n ps = some (v, σ')) (hl : xs.size = ps.length) (hr : ∀ (i : Nat) (p : Nat × V) (x : Nat × Value), ps[i]? = some p → xs[i]? = some x → x.1 = p.1 ∧ Rel w (Mav A β σ) β p.2 x.2) :
    OkV P G A w β σ (Instr.buildSlice t n xs) v σ' := by
  unfold prepRow at hp
  split at hp <;> try (cases hp; done)
  rename_i e hu
  split at hp <;> try (cases hp; done)
  rename_i z' hz
  split at hp <;> try (cases hp; done)
  rename_i hc
  obtain ⟨c1, c2, c3⟩ := hc
  injection hp with hp
  subst hp
  obtain ⟨ie, y, hie, hiz, hst, hrel⟩ := zeroV_spec hz
  have hsz : ie.size = z'.cells.length := by
    simp only [sizeP, hie, Option.map_some, Option.some.injEq] at c1
    exact c1
  unfold evRow at h
  split at h
  · rename_i hn
    subst hn
    split at h <;> try (cases h; done)
    rename_i hps
    subst hps
    injection h with h
    injection h with h1 h2
    subst h1; subst h2
    have hxs : xs = #[] := by
      apply Array.eq_empty_of_size_eq_zero
      simpa using hl
    subst hxs
    obtain ⟨g1, g2⟩ := hs.grow ((RowKit.Below.refl w.heap.size w).alloc (Nat.le_refl _) (.cells #[] e))
    refine ⟨.slice (some ⟨w.heap.size, 0, none⟩) 0 0, w.alloc (.cells #[] e), β, ?_, .cap0 _, g1, g2⟩
    simp [Instr.buildSlice, run_underlying hu, run_sizeOf (show sizeP P e = some z'.cells.length from c1), Instr.fill, run_newRow]
    have hz0 : ∀ f : Nat → Value, Array.map f (Array.range 0) = #[] := fun f => by apply Array.eq_empty_of_size_eq_zero; simp
    rw [hz0]
  · rename_i hn
    split at h <;> try (cases h; done)
    rename_i hall
    injection h with h
    injection h with h1 h2
    subst h1; subst h2
    have hps : ∀ p ∈ ps, p.1 < (List.replicate n z').length ∧ p.2.cells.length = z'.cells.length ∧ p.2.stores = true := fun p hpm => by
      have := List.all_eq_true.1 hall p hpm
      simp at this
      exact ⟨by simpa using this.1.1, this.1.2, this.2⟩
    obtain ⟨f1, f2, f3⟩ := fill_flat (s := z'.cells.length) ps (List.replicate n z') (fun x hx => by rw [List.eq_of_mem_replicate hx]) hps
    have hzr := zeros_rel hst (hrel w (Mav A β σ) β) n c2
    obtain ⟨arr, q1, q2⟩ := fill_ok (place := fun i => some (i * ie.size, ie.size)) (ps.map fun p => (p.1 * z'.cells.length, z'.cells.length, p.2)) xs.toList _ _ _ f1 hzr (by simpa using hl) (fun i p x e1 e2 => by
      simp only [List.getElem?_map, Option.map_eq_some_iff] at e1
      obtain ⟨p0, e1, rfl⟩ := e1
      obtain ⟨a1, a2⟩ := hr i p0 x e1 (by simpa using e2)
      exact ⟨by rw [a1, hsz], a2⟩)
    have hlist : ∀ x ∈ evSetAll (List.replicate n z') ps, x.stores = true ∧ x.cells.length = z'.cells.length := f3 (fun x hx => by rw [List.eq_of_mem_replicate hx]; exact ⟨hst, rfl⟩)
    have hF := Flat.of_list (s := z'.cells.length) [] hlist (relA_relL q2)
    simp only [List.append_nil, Array.toArray_toList] at hF
    obtain ⟨n1, n2⟩ := hs.newRow e hF
    refine ⟨.slice (some ⟨w.heap.size, 0, none⟩) n n, w.alloc (.cells arr e), _, ?_, ?_, n1, n2⟩
    · refine run_buildSlice w t e n xs arr ie y hu hie hiz (by rw [hsz]; omega) (by rw [hsz]; exact Nat.mul_ne_zero hn (by omega)) ?_
      rw [hsz] at q1 ⊢
      exact q1
    · have hβ : (β ++ [(w.heap.size, 0, z'.cells.length)])[σ.length]? = some (w.heap.size, 0, z'.cells.length) := by rw [← hs.len]; simp
      have harr : arr.size = n * z'.cells.length := by
        rw [q2.1, flat_length _ (fun x hx => (hlist x hx).2), f2]; simp
      have := Rel.osl (M := Mav A (β ++ [(w.heap.size, 0, z'.cells.length)]) (σ ++ [.row z'.cells.length (evSetAll (List.replicate n z') ps)])) (n := n) (cap := n) (o := 0) hβ (Nat.le_refl _) (World.alloc_heap_new' w (.cells arr e)) (by rw [harr]; simp)
      simpa using this

/-- One cell that leads to nothing of a call's own. -/
def V.shut1 : V → Bool
  | .bool _ | .int .. | .str _ | .nilp | .nils | .nilf | .nili | .nilm | .cap0 | .sl _ | .imm .. => true
  | .fn _ [] [] => true
  | _ => false
def V.shut2 : V → Bool
  | .ifc _ (.agg xs) => xs.all V.shut1
  | .ifc _ v => v.shut1
  | v => v.shut1
def V.shut3 : V → Bool
  | .agg xs => xs.all V.shut2
  | v => v.shut2

theorem shut1_rel {v : V} (hv : v.shut1 = true) {w : World} {M : Nat → Prop} {β : Beta} {x : Value} (h : Rel w M β v x) : Rel w M [] v x := by
  cases h with
  | bool b => exact .bool b
  | int k n => exact .int k n
  | str s => exact .str s
  | nilp => exact .nilp
  | nils => exact .nils
  | nilf => exact .nilf
  | nili => exact .nili
  | nilm => exact .nilm
  | imm x hl h1 hr => exact .imm x hl h1 hr
  | sl x hcap hl h1 hr => exact .sl x hcap hl h1 hr
  | sl0 a cap h => exact .sl0 a cap h
  | cap0 a => exact .cap0 a
  | fn h1 h2 r1 r2 =>
    rename_i f fi ca fa cb
    match fi, ca with
    | [], [] => exact .fn h1 h2 (fun j hj => by simp at hj) (fun j hj => by simp at hj)
    | _ :: _, _ => simp [V.shut1] at hv
    | [], _ :: _ => simp [V.shut1] at hv
  | _ => cases hv

theorem shut2_rel {v : V} (hv : v.shut2 = true) {w : World} {M : Nat → Prop} {β : Beta} {x : Value} (h : Rel w M β v x) : Rel w M [] v x := by
  by_cases hi : ∃ t u, v = .ifc t u
  · obtain ⟨t, u, rfl⟩ := hi
    cases h with
    | ifc h hs =>
    by_cases ha : ∃ xs, u = .agg xs
    · obtain ⟨xs, rfl⟩ := ha
      cases h with
      | agg h1 hl r1 => exact .ifc (.agg h1 hl fun j hj => shut1_rel (List.all_eq_true.1 hv _ (List.getElem_mem hj)) (r1 j hj)) hs
    · exact .ifc (shut1_rel (by cases u <;> first | exact absurd ⟨_, rfl⟩ ha | exact hv) h) hs
  · exact shut1_rel (by cases v <;> first | exact absurd ⟨_, _, rfl⟩ hi | exact hv) h

theorem shut3_rel {v : V} (hv : v.shut3 = true) {w : World} {M : Nat → Prop} {β : Beta} : ∀ {j : Nat} (hj : j < v.cells.length) {x : Value}, Rel w M β v.cells[j] x → Rel w M [] v.cells[j] x := by
  intro j hj x h
  by_cases ha : ∃ xs, v = .agg xs
  · obtain ⟨xs, rfl⟩ := ha
    exact shut2_rel (List.all_eq_true.1 hv _ (List.getElem_mem (show j < xs.length from hj))) h
  · have e : v.cells = [v] := by cases v <;> first | exact absurd ⟨_, rfl⟩ ha | rfl
    have hv2 : v.shut2 = true := by cases v <;> first | exact absurd ⟨_, rfl⟩ ha | exact hv
    have hj0 : j = 0 := by rw [e] at hj; simpa using hj
    subst hj0
    simp only [e, List.getElem_cons_zero] at h ⊢
    exact shut2_rel hv2 h

/-- A slice literal that nobody will write. -/
def evLit (z : V) (n : Nat) (ps : List (Nat × V)) : Option V :=
  if n = 0 then (if ps = [] then some .cap0 else none) else
  if ps.all (fun p => decide (p.1 < n) && decide (p.2.cells.length = z.cells.length) && p.2.stores) && (evSetAll (List.replicate n z) ps).all V.shut3 then
    some (.sl (evSetAll (List.replicate n z) ps)) else none

/-- A new block that nobody will write. -/
theorem SR.newImm {w : World} {A : Nat → Prop} {β : Beta} {σ : List Cell} (h : SR G w A β σ) {s : Nat} {xs : List V} {arr : Array Value} (t : TypeId) (hf : Flat w (Mav A β σ) β s xs arr) (hx : xs.all V.shut3 = true) :
    SR G (w.alloc (.cells arr t)) A β σ ∧ Ext w β σ (w.alloc (.cells arr t)) β σ ∧ Rel (w.alloc (.cells arr t)) (Mav A β σ) β (.sl xs) (.slice (some ⟨w.heap.size, 0, none⟩) xs.length xs.length) := by
  obtain ⟨g1, g2⟩ := h.grow ((RowKit.Below.refl w.heap.size w).alloc (Nat.le_refl _) (.cells arr t))
  have hheap := World.alloc_heap_new' w (.cells arr t)
  have hnot : ¬ Mav A β σ w.heap.size := by
    rintro (hA | ⟨c, cl, q, h1, h2, h3⟩)
    · exact not_avoid_new h hA
    · exact Nat.lt_irrefl _ ((h.ok c cl _ h1 h3).free h2).2
  refine ⟨g1, g2, .sl (s := s) (fun i j => arr.getD (i * s + j) default) (Nat.le_refl _) (fun v hv => ?_) (fun i j hi hj => ⟨?_, hnot⟩) (fun i j hi hj => ?_)⟩
  · obtain ⟨i, hi, rfl⟩ := List.mem_iff_getElem.1 hv
    obtain ⟨f1, f2, -⟩ := hf.2 i hi
    exact ⟨f1, f2⟩
  · obtain ⟨f1, f2, f3⟩ := hf.2 i hi
    obtain ⟨y, y1, -⟩ := f3 j (by omega)
    have hlt : i * s + j < arr.size := (Array.getElem?_eq_some_iff.1 y1).1
    simp only [World.cell?, hheap, Nat.zero_add]
    simp [Array.getD, hlt]
  · obtain ⟨f1, f2, f3⟩ := hf.2 i hi
    obtain ⟨y, y1, y2⟩ := f3 j hj
    have e : arr.getD (i * s + j) default = y := by
      rw [Array.getD_eq_getD_getElem?, y1]
      rfl
    rw [e]
    exact (shut3_rel (List.all_eq_true.1 hx _ (List.getElem_mem hi)) hj y2).weaken (fun b hb hm => ⟨g2.same b hb (fun h' => hm (.inr h')), hm⟩) g2.kept (fun _ _ hq => hq)

theorem lit_ok {t : TypeId} {n : Nat} {z : V} (hp : prepRow P t n = some z) {A : Nat → Prop} {w : World} {β : Beta} {σ : List Cell} (hs : SR G w A β σ) {ps : List (Nat × V)} {xs : Array (Nat × Value)} {v : V}
    (h : evLit z n ps = some v) (hl : xs.size = ps.length) (hr : ∀ (i : Nat) (p : Nat × V) (x : Nat × Value), ps[i]? = some p → xs[i]? = some x → x.1 = p.1 ∧ Rel w (Mav A β σ) β p.2 x.2) :
    OkV P G A w β σ (Instr.buildSlice t n xs) v σ := by
  unfold prepRow at hp
  split at hp <;> try (cases hp; done)
  rename_i e hu
  split at hp <;> try (cases hp; done)
  rename_i z' hz
  split at hp <;> try (cases hp; done)
  rename_i hc
  obtain ⟨c1, c2, c3⟩ := hc
  injection hp with hp
  subst hp
  obtain ⟨ie, y, hie, hiz, hst, hrel⟩ := zeroV_spec hz
  have hsz : ie.size = z'.cells.length := by
    simp only [sizeP, hie, Option.map_some, Option.some.injEq] at c1
    exact c1
  unfold evLit at h
  split at h
  · rename_i hn
    subst hn
    split at h <;> try (cases h; done)
    rename_i hps
    subst hps
    injection h with h
    subst h
    have hxs : xs = #[] := by
      apply Array.eq_empty_of_size_eq_zero
      simpa using hl
    subst hxs
    obtain ⟨g1, g2⟩ := hs.grow ((RowKit.Below.refl w.heap.size w).alloc (Nat.le_refl _) (.cells #[] e))
    refine ⟨.slice (some ⟨w.heap.size, 0, none⟩) 0 0, w.alloc (.cells #[] e), β, ?_, .cap0 _, g1, g2⟩
    simp [Instr.buildSlice, run_underlying hu, run_sizeOf (show sizeP P e = some z'.cells.length from c1), Instr.fill, run_newRow]
    have hz0 : ∀ f : Nat → Value, Array.map f (Array.range 0) = #[] := fun f => by apply Array.eq_empty_of_size_eq_zero; simp
    rw [hz0]
  · rename_i hn
    split at h <;> try (cases h; done)
    rename_i hall
    rw [Bool.and_eq_true] at hall
    obtain ⟨hall, hshut⟩ := hall
    injection h with h
    subst h
    have hps : ∀ p ∈ ps, p.1 < (List.replicate n z').length ∧ p.2.cells.length = z'.cells.length ∧ p.2.stores = true := fun p hpm => by
      have := List.all_eq_true.1 hall p hpm
      simp at this
      exact ⟨by simpa using this.1.1, this.1.2, this.2⟩
    obtain ⟨f1, f2, f3⟩ := fill_flat (s := z'.cells.length) ps (List.replicate n z') (fun x hx => by rw [List.eq_of_mem_replicate hx]) hps
    have hzr := zeros_rel hst (hrel w (Mav A β σ) β) n c2
    obtain ⟨arr, q1, q2⟩ := fill_ok (place := fun i => some (i * ie.size, ie.size)) (ps.map fun p => (p.1 * z'.cells.length, z'.cells.length, p.2)) xs.toList _ _ _ f1 hzr (by simpa using hl) (fun i p x e1 e2 => by
      simp only [List.getElem?_map, Option.map_eq_some_iff] at e1
      obtain ⟨p0, e1, rfl⟩ := e1
      obtain ⟨a1, a2⟩ := hr i p0 x e1 (by simpa using e2)
      exact ⟨by rw [a1, hsz], a2⟩)
    have hlist : ∀ x ∈ evSetAll (List.replicate n z') ps, x.stores = true ∧ x.cells.length = z'.cells.length := f3 (fun x hx => by rw [List.eq_of_mem_replicate hx]; exact ⟨hst, rfl⟩)
    have hF := Flat.of_list (s := z'.cells.length) [] hlist (relA_relL q2)
    simp only [List.append_nil, Array.toArray_toList] at hF
    have hF' := hF
    obtain ⟨n1, n2, n3⟩ := hs.newImm e hF hshut
    have hlen : (evSetAll (List.replicate n z') ps).length = n := by rw [f2]; simp
    rw [hlen] at n3
    refine ⟨.slice (some ⟨w.heap.size, 0, none⟩) n n, w.alloc (.cells arr e), β, ?_, n3, n1, n2⟩
    refine run_buildSlice w t e n xs arr ie y hu hie hiz (by rw [hsz]; omega) (by rw [hsz]; exact Nat.mul_ne_zero hn (by omega)) ?_
    rw [hsz] at q1 ⊢
    exact q1

/-! ### make -/

def prepMake (P : Program) (t : TypeId) : Option (V × Nat) :=
  match P.underlying t with
  | some (.slice e) => match zeroV P e, P.info? e with
    | some z, some i => if i.size = z.cells.length ∧ 0 < z.cells.length ∧ 1 ≤ i.bytes ∧ i.bytes ≤ 1073741824 then some (z, i.bytes) else none
    | _, _ => none
  | _ => none

def evMake (σ : List Cell) (z : V) (bytes : Nat) (l c : V) : Option (V × List Cell) :=
  match l, c with
  | .int .i64 n, .int .i64 m => if 0 ≤ n ∧ n ≤ m ∧ m * bytes ≤ 35184372088832 then some (.osl σ.length 0 n.toNat, σ ++ [.row z.cells.length (List.replicate m.toNat z)]) else none
  | _, _ => none

theorem wrap_small {n : Int} (h0 : 0 ≤ n) (h1 : n ≤ 35184372088832) : IntKind.i64.wrap n = n := IntWalk.i64_in n (by omega)

theorem make_ok {t : TypeId} {z : V} {bytes : Nat} (hp : prepMake P t = some (z, bytes)) {A : Nat → Prop} {w : World} {β : Beta} {σ σ' : List Cell} (hs : SR G w A β σ) {l c v : V}
    (h : evMake σ z bytes l c = some (v, σ')) {M : Nat → Prop} {a b : Value} (ha : Rel w M β l a) (hb : Rel w M β c b) : OkV P G A w β σ (Instr.makeSlice t a b) v σ' := by
  unfold prepMake at hp
  split at hp <;> try (cases hp; done)
  rename_i e hu
  split at hp <;> try (cases hp; done)
  rename_i z' i hz hi
  split at hp <;> try (cases hp; done)
  rename_i hc
  obtain ⟨c1, c2, c3, c4⟩ := hc
  injection hp with hp
  injection hp with hp1 hp2
  subst hp1; subst hp2
  obtain ⟨ie, y, hie, hiz, hst, hrel⟩ := zeroV_spec hz
  rw [hi] at hie
  injection hie with hie
  subst hie
  unfold evMake at h
  split at h <;> try (cases h; done)
  rename_i n m
  split at h <;> try (cases h; done)
  rename_i hb'
  obtain ⟨b1, b2, b3⟩ := hb'
  injection h with h
  injection h with h1 h2
  subst h1; subst h2
  cases ha; cases hb
  have hm : m ≤ 35184372088832 := by
    have h2 : m * 1 ≤ m * (i.bytes : Int) := Int.mul_le_mul_of_nonneg_left (by omega) (by omega)
    omega
  have hwm : IntKind.i64.wrap m = m := wrap_small (by omega) hm
  have hwn : IntKind.i64.wrap n = n := wrap_small b1 (by omega)
  have hzr := zeros_rel hst (hrel w (Mav A β σ) β) m.toNat c2
  have hlist : ∀ x ∈ List.replicate m.toNat z', x.stores = true ∧ x.cells.length = z'.cells.length := fun x hx => by rw [List.eq_of_mem_replicate hx]; exact ⟨hst, rfl⟩
  have hF := Flat.of_list (s := z'.cells.length) [] hlist (relA_relL hzr)
  simp only [List.append_nil, Array.toArray_toList] at hF
  obtain ⟨n1, n2⟩ := hs.newRow e hF
  refine ⟨.slice (some ⟨w.heap.size, 0, none⟩) n.toNat m.toNat, _, _, ?_, ?_, n1, n2⟩
  · have ht : ∀ k : Int, 0 ≤ k → k ≤ m → ¬ ((k < 0) = true ∨ (i.bytes : Int) * k > 2 ^ 48) := fun k h0 h1 hh => by
      have : (i.bytes : Int) * k ≤ i.bytes * m := Int.mul_le_mul_of_nonneg_left h1 (by omega)
      have h3 : m * (i.bytes : Int) = i.bytes * m := Int.mul_comm _ _
      rcases hh with hh | hh
      · simp at hh; omega
      · omega
    have hbm : (i.bytes : Int) * m ≤ 35184372088832 := by rw [Int.mul_comm]; exact b3
    have g1 : (decide (m < 0) || decide ((i.bytes : Int) * m > 2 ^ 48)) = false := by
      simp
      omega
    have g2 : (decide (m < 0) || decide ((i.bytes : Int) * m > 2 ^ 48) || decide (n < 0) || decide (n > m)) = false := by
      rw [g1]
      simp
      omega
    simp only [Instr.makeSlice, Sem.run_bind, run_underlying hu, Result.andThen_ok, asInt, asIntOf, Sem.run_pure, run_typeInfo hi, hwm, hwn, g2, Bool.false_eq_true, if_false, run_askRoom,
      run_sizeOf (show sizeP P e = some z'.cells.length by simp [sizeP, hi, c1])]
    by_cases hm0 : m.toNat * z'.cells.length = 0
    · have : m.toNat = 0 := by
        rcases Nat.mul_eq_zero.1 hm0 with h | h
        · exact h
        · omega
      rw [if_pos hm0]
      simp only [Sem.run_bind, Sem.run_pure, Result.andThen_ok, run_newRow, hm0]
      have hz0 : ∀ f : Nat → Value, Array.map f (Array.range 0) = #[] := fun f => by apply Array.eq_empty_of_size_eq_zero; simp
      rw [hz0, hz0]
    · rw [if_neg hm0]
      simp only [Sem.run_bind, Sem.run_pure, Result.andThen_ok, run_zeroValue hi hiz, run_newRow]
  · have hβ : (β ++ [(w.heap.size, 0, z'.cells.length)])[σ.length]? = some (w.heap.size, 0, z'.cells.length) := by rw [← hs.len]; simp
    have := Rel.osl (M := Mav A (β ++ [(w.heap.size, 0, z'.cells.length)]) (σ ++ [.row z'.cells.length (List.replicate m.toNat z')])) (n := n.toNat) (cap := m.toNat) (o := 0) hβ (by omega) (World.alloc_heap_new' w (.cells ((Array.range (m.toNat * z'.cells.length)).map (y.cells[· % y.cells.size]!)) e)) (by simp)
    simpa using this

end
end Go.TL
