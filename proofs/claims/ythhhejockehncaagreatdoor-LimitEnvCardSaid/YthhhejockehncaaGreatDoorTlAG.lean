/-
  Tree land, part AG: what comes in, as Lean's own.
-/
import Derived.Test.YthhhejockehncaaGreatDoorTlAF
import Derived.ChangeArms
set_option linter.all false
namespace Go.TL
open Go

section
variable {P : Program}

/-- Nothing is written by others. -/
abbrev M0 : Nat → Prop := fun _ => False

/-- Cells that read as a datum of type t are those of f x, for some x of which 'fit' holds. -/
def OpensAt (P : Program) (n : Nat) (t : TypeId) {α : Type} (f : α → V) (fit : α → Prop) : Prop :=
  ∀ {H : Type} (enc : TypeId × Value → H) (w : World) (base : Nat) (spare : Nat → Bool) (held : Bool) (cs : List Value) (d : DataW H × List MemPlace), DataW.trod enc P w base spare held n t cs = some d → ∃ x, RelL w M0 [] (f x).cells cs ∧ fit x

theorem relL_one {w : World} {M : Nat → Prop} {β : Beta} {v : V} {x : Value} (h : Rel w M β v x) : RelL w M β [v] [x] := ⟨rfl, fun j hj y hy => by
  have : j = 0 := by simpa using hj
  subst this
  simp at hy
  subst hy
  exact h⟩

theorem opens_int {t : TypeId} {k : IntKind} (ht : P.underlying t = some (.int k)) (n : Nat) : OpensAt P n t (V.int k) (fun x => (Lit.int k x).wf = true) := by
  intro H enc w base spare held cs d h
  obtain ⟨x, rfl, -, hw⟩ := DataW.trod_int ht h
  exact ⟨x, relL_one (.int k x), hw⟩

theorem opens_bool {t : TypeId} (ht : P.underlying t = some .bool) (n : Nat) : OpensAt P n t V.bool (fun _ => True) := by
  intro H enc w base spare held cs d h
  obtain ⟨x, rfl, -⟩ := DataW.trod_bool ht h
  exact ⟨x, relL_one (.bool x), trivial⟩

theorem opens_str {t : TypeId} (ht : P.underlying t = some .string) (n : Nat) : OpensAt P n t V.str (fun s => s.length ≤ maxLen) := by
  intro H enc w base spare held cs d h
  obtain ⟨x, rfl, -, hw⟩ := DataW.trod_string ht h
  refine ⟨x.data.toList, relL_one ?_, ?_⟩
  · have : Rel w M0 [] (.str x.data.toList) (.string ⟨x.data.toList.toArray⟩) := .str _
    simpa using this
  · have e : x.data.toList.length = x.size := Array.length_toList
    show x.data.toList.length ≤ maxLen
    rw [e]
    exact hw

theorem opens_slice {t e : TypeId} {n : Nat} {α : Type} {f : α → V} {fit : α → Prop} (ht : P.underlying t = some (.slice e)) (he : ∀ m, m < n → OpensAt P m e f fit) (hst : ∀ x, (f x).stores = true) {z : Nat} (hz : ∀ x, (f x).cells.length = z)
    (hc : P.cellsOf e = z) (hpos : 0 < z) : OpensAt P n t (fun l : List α => .sl (l.map f)) (fun l => l.length ≤ maxLen ∧ ∀ x ∈ l, fit x) := by
  intro H enc w base spare held cs d h
  rcases DataW.trod_slice ht h with ⟨rfl, -⟩ | ⟨a, len, cap, elems, rest, m, rfl, rfl, -, hb, hl, hm, hlen, hel, -, -⟩
  · exact ⟨[], relL_one (.sl0 none 0 (fun _ => rfl)), by simp, by simp⟩
  · have key : ∀ i, i < len → ∃ x : α, fit x ∧ ∃ cs', w.cells? base (a.add (i * z)) z = some cs' ∧ RelL w M0 [] (f x).cells cs' := by
      intro i hi
      have h1 := hel i hi
      rw [List.getElem?_eq_getElem (by omega), hc] at h1
      obtain ⟨cs', g1, g2⟩ := Option.bind_eq_some_iff.1 h1
      obtain ⟨x, r1, r2⟩ := he m (by omega) enc w base spare held cs' _ g2
      exact ⟨x, r2, cs', g1, r1⟩
    have hlist : ∀ k, k ≤ len → ∃ l : List α, l.length = k ∧ ∀ i (h : i < l.length), fit l[i] ∧ ∃ cs', w.cells? base (a.add (i * z)) z = some cs' ∧ RelL w M0 [] (f l[i]).cells cs' := by
      intro k
      induction k with
      | zero => exact fun _ => ⟨[], rfl, fun i h => by simp at h⟩
      | succ k ih =>
        intro hk
        obtain ⟨l, l1, l2⟩ := ih (by omega)
        obtain ⟨x, x1, x2⟩ := key k (by omega)
        refine ⟨l ++ [x], by simp [l1], fun i hi => ?_⟩
        by_cases hlt : i < l.length
        · rw [List.getElem_append_left hlt]; exact l2 i hlt
        · have : i = k := by simp at hi; omega
          subst this
          rw [List.getElem_append_right (by omega)]
          simp only [l1, Nat.sub_self, List.getElem_cons_zero]
          exact ⟨x1, x2⟩
    obtain ⟨l, l1, l2⟩ := hlist len (Nat.le_refl _)
    refine ⟨l, relL_one ?_, by rw [l1]; omega, fun x hx => by obtain ⟨i, hi, rfl⟩ := mem_get hx; exact (l2 i hi).1⟩
    by_cases h0 : len = 0
    · subst h0
      have : l = [] := List.eq_nil_of_length_eq_zero l1
      subst this
      exact .sl0 _ _ (fun e => by cases e)
    · -- the address is a plain one
      have cellsAt : ∀ i, i < len → ∀ j, j < z → ∃ v, w.cell? ((a.add (i * z)).add j) = some v := by
        intro i hi j hj
        obtain ⟨-, cs', g1, -⟩ := l2 i (by omega)
        unfold World.cells? at g1
        split at g1 <;> try (cases g1; done)
        have g2 := mapM_some_get g1 j j (by simp [hj])
        have g3 : j < cs'.length := by have := mapM_some_length g1; simp at this; omega
        rw [List.getElem?_eq_getElem g3] at g2
        exact ⟨_, g2⟩
      have hspot : a.spot = none := by
        obtain ⟨v, hv⟩ := cellsAt 0 (by omega) 0 hpos
        have e : (a.add (0 * z)).add 0 = a := by simp [Addr.add]
        rw [e] at hv
        unfold World.cell? at hv
        split at hv <;> try (cases hv; done)
        split at hv <;> try (cases hv; done)
        rename_i hs
        cases ha : a.spot with
        | none => rfl
        | some q => rw [ha] at hs; exact absurd rfl hs
      obtain ⟨b, p, sp⟩ := a
      simp only at hspot
      subst hspot
      have addr : ∀ p k, (⟨b, p, none⟩ : Addr).add k = ⟨b, p + k, none⟩ := fun p k => by
        unfold Addr.add
        split
        · rename_i h; subst h; rfl
        · rfl
      have hlen' : len = (l.map f).length := by simp [l1]
      rw [hlen']
      have hex : ∃ g : Nat → Nat → Value, ∀ i (h : i < l.length), ∀ j (hj : j < (f l[i]).cells.length), w.cell? ⟨b, p + i * z + j, none⟩ = some (g i j) ∧ Rel w M0 [] ((f l[i]).cells[j]) (g i j) := by
        have one : ∀ i (h : i < l.length), ∀ j (hj : j < (f l[i]).cells.length), ∃ v, w.cell? ⟨b, p + i * z + j, none⟩ = some v ∧ Rel w M0 [] ((f l[i]).cells[j]) v := by
          intro i hi j hj
          obtain ⟨-, cs', g1, g2⟩ := l2 i hi
          unfold World.cells? at g1
          split at g1 <;> try (cases g1; done)
          have hjz : j < z := by rw [hz] at hj; exact hj
          have g3 := mapM_some_get g1 j j (by simp [hjz])
          have g4 : j < cs'.length := by have := mapM_some_length g1; simp at this; omega
          rw [List.getElem?_eq_getElem g4, addr, addr] at g3
          exact ⟨_, g3, g2.2 j hj _ (List.getElem?_eq_getElem g4)⟩
        exact ⟨fun i j => if h : i < l.length then (if hj : j < (f l[i]).cells.length then Classical.choose (one i h j hj) else default) else default,
          fun i h j hj => by simp only [dif_pos h, dif_pos hj]; exact Classical.choose_spec (one i h j hj)⟩
      obtain ⟨g, hg⟩ := hex
      refine .sl (s := z) g (by simp [l1]; omega) (fun v hv => ?_) (fun i j hi hj => ?_) (fun i j hi hj => ?_)
      · obtain ⟨x, -, rfl⟩ := List.mem_map.1 hv
        exact ⟨hst x, hz x⟩
      · have hi' : i < l.length := by simpa using hi
        exact ⟨(hg i hi' j (by rw [hz]; exact hj)).1, fun h => h⟩
      · have hi' : i < l.length := by simpa using hi
        simp only [List.getElem_map] at hj ⊢
        exact (hg i hi' j hj).2

theorem rel_nil {w : World} {cs : List Value} {o : Nat} (h : cs.length = o) : RelL w M0 [] [] (cs.drop o) := by
  subst h
  exact ⟨by simp, fun j hj => by simp at hj⟩
theorem rel_cons {w : World} {cs : List Value} {o n : Nat} {vs us : List V} (h : RelL w M0 [] vs ((cs.drop o).take n)) (t : RelL w M0 [] us (cs.drop (o + n))) : RelL w M0 [] (vs ++ us) (cs.drop o) := by
  have e : cs.drop o = (cs.drop o).take n ++ cs.drop (o + n) := by rw [← List.drop_drop, List.take_append_drop]
  rw [e]
  exact h.append t

/-- One part of a struct. -/
theorem fldAt {H : Type} {enc : TypeId × Value → H} {w : World} {base : Nat} {spare : Nat → Bool} {held : Bool} {m : Nat} {cs : List Value} {fs : Array Field} {xs : List (DataW H × List MemPlace)} (hlen : xs.length = fs.size)
    (hf : ∀ (i : Nat) (f : Field), fs[i]? = some f → DataW.trod enc P w base spare held m f.type ((cs.drop f.offset).take (P.cellsOf f.type)) = xs[i]?) {α : Type} {g : α → V} {fit : α → Prop} (i : Nat) (f : Field) (hi : fs[i]? = some f)
    (ho : OpensAt P m f.type g fit) {o n : Nat} (h1 : f.offset = o) (h2 : P.cellsOf f.type = n) : ∃ x, RelL w M0 [] (g x).cells ((cs.drop o).take n) ∧ fit x := by
  subst h1; subst h2
  have hlt : i < xs.length := by
    rw [hlen]
    exact (Array.getElem?_eq_some_iff.1 hi).1
  have := hf i f hi
  rw [List.getElem?_eq_getElem hlt] at this
  exact ho enc w base spare held _ _ this

end
end Go.TL
