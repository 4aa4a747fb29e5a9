/-
  Tree land, part Q: values that lead to nothing of a call's own; calls.
-/
import Derived.Test.YthhhejockehncaaGreatDoorTlP
set_option linter.all false
namespace Go.TL
open Go

section
variable {P : Program} {G : Globals}

/-- One cell, or a slice or pointer into memory that nobody writes. -/
def V.shut : V → Bool
  | .bool _ | .int .. | .str _ | .nilp | .nils | .nilf | .nili | .nilm | .cap0 | .sl _ | .imm .. => true
  | _ => false

/-- Slices that may be nil are told as lists. -/
def czV : Nat → V → V
  | 0, v => v
  | d + 1, v => match v with
    | .nils => .sl []
    | .cap0 => .sl []
    | .agg xs => .agg (xs.map (czV d))
    | .tup xs => .tup (xs.map (czV d))
    | .sl xs => .sl (xs.map (czV d))
    | v => v

theorem czV_leaf (d : Nat) (v : V) : (czV d v).leaf = v.leaf := by
  cases d with
  | zero => rfl
  | succ d => cases v <;> rfl

theorem czV_shape (d : Nat) {v : V} {s : Nat} (h : v.stores = true) (hs : v.cells.length = s) : (czV d v).stores = true ∧ (czV d v).cells.length = s := by
  by_cases ha : ∃ xs, v = .agg xs
  · obtain ⟨xs, rfl⟩ := ha
    cases d with
    | zero => exact ⟨h, hs⟩
    | succ d =>
      refine ⟨List.all_eq_true.2 fun y hy => ?_, by simpa [czV, V.cells] using hs⟩
      obtain ⟨z, hz, rfl⟩ := List.mem_map.1 hy
      rw [czV_leaf]
      exact List.all_eq_true.1 h z hz
  · have h1 : v.leaf = true := by cases v <;> first | exact absurd ⟨_, rfl⟩ ha | exact h
    have h2 := (czV_leaf d v).trans h1
    have one : ∀ u : V, u.leaf = true → u.stores = true ∧ u.cells.length = 1 := fun u hu => by
      cases u <;> first | exact ⟨rfl, rfl⟩ | cases hu
    refine ⟨(one _ h2).1, ?_⟩
    rw [(one _ h2).2, ← hs, (one _ h1).2]

theorem czV_cells {w : World} {M : Nat → Prop} (d : Nat) (ih : ∀ e, e ≤ d → ∀ (y : V) {x : Value}, Rel w M [] y x → Rel w M [] (czV e y) x) {v : V} {j : Nat} {x : Value} (hst : v.stores = true) (hj : j < (czV d v).cells.length) (hr : ∀ hj' : j < v.cells.length, Rel w M [] v.cells[j] x) :
    Rel w M [] ((czV d v).cells[j]'hj) x := by
  by_cases ha : ∃ xs, v = .agg xs
  · obtain ⟨xs, rfl⟩ := ha
    cases d with
    | zero => exact hr hj
    | succ d =>
      have hj' : j < xs.length := by simpa [czV, V.cells] using hj
      have := ih d (by omega) xs[j] (hr hj')
      simpa [czV, V.cells] using this
  · have h1 : v.leaf = true := by cases v <;> first | exact absurd ⟨_, rfl⟩ ha | exact hst
    have h2 := (czV_leaf d v).trans h1
    have one : ∀ u : V, u.leaf = true → u.cells = [u] := fun u hu => by cases u <;> first | rfl | cases hu
    have e1 := one _ h1
    have e2 := one _ h2
    have hj0 : j = 0 := by rw [e2] at hj; simpa using hj
    subst hj0
    have h3 := hr (by rw [e1]; simp)
    simp only [e1, List.getElem_cons_zero] at h3
    simp only [e2, List.getElem_cons_zero]
    exact ih d (Nat.le_refl _) v h3

theorem czV_rel {w : World} {M : Nat → Prop} : ∀ (d : Nat) {β : Beta} {v : V} {x : Value}, Rel w M β v x → Rel w M β (czV d v) x
  | 0, _, _, _, h => h
  | d + 1, β, v, x, h => by
    cases h with
    | nils => exact .sl0 none 0 (fun _ => rfl)
    | cap0 a => exact .sl0 a 0 (fun _ => rfl)
    | agg h1 hl r1 =>
      refine .agg (by simpa using h1) (fun y hy => ?_) (fun j hj => ?_)
      · obtain ⟨z, hz, rfl⟩ := List.mem_map.1 hy
        rw [czV_leaf]
        exact hl z hz
      · simp only [List.getElem_map]
        exact czV_rel d (r1 j (by simpa using hj))
    | tup h1 r1 =>
      refine .tup (by simpa using h1) (fun j hj => ?_)
      simp only [List.getElem_map]
      exact czV_rel d (r1 j (by simpa using hj))
    | bool b => exact .bool b
    | int k n => exact .int k n
    | str s => exact .str s
    | nilp => exact .nilp
    | nilf => exact .nilf
    | nili => exact .nili
    | nilm => exact .nilm
    | ref h => exact .ref h
    | imm x hl h1 hr => exact .imm x hl h1 hr
    | sl x hcap hl h1 hr =>
      rename_i xs b p s cap
      have e : .sl (xs.map (czV d)) = V.sl (xs.map (czV d)) := rfl
      have hlen : (xs.map (czV d)).length = xs.length := by simp
      show Rel w M β (.sl (xs.map (czV d))) _
      rw [show Value.slice (some ⟨b, p, none⟩) xs.length cap = Value.slice (some ⟨b, p, none⟩) (xs.map (czV d)).length cap by rw [hlen]]
      refine .sl (s := s) x (by rw [hlen]; exact hcap) (fun v hv => ?_) (fun i j hi hj => h1 i j (by rw [← hlen]; exact hi) hj) (fun i j hi hj => ?_)
      · obtain ⟨u, hu, rfl⟩ := List.mem_map.1 hv
        exact czV_shape d (hl u hu).1 (hl u hu).2
      · have hi' : i < xs.length := by rw [← hlen]; exact hi
        simp only [List.getElem_map] at hj ⊢
        exact czV_cells d (fun e he y => czV_rel e (β := []) (v := y)) (hl _ (List.getElem_mem hi')).1 hj (fun hj' => hr i j hi' hj')
    | sl0 a cap h => exact .sl0 a cap h
    | osl h hcap hb hz => exact .osl h hcap hb hz
    | osl0 b p h => exact .osl0 b p h
    | fn h1 h2 r1 r2 => exact .fn h1 h2 r1 r2
    | ifc h hs => exact .ifc h hs
    | obj h => exact .obj h
    | mp h => exact .mp h
    | any x => exact .any x
  termination_by d => d
  decreasing_by all_goals omega

/-- v' is v as it reads now, leading to no row of the call's own. -/
inductive FlatR (σ : List Cell) : V → V → Prop
  | same {v} (h : v.shut = true) : FlatR σ v v
  | nil0 : FlatR σ .nils (.sl [])
  | cap0 : FlatR σ .cap0 (.sl [])
  | cz {d v u} (h : FlatR σ (czV d v) u) : FlatR σ v u
  | osl {c o n s xs ys} (h : rowOf σ c = some (s, xs)) (hon : o + n ≤ xs.length) (hl : ys.length = n) (hp : ∀ i (h1 : i < ys.length) (h2 : o + i < xs.length), FlatR σ xs[o + i] ys[i]) :
      FlatR σ (.osl c o n) (.sl ys)
  | ref {c i o s xs cs v} (h : rowOf σ c = some (s, xs)) (hv : xs[i]? = some v) (hf : FlatR σ v cs) : FlatR σ (.ref c i o) (.imm cs.cells o)
  | fn {f as bs as' bs'} (h1 : as'.length = as.length) (h2 : bs'.length = bs.length) (p1 : ∀ i (h : i < as.length) (h' : i < as'.length), FlatR σ as[i] as'[i])
      (p2 : ∀ i (h : i < bs.length) (h' : i < bs'.length), FlatR σ bs[i] bs'[i]) : FlatR σ (.fn f as bs) (.fn f as' bs')
  | ifc {t v v'} (h : FlatR σ v v') : FlatR σ (.ifc t v) (.ifc t v')
  | agg {xs ys} (hl : ys.length = xs.length) (hp : ∀ i (h : i < xs.length) (h' : i < ys.length), FlatR σ xs[i] ys[i]) : FlatR σ (.agg xs) (.agg ys)
  | tup {xs ys} (hl : ys.length = xs.length) (hp : ∀ i (h : i < xs.length) (h' : i < ys.length), FlatR σ xs[i] ys[i]) : FlatR σ (.tup xs) (.tup ys)

theorem FlatR.leaf {σ : List Cell} {v v' : V} (h : FlatR σ v v') : v'.leaf = v.leaf := by
  induction h with
  | cz h ih => rw [ih, czV_leaf]
  | _ => rfl

theorem mem_get {α : Type} {l : List α} {x : α} (h : x ∈ l) : ∃ i, ∃ hi : i < l.length, l[i] = x := List.mem_iff_getElem.1 h

theorem FlatR.shape {σ : List Cell} {v v' : V} (h : FlatR σ v v') : v.stores = true → v'.stores = true ∧ v'.cells.length = v.cells.length := by
  induction h with
  | cz h ih =>
    intro hs
    obtain ⟨c1, c2⟩ := czV_shape _ hs rfl
    obtain ⟨g1, g2⟩ := ih c1
    exact ⟨g1, g2.trans c2⟩
  | same h => exact fun hs => ⟨hs, rfl⟩
  | nil0 => exact fun _ => ⟨rfl, rfl⟩
  | cap0 => exact fun _ => ⟨rfl, rfl⟩
  | osl => exact fun _ => ⟨rfl, rfl⟩
  | ref => exact fun _ => ⟨rfl, rfl⟩
  | fn => exact fun _ => ⟨rfl, rfl⟩
  | ifc => exact fun _ => ⟨rfl, rfl⟩
  | tup => exact fun hs => by cases hs
  | agg hl1 hp =>
    rename_i xs ys _
    intro hs
    refine ⟨List.all_eq_true.2 fun y hy => ?_, hl1⟩
    obtain ⟨i, hi, rfl⟩ := mem_get hy
    have h1 := (hp i (by omega) hi).leaf
    rw [h1]
    exact List.all_eq_true.1 hs _ (List.getElem_mem _)

theorem flat_cells {w : World} {M M' : Nat → Prop} {β : Beta} {σ : List Cell} {v v' : V} (hf : FlatR σ v v') (hs : v.stores = true) (ih : ∀ x, Rel w M β v x → Rel w M' [] v' x)
    {x : Nat → Value} (hx : ∀ j (hj : j < v.cells.length), Rel w M β v.cells[j] (x j)) : ∀ j (hj : j < v'.cells.length), Rel w M' [] v'.cells[j] (x j) := by
  intro j hj
  obtain ⟨s1, s2⟩ := hf.shape hs
  by_cases hv : ∃ l, v = .agg l
  · obtain ⟨l, rfl⟩ := hv
    obtain ⟨ys, rfl⟩ : ∃ ys, v' = .agg ys := by
      have hl' := hf.leaf
      cases v' <;> first | exact ⟨_, rfl⟩ | (cases hl'; done) | (cases s1; done)
    have hl : ys.length = l.length := s2
    · have hr : Rel w M β (.agg l) (.agg ((List.range l.length).map x).toArray) := .agg (by simp) (fun y hy => stores_cells hs y hy) (fun k hk => by
        have := hx k hk
        have e : ((List.range l.length).map x).toArray.getD k default = x k := by simp [Array.getD, hk]
        rw [e]
        exact this)
      have := ih _ hr
      cases this
      rename_i h1 h2 h3
      have h4 := h3 j hj
      have hj' : j < l.length := by rw [← hl]; exact hj
      have e : ((List.range l.length).map x).toArray.getD j default = x j := by simp [Array.getD, hj']
      rw [e] at h4
      exact h4
  · have e1 : v.cells = [v] := by cases v <;> first | rfl | exact absurd ⟨_, rfl⟩ hv
    have hlv : v.leaf = true := by cases v <;> first | rfl | exact absurd ⟨_, rfl⟩ hv | cases hs
    have hl' := hf.leaf
    rw [hlv] at hl'
    have e2 : v'.cells = [v'] := by cases v' <;> first | rfl | cases hl'
    have hj0 : j = 0 := by rw [e2] at hj; simpa using hj
    subst hj0
    have h0 := hx 0 (by rw [e1]; simp)
    simp only [e1, List.getElem_cons_zero] at h0
    simp only [e2, List.getElem_cons_zero]
    exact ih _ h0

theorem SR.noA {w : World} {A : Nat → Prop} {β : Beta} {σ : List Cell} (h : SR G w A β σ) {c s : Nat} {xs : List V} (hc : rowOf σ c = some (s, xs)) {q : Nat × Nat × Nat} (hβ : β[c]? = some q) (hne : xs ≠ []) (hs : s ≠ 0) : ¬ A q.1 := by
  rcases rowOf_spec hc with h1 | h1
  · exact ((h.ok c _ _ h1 hβ).free rfl).1
  · exact fun hA => (h.ok c _ _ h1 hβ).2.2 hne hs (.inl hA)

theorem FlatR.ok {w : World} {A : Nat → Prop} {β : Beta} {σ : List Cell} (h : SR G w A β σ) {v v' : V} (hf : FlatR σ v v') : ∀ {x : Value}, Rel w (Mav A β σ) β v x → Rel w A [] v' x := by
  have down : ∀ b, ¬ Mav A β σ b → ¬ A b := fun b hb hA => hb (.inl hA)
  have weak : ∀ {u : V} {x : Value}, Rel w (Mav A β σ) [] u x → Rel w A [] u x := fun hr => hr.weaken (fun b _ hb => ⟨rfl, down b hb⟩) (fun _ arr _ fr hh => ⟨arr, fr, hh, rfl⟩) (fun _ _ hq => hq)
  induction hf with
  | same hsh =>
    intro x hr
    cases hr <;> first | (cases hsh; done) | skip
    · exact .bool _
    · exact .int _ _
    · exact .str _
    · exact .nilp
    · exact .nils
    · exact .nilf
    · exact .nili
    · exact .nilm
    · rename_i hl hc hr
      exact .imm _ hl (fun j hj => ⟨(hc j hj).1, down _ (hc j hj).2⟩) (fun j hj => weak (hr j hj))
    · rename_i hcap hl hc hr
      exact .sl _ hcap hl (fun i j hi hj => ⟨(hc i j hi hj).1, down _ (hc i j hi hj).2⟩) (fun i j hi hj => weak (hr i j hi hj))
    · rename_i a0 cap h0; exact .sl0 a0 cap h0
    · exact .cap0 _
  | cz h ih => intro x hr; exact ih (czV_rel _ hr)
  | nil0 => intro x hr; cases hr; exact .sl0 none 0 (fun _ => rfl)
  | cap0 => intro x hr; cases hr; exact .sl0 _ 0 (fun _ => rfl)
  | osl hrow hon hl hp ih =>
    rename_i c o n s xs ys
    intro x hr
    have main : ∀ (b p s' : Nat), β[c]? = some (b, p, s') → ∀ cap, n ≤ cap → Rel w A [] (.sl ys) (.slice (some ⟨b, p + o * s', none⟩) ys.length cap) := by
      intro b p s' hβ cap hcap
      obtain ⟨e1, he⟩ := h.elems hrow hβ
      subst e1
      have hex : ∃ f : Nat → Nat → Value, ∀ i j (hi : i < ys.length) (hi' : o + i < xs.length), ∀ (hj : j < xs[o + i].cells.length), w.cell? ⟨b, p + (o + i) * s' + j, none⟩ = some (f i j) ∧ Rel w (Mav A β σ) β (xs[o + i].cells[j]) (f i j) :=
        ⟨fun i j => if hh : o + i < xs.length then (if hj : j < xs[o + i].cells.length then Classical.choose ((he (o + i) hh).2.2 j hj) else default) else default,
         fun i j hi hi' hj => by simp only [dif_pos hi', dif_pos hj]; exact Classical.choose_spec ((he (o + i) hi').2.2 j hj)⟩
      obtain ⟨f, hf⟩ := hex
      refine .sl (s := s') f (by omega) (fun v hv => ?_) (fun i j hi hj => ?_) (fun i j hi hj => ?_)
      · obtain ⟨i, hi, rfl⟩ := mem_get hv
        obtain ⟨f1, f2, -⟩ := he (o + i) (by omega)
        obtain ⟨g1, g2⟩ := (hp i hi (by omega)).shape f1
        exact ⟨g1, by rw [g2, f2]⟩
      · obtain ⟨f1, f2, -⟩ := he (o + i) (by omega)
        have := (hf i j hi (by omega) (by omega)).1
        refine ⟨by rw [show p + o * s' + i * s' + j = p + (o + i) * s' + j by rw [Nat.add_mul]; omega]; exact this, ?_⟩
        exact h.noA hrow hβ (fun e => by subst e; simp at hon; omega) (by omega)
      · obtain ⟨f1, f2, -⟩ := he (o + i) (by omega)
        exact flat_cells (hp i hi (by omega)) f1 (fun x => ih i hi (by omega)) (x := f i) (fun j hj => (hf i j hi (by omega) hj).2) j hj
    cases hr with
    | osl hβ hcap hblk hz =>
      have := main _ _ _ hβ _ hcap
      rw [hl] at this
      exact this
    | osl0 b0 p0 hβ =>
      have : ys = [] := List.eq_nil_of_length_eq_zero hl
      subst this
      exact .sl (s := 0) (fun _ _ => default) (by simp) (fun v hv => by simp at hv) (fun i j hi => by simp at hi) (fun i j hi => by simp at hi)
  | ref hrow hv hf ih =>
    rename_i c i o s xs cs v
    intro x hr
    cases hr
    rename_i b p s' hβ
    obtain ⟨e1, he⟩ := h.elems hrow hβ
    subst e1
    have hi := get_lt hv
    rw [List.getElem?_eq_getElem hi] at hv
    injection hv with hv
    subst hv
    obtain ⟨f1, f2, f3⟩ := he i hi
    obtain ⟨g1, g2⟩ := hf.shape f1
    have hex : ∃ f : Nat → Value, ∀ j (hj : j < xs[i].cells.length), w.cell? ⟨b, p + i * s' + j, none⟩ = some (f j) ∧ Rel w (Mav A β σ) β (xs[i].cells[j]) (f j) :=
      ⟨fun j => if hj : j < xs[i].cells.length then Classical.choose (f3 j hj) else default, fun j hj => by simp only [dif_pos hj]; exact Classical.choose_spec (f3 j hj)⟩
    obtain ⟨f, hf'⟩ := hex
    refine .imm f (stores_cells g1) (fun j hj => ⟨(hf' j (by omega)).1, h.noA hrow hβ (fun e => by subst e; simp at hi) (by omega)⟩) ?_
    exact flat_cells hf f1 (fun x => ih) (x := f) (fun j hj => (hf' j hj).2)
  | fn h1 h2 p1 p2 ih1 ih2 =>
    intro x hr
    cases hr with
    | fn q1 q2 r1 r2 =>
    exact .fn (by omega) (by omega) (fun j hj => ih1 j (by omega) hj (r1 j (by omega))) (fun j hj => ih2 j (by omega) hj (r2 j (by omega)))
  | ifc hf ih =>
    intro x hr
    cases hr
    rename_i hst hrel
    exact .ifc (ih hrel) (hf.shape hst).1
  | agg hl hp ih =>
    intro x hr
    cases hr
    rename_i h1 hlf hrr
    refine .agg (by omega) (fun y hy => ?_) (fun j hj => ih j (by omega) hj (hrr j (by omega)))
    obtain ⟨i, hi, rfl⟩ := mem_get hy
    rw [(hp i (by omega) hi).leaf]
    exact hlf _ (List.getElem_mem _)
  | tup hl hp ih =>
    intro x hr
    cases hr
    rename_i h1 hrr
    exact .tup (by omega) (fun j hj => ih j (by omega) hj (hrr j (by omega)))

theorem closed_rel {w : World} {M : Nat → Prop} {β : Beta} {v v' : V} (hf : FlatR [] v v') : ∀ {x : Value}, Rel w M β v x → Rel w M [] v' x := by
  induction hf with
  | same hsh =>
    intro x hr
    cases hr <;> first | (cases hsh; done) | skip
    · exact .bool _
    · exact .int _ _
    · exact .str _
    · exact .nilp
    · exact .nils
    · exact .nilf
    · exact .nili
    · exact .nilm
    · rename_i hl hc hr; exact .imm _ hl hc hr
    · rename_i hcap hl hc hr; exact .sl _ hcap hl hc hr
    · rename_i a0 cap h0; exact .sl0 a0 cap h0
    · exact .cap0 _
  | cz h ih => intro x hr; exact ih (czV_rel _ hr)
  | nil0 => intro x hr; cases hr; exact .sl0 none 0 (fun _ => rfl)
  | cap0 => intro x hr; cases hr; exact .sl0 _ 0 (fun _ => rfl)
  | osl hrow => simp [rowOf] at hrow
  | ref hrow => simp [rowOf] at hrow
  | fn h1 h2 p1 p2 ih1 ih2 =>
    intro x hr
    cases hr with
    | fn q1 q2 r1 r2 => exact .fn (by omega) (by omega) (fun j hj => ih1 j (by omega) hj (r1 j (by omega))) (fun j hj => ih2 j (by omega) hj (r2 j (by omega)))
  | ifc hf ih =>
    intro x hr
    cases hr
    rename_i hst hrel
    exact .ifc (ih hrel) (hf.shape hst).1
  | agg hl hp ih =>
    intro x hr
    cases hr
    rename_i h1 hlf hrr
    refine .agg (by omega) (fun y hy => ?_) (fun j hj => ih j (by omega) hj (hrr j (by omega)))
    obtain ⟨i, hi, rfl⟩ := mem_get hy
    rw [(hp i (by omega) hi).leaf]
    exact hlf _ (List.getElem_mem _)
  | tup hl hp ih =>
    intro x hr
    cases hr
    rename_i h1 hrr
    exact .tup (by omega) (fun j hj => ih j (by omega) hj (hrr j (by omega)))

/-- A value without memory. -/
inductive Scal : V → Prop
  | leaf {v} (h : match v with | .bool _ | .int .. | .str _ | .nilp | .nils | .nilf | .nili | .nilm | .cap0 => True | _ => False) : Scal v
  | ifc {t v} (h : Scal v) : Scal (.ifc t v)
  | agg {xs} (h : ∀ i (hi : i < xs.length), Scal xs[i]) : Scal (.agg xs)
  | tup {xs} (h : ∀ i (hi : i < xs.length), Scal xs[i]) : Scal (.tup xs)

theorem Scal.rel {v : V} (hs : Scal v) : ∀ {w w' : World} {M M' : Nat → Prop} {β β' : Beta} {x : Value}, Rel w M β v x → Rel w' M' β' v x := by
  induction hs with
  | leaf h =>
    intro w w' M M' β β' x hr
    cases hr <;> first | (exact h.elim) | skip
    · exact .bool _
    · exact .int _ _
    · exact .str _
    · exact .nilp
    · exact .nils
    · exact .nilf
    · exact .nili
    · exact .nilm
    · exact .cap0 _
  | ifc h ih =>
    intro w w' M M' β β' x hr
    cases hr
    rename_i hst hrel
    exact .ifc (ih hrel) hst
  | agg h ih =>
    intro w w' M M' β β' x hr
    cases hr
    rename_i h1 hl hrr
    exact .agg h1 hl (fun j hj => ih j hj (hrr j hj))
  | tup h ih =>
    intro w w' M M' β β' x hr
    cases hr
    rename_i h1 hrr
    exact .tup h1 (fun j hj => ih j hj (hrr j hj))

end
end Go.TL
