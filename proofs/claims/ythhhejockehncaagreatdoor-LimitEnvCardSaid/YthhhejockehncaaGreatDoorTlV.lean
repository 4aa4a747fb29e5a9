/-
  Tree land, part V: more rows do no harm; calls whose arguments nobody writes any more.
-/
import Derived.Test.YthhhejockehncaaGreatDoorTlU
set_option linter.all false
namespace Go.TL
open Go

section
variable {P : Program} {G : Globals}

theorem rowOf_grow {σ : List Cell} {c : Nat} {p : Nat × List V} (h : rowOf σ c = some p) (l : List Cell) : rowOf (σ ++ l) c = some p := by
  obtain ⟨s, xs⟩ := p
  unfold rowOf
  rcases rowOf_spec h with h | h <;> rw [List.getElem?_append_left (get_lt h), h]

theorem evCells_grow {σ : List Cell} {n : Nat} {v : V} {cs : List V} (h : evCells σ n v = some cs) (l : List Cell) : evCells (σ ++ l) n v = some cs := by
  unfold evCells at h ⊢
  split at h <;> try (cases h; done)
  · split at h <;> try (cases h; done)
    rename_i hr
    rw [rowOf_grow hr]
    exact h
  · exact h

theorem evIA_grow {σ : List Cell} {s : Nat} {x i v : V} (h : evIA σ s x i = some v) (l : List Cell) : evIA (σ ++ l) s x i = some v := by
  unfold evIA at h ⊢
  split at h <;> try (cases h; done)
  · exact h
  · split at h <;> try (cases h; done)
    rename_i hc
    split at h <;> try (cases h; done)
    rename_i hr
    rw [if_pos hc, rowOf_grow hr]
    exact h

theorem evSlc_grow {σ : List Cell} {k : SK} {x v : V} {a b : Option V} (h : evSlc σ k x a b = some v) (l : List Cell) : evSlc (σ ++ l) k x a b = some v := by
  unfold evSlc at h ⊢
  split at h <;> try (cases h; done)
  · exact h
  · exact h
  · exact h
  · split at h <;> try (cases h; done)
    rename_i hr
    rw [rowOf_grow hr]
    exact h

theorem map_pair {α : Type} {x : Option α} {v : α} {s s' : List Cell} (h : x.map (fun v => (v, s)) = some (v, s')) : x = some v ∧ s' = s := by
  cases x with
  | none => cases h
  | some y => simp at h; exact ⟨by rw [h.1], h.2.symm⟩

/-- A light operation leaves the rows, and does the same where there are more. -/
theorem evO_light {q : O} (hq : (K.op q).heavy = false) {tm : List V} {σ σ' : List Cell} {v : V} (h : evO G tm σ q = some (v, σ')) : σ' = σ ∧ ∀ l, evO G tm (σ ++ l) q = some (v, σ ++ l) := by
  cases q <;> first | (cases hq; done) | skip
  case mv => simp only [evO, Option.some.injEq, Prod.mk.injEq] at h ⊢; exact ⟨h.2.symm, fun l => ⟨h.1, trivial⟩⟩
  case pick =>
    simp only [evO] at h ⊢
    split at h <;> first | (cases h; done) | (simp only [Option.some.injEq, Prod.mk.injEq] at h ⊢; exact ⟨h.2.symm, fun l => ⟨h.1, trivial⟩⟩)
  case build =>
    simp only [evO] at h ⊢
    cases hx : evFill _ _ with
    | none => rw [hx] at h; cases h
    | some cs => rw [hx] at h; simp at h; exact ⟨h.2.symm, fun l => by simp [h.1]⟩
  case ldA =>
    simp only [evO] at h ⊢
    cases hx : evCells σ _ _ with
    | none => rw [hx] at h; cases h
    | some cs => rw [hx] at h; simp at h; exact ⟨h.2.symm, fun l => by rw [evCells_grow hx]; simp [h.1]⟩
  case ld1 =>
    simp only [evO] at h ⊢
    split at h <;> first | (cases h; done) | skip
    rename_i hx
    simp only [Option.some.injEq, Prod.mk.injEq] at h
    exact ⟨h.2.symm, fun l => by rw [evCells_grow hx]; simp [h.1]⟩
  case ifc =>
    simp only [evO] at h ⊢
    split at h <;> first | (cases h; done) | skip
    rename_i hx
    simp only [Option.some.injEq, Prod.mk.injEq] at h
    exact ⟨h.2.symm, fun l => by rw [if_pos hx, h.1]⟩
  case fn =>
    simp only [evO, Option.some.injEq, Prod.mk.injEq] at h ⊢
    exact ⟨h.2.symm, fun l => ⟨h.1, trivial⟩⟩
  case slc =>
    simp only [evO] at h ⊢
    obtain ⟨h1, h2⟩ := map_pair h
    exact ⟨h2, fun l => by rw [evSlc_grow h1]; rfl⟩
  case ia =>
    simp only [evO] at h ⊢
    obtain ⟨h1, h2⟩ := map_pair h
    exact ⟨h2, fun l => by rw [evIA_grow h1]; rfl⟩
  all_goals
    simp only [evO] at h ⊢
    obtain ⟨h1, h2⟩ := map_pair h
    exact ⟨h2, fun l => by rw [h1]; rfl⟩

/-- An operation that does not look at rows. -/
def K.free : K → Bool
  | .op (.mv _) | .op (.pick ..) | .op (.build ..) | .op (.nilck _) | .op (.bin ..) | .op (.un ..) | .op (.cvI ..) | .op (.cvS _) | .op (.ifc ..) | .op (.fn ..) | .op (.clip _) | .op (.fa ..) | .op (.fld ..) | .op (.iaa ..)
  | .op (.ix ..) | .op (.ixA ..) | .op (.ext ..) | .op (.len ..) | .op (.max _) | .op (.min _) | .op (.lit ..) | .op (.ta ..) => true
  | _ => false

theorem evO_free {q : O} (hq : (K.op q).free = true) {tm : List V} {σ σ' : List Cell} {v : V} (h : evO G tm σ q = some (v, σ')) (s : List Cell) : evO G tm s q = some (v, s) := by
  cases q <;> first | (cases hq; done) | skip
  case mv => simp only [evO, Option.some.injEq, Prod.mk.injEq] at h ⊢; exact ⟨h.1, trivial⟩
  case pick =>
    simp only [evO] at h ⊢
    split at h <;> first | (cases h; done) | (simp only [Option.some.injEq, Prod.mk.injEq] at h ⊢; exact ⟨h.1, trivial⟩)
  case build =>
    simp only [evO] at h ⊢
    cases hx : evFill _ _ with
    | none => rw [hx] at h; cases h
    | some cs => rw [hx] at h; simp at h; simp [h.1]
  case ifc =>
    simp only [evO] at h ⊢
    split at h <;> first | (cases h; done) | skip
    rename_i hx
    simp only [Option.some.injEq, Prod.mk.injEq] at h
    rw [if_pos hx, h.1]
  case fn =>
    simp only [evO, Option.some.injEq, Prod.mk.injEq] at h ⊢
    exact ⟨h.1, trivial⟩
  all_goals
    simp only [evO] at h ⊢
    obtain ⟨h1, h2⟩ := map_pair h
    rw [h1]
    rfl

/-- An operation that only adds a row. -/
def K.grows : K → Bool
  | .op (.box _) | .op (.new _) | .op (.row ..) | .op (.make ..) => true
  | _ => false

theorem evO_grows {q : O} (hq : (K.op q).grows = true) {tm : List V} {σ σ' : List Cell} {v : V} (h : evO G tm σ q = some (v, σ')) : ∃ l, σ' = σ ++ l := by
  cases q <;> first | (cases hq; done) | skip
  case box =>
    simp only [evO] at h
    split at h <;> first | (cases h; done) | skip
    simp only [Option.some.injEq, Prod.mk.injEq] at h
    exact ⟨_, h.2.symm⟩
  case new =>
    simp only [evO, Option.some.injEq, Prod.mk.injEq] at h
    exact ⟨_, h.2.symm⟩
  case row =>
    simp only [evO, evRow] at h
    split at h
    · split at h <;> first | (cases h; done) | skip
      simp only [Option.some.injEq, Prod.mk.injEq] at h
      exact ⟨[], by simp [h.2]⟩
    · split at h <;> first | (cases h; done) | skip
      simp only [Option.some.injEq, Prod.mk.injEq] at h
      exact ⟨_, h.2.symm⟩
  case make =>
    simp only [evO, evMake] at h
    split at h <;> first | (cases h; done) | skip
    split at h <;> first | (cases h; done) | skip
    simp only [Option.some.injEq, Prod.mk.injEq] at h
    exact ⟨_, h.2.symm⟩

/-! ### flattening, carried out -/

def mapO (f : V → Option V) : List V → Option (List V)
  | [] => some []
  | v :: r => match f v, mapO f r with
    | some x, some l => some (x :: l)
    | _, _ => none

def flatV : Nat → List Cell → V → Option V
  | 0, _, _ => none
  | n + 1, σ, v => match v with
    | .osl c o k => match rowOf σ c with
      | some (_, xs) => if o + k ≤ xs.length then (mapO (flatV n σ) ((xs.drop o).take k)).map .sl else none
      | none => none
    | .ref c i o => match rowOf σ c with
      | some (_, xs) => match xs[i]? with
        | some v => (flatV n σ v).map fun u => .imm u.cells o
        | none => none
      | none => none
    | .fn f as bs => match mapO (flatV n σ) as, mapO (flatV n σ) bs with
      | some x, some y => some (.fn f x y)
      | _, _ => none
    | .ifc t v => (flatV n σ v).map (.ifc t)
    | .agg xs => (mapO (flatV n σ) xs).map .agg
    | .tup xs => (mapO (flatV n σ) xs).map .tup
    | v => if v.shut then some v else none

theorem mapO_get {f : V → Option V} : ∀ {l l' : List V}, mapO f l = some l' → l'.length = l.length ∧ ∀ i (h : i < l.length) (h' : i < l'.length), f l[i] = some l'[i]
  | [], l', h => by simp only [mapO, Option.some.injEq] at h; subst h; exact ⟨rfl, fun i h => by simp at h⟩
  | v :: r, l', h => by
    simp only [mapO] at h
    split at h <;> try (cases h; done)
    rename_i x l h1 h2
    injection h with h
    subst h
    obtain ⟨g1, g2⟩ := mapO_get h2
    refine ⟨by simp [g1], fun i hi hi' => ?_⟩
    cases i with
    | zero => exact h1
    | succ i => exact g2 i (by simpa using hi) (by simpa using hi')

theorem flatV_ok : ∀ {n : Nat} {σ : List Cell} {v v' : V}, flatV n σ v = some v' → FlatR σ v v'
  | 0, σ, v, v', h => by cases h
  | n + 1, σ, v, v', h => by
    have leaf : (if v.shut then some v else none) = some v' → FlatR σ v v' := by
      intro h
      split at h <;> try (cases h; done)
      rename_i hs
      injection h with h
      subst h
      exact .same hs
    cases v <;> first | exact leaf h | skip
    case osl c o k =>
      simp only [flatV] at h
      split at h <;> try (cases h; done)
      rename_i s xs hr
      split at h <;> try (cases h; done)
      rename_i hk
      cases hm : mapO (flatV n σ) ((xs.drop o).take k) with
      | none => rw [hm] at h; cases h
      | some ys =>
        rw [hm] at h
        injection h with h
        subst h
        obtain ⟨g1, g2⟩ := mapO_get hm
        refine .osl hr hk (by rw [g1]; simp; omega) (fun i h1 h2 => ?_)
        have := g2 i (by rw [← g1]; exact h1) h1
        simp only [List.getElem_take, List.getElem_drop] at this
        exact flatV_ok this
    case ref c i o =>
      simp only [flatV] at h
      split at h <;> try (cases h; done)
      rename_i s xs hr
      split at h <;> try (cases h; done)
      rename_i u hu
      cases hm : flatV n σ u with
      | none => rw [hm] at h; cases h
      | some u' =>
        rw [hm] at h
        injection h with h
        subst h
        exact .ref hr hu (flatV_ok hm)
    case fn f as bs =>
      simp only [flatV] at h
      split at h <;> try (cases h; done)
      rename_i x y h1 h2
      injection h with h
      subst h
      obtain ⟨g1, g2⟩ := mapO_get h1
      obtain ⟨g3, g4⟩ := mapO_get h2
      exact .fn g1 g3 (fun i h h' => flatV_ok (g2 i h h')) (fun i h h' => flatV_ok (g4 i h h'))
    case ifc t u =>
      simp only [flatV] at h
      cases hm : flatV n σ u with
      | none => rw [hm] at h; cases h
      | some u' =>
        rw [hm] at h
        injection h with h
        subst h
        exact .ifc (flatV_ok hm)
    case agg xs =>
      simp only [flatV] at h
      cases hm : mapO (flatV n σ) xs with
      | none => rw [hm] at h; cases h
      | some ys =>
        rw [hm] at h
        injection h with h
        subst h
        obtain ⟨g1, g2⟩ := mapO_get hm
        exact .agg g1 (fun i h h' => flatV_ok (g2 i h h'))
    case tup xs =>
      simp only [flatV] at h
      cases hm : mapO (flatV n σ) xs with
      | none => rw [hm] at h; cases h
      | some ys =>
        rw [hm] at h
        injection h with h
        subst h
        obtain ⟨g1, g2⟩ := mapO_get hm
        exact .tup g1 (fun i h h' => flatV_ok (g2 i h h'))

theorem flatL_ok {n : Nat} {σ : List Cell} {vs vs' : List V} (h : mapO (flatV n σ) vs = some vs') : FlatL σ vs vs' := by
  obtain ⟨g1, g2⟩ := mapO_get h
  exact ⟨g1, fun i h h' => flatV_ok (g2 i h h')⟩

theorem FlatR.grow {σ : List Cell} {v v' : V} (h : FlatR σ v v') (l : List Cell) : FlatR (σ ++ l) v v' := by
  induction h with
  | same h => exact .same h
  | cz h ih => exact .cz ih
  | nil0 => exact .nil0
  | cap0 => exact .cap0
  | osl h hon hl hp ih => exact .osl (rowOf_grow h l) hon hl ih
  | ref h hv hf ih => exact .ref (rowOf_grow h l) hv ih
  | fn h1 h2 p1 p2 ih1 ih2 => exact .fn h1 h2 ih1 ih2
  | ifc h ih => exact .ifc ih
  | agg hl hp ih => exact .agg hl ih
  | tup hl hp ih => exact .tup hl ih

theorem FlatL.grow {σ : List Cell} {vs vs' : List V} (h : FlatL σ vs vs') (l : List Cell) : FlatL (σ ++ l) vs vs' := ⟨h.1, fun i a b => (h.2 i a b).grow l⟩

def scalB : Nat → V → Bool
  | 0, _ => false
  | n + 1, v => match v with
    | .bool _ | .int .. | .str _ | .nilp | .nils | .nilf | .nili | .nilm | .cap0 => true
    | .ifc _ v => scalB n v
    | .agg xs | .tup xs => xs.all (scalB n)
    | _ => false

theorem scalB_ok : ∀ {n : Nat} {v : V}, scalB n v = true → Scal v
  | 0, v, h => by cases h
  | n + 1, v, h => by
    cases v <;> first | exact .leaf trivial | (cases h; done) | skip
    · exact .ifc (scalB_ok h)
    · simp only [scalB, List.all_eq_true] at h
      exact .agg fun i hi => scalB_ok (h _ (List.getElem_mem hi))
    · simp only [scalB, List.all_eq_true] at h
      exact .tup fun i hi => scalB_ok (h _ (List.getElem_mem hi))

/-! ### sealed rows -/

/-- Only what nobody writes any more. -/
def heldOnly : List Cell → List Cell
  | [] => []
  | .held s xs :: r => .held s xs :: heldOnly r
  | _ :: r => .dead :: heldOnly r

theorem heldOnly_get : ∀ {σ : List Cell} {c : Nat} {cl : Cell}, (heldOnly σ)[c]? = some cl → cl = .dead ∨ (∃ s xs, cl = .held s xs ∧ σ[c]? = some cl)
  | [], c, cl, h => by simp [heldOnly] at h
  | x :: σ, c, cl, h => by
    cases c with
    | zero => cases x <;> simp [heldOnly] at h <;> subst h <;> first | exact .inl rfl | exact .inr ⟨_, _, rfl, by simp⟩
    | succ c =>
      have : (heldOnly σ)[c]? = some cl := by cases x <;> simpa [heldOnly] using h
      rcases heldOnly_get this with h | ⟨s, xs, h1, h2⟩
      · exact .inl h
      · exact .inr ⟨s, xs, h1, by simpa using h2⟩

theorem heldOnly_len : ∀ {σ : List Cell}, (heldOnly σ).length = σ.length
  | [] => rfl
  | x :: σ => by cases x <;> simp [heldOnly, heldOnly_len]

theorem SR.heldOnly {w : World} {A : Nat → Prop} {β : Beta} {σ : List Cell} (h : SR G w A β σ) : SR G w (Mav A β σ) β (heldOnly σ) ∧ Mav (Mav A β σ) β (heldOnly σ) = Mav A β σ := by
  have e : Mav (Mav A β σ) β (TL.heldOnly σ) = Mav A β σ := by
    funext b
    apply propext
    constructor
    · rintro (h | ⟨c, cl, q, h1, h2, h3⟩)
      · exact h
      · rcases heldOnly_get h1 with rfl | ⟨s, xs, rfl, -⟩ <;> cases h2
    · exact .inl
  refine ⟨⟨by rw [heldOnly_len]; exact h.len, by rw [e]; exact h.glob, ?_, ?_, ?_⟩, e⟩
  · intro b hb
    exact hb.elim (h.low b) (fun ⟨c, cl, q, h1, h2, h3⟩ => ((h.ok c cl _ h1 h3).free h2).2)
  · intro c cl q hc hq
    rcases heldOnly_get hc with rfl | ⟨s, xs, rfl, h2⟩
    · trivial
    · obtain ⟨o1, o2, o3⟩ := h.ok c _ q h2 hq
      exact ⟨o1, by rw [e]; exact o2, by rw [e]; exact o3⟩
  · intro c c' cl cl' b q q' h1 h2
    rcases heldOnly_get h1 with rfl | ⟨s, xs, rfl, -⟩ <;> cases h2

/-- A pure function whose arguments lead to sealed rows alone. -/
theorem CallOk.held {f : FuncId} {vs vs' : List V} {r : V} {σ : List Cell} (hp : Pure P G f vs' r) (hf : FlatL (heldOnly σ) vs vs') : CallOk P G f vs σ (fun v s => v = r ∧ s = σ) := by
  intro A w β xs h hr
  obtain ⟨h', e⟩ := h.heldOnly
  have hlow : ∀ b, Mav A β σ b → b < w.heap.size := h'.low
  obtain ⟨nx, w1, h1, h2⟩ := hp (Mav A β σ) w xs hlow h.glob (hf.ok h' (by rw [e]; exact hr))
  refine ⟨nx, w1, h1, h2.imp ?_ ?_⟩
  · rintro ⟨x, rfl, hx, hb⟩
    obtain ⟨g1, g2⟩ := h.after hb
    exact ⟨x, r, σ, β, rfl, ⟨rfl, rfl⟩, hx.up, g1, g2⟩
  · rintro ⟨rfl, rfl, hc⟩
    refine ⟨rfl, rfl, hc.mono ?_⟩
    rintro e w' ⟨x, rfl, hx, hb⟩
    obtain ⟨g1, g2⟩ := h.after hb
    exact ⟨x, r, σ, β, rfl, ⟨rfl, rfl⟩, hx.up, g1, g2⟩

def sealAt (σ : List Cell) (c : Nat) : List Cell := match σ[c]? with
  | some (.row s xs) => σ.set c (.held s xs)
  | _ => σ

/-- Seal the rows that the values name. -/
def sealVs : Nat → List V → List Cell → List Cell
  | 0, _, σ => σ
  | _, [], σ => σ
  | n + 1, v :: r, σ => sealVs n r (match v with
    | .osl c .. | .ref c .. => sealAt σ c
    | .agg xs => sealVs n xs σ
    | _ => σ)

theorem sealAt_ok {w : World} {A : Nat → Prop} {β : Beta} {σ : List Cell} (h : SR G w A β σ) (c : Nat) : SR G w A β (sealAt σ c) ∧ Ext w β σ w β (sealAt σ c) := by
  unfold sealAt
  split
  · exact h.sealRow ‹_›
  · exact ⟨h, .refl _ _ _⟩

theorem sealVs_ok {w : World} {A : Nat → Prop} {β : Beta} : ∀ {n : Nat} {vs : List V} {σ : List Cell}, SR G w A β σ → SR G w A β (sealVs n vs σ) ∧ Ext w β σ w β (sealVs n vs σ)
  | 0, vs, σ, h => ⟨h, .refl _ _ _⟩
  | n + 1, [], σ, h => ⟨h, .refl _ _ _⟩
  | n + 1, v :: r, σ, h => by
    have step : ∀ σ', SR G w A β σ' ∧ Ext w β σ w β σ' → SR G w A β (sealVs n r σ') ∧ Ext w β σ w β (sealVs n r σ') := fun σ' h' => by
      obtain ⟨g1, g2⟩ := sealVs_ok (n := n) (vs := r) h'.1
      exact ⟨g1, h'.2.trans g2⟩
    cases v <;> simp only [sealVs] <;> refine step _ ?_ <;> first | exact sealAt_ok h _ | exact sealVs_ok h | exact ⟨h, .refl _ _ _⟩

/-- First the rows are sealed. -/
theorem CallOk.sealed {f : FuncId} {vs vs' : List V} {r : V} {σ : List Cell} (n : Nat) (hp : Pure P G f vs' r) (hf : FlatL (heldOnly (sealVs n vs σ)) vs vs') : CallOk P G f vs σ (fun v s => v = r ∧ s = sealVs n vs σ) := by
  intro A w β xs h hr
  obtain ⟨h', he⟩ := sealVs_ok (n := n) (vs := vs) h
  obtain ⟨nx, w1, h1, h2⟩ := CallOk.held hp hf A w β xs h' (hr.ext he)
  refine ⟨nx, w1, h1, h2.imp ?_ ?_⟩
  · rintro ⟨x, v, σ', β', e, q, r1, r2, r3⟩
    exact ⟨x, v, σ', β', e, q, r1, r2, he.trans r3⟩
  · rintro ⟨e1, rfl, hc⟩
    refine ⟨e1, rfl, hc.mono ?_⟩
    rintro e w' ⟨x, v, σ', β', e, q, r1, r2, r3⟩
    exact ⟨x, v, σ', β', e, q, r1, r2, he.trans r3⟩

end
end Go.TL
