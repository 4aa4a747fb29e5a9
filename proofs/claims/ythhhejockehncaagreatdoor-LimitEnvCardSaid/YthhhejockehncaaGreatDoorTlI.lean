/-
  Tree land, part I: addresses, loads, parts, indexes, slices, lengths.
-/
import Derived.Test.YthhhejockehncaaGreatDoorTlH
import Derived.Laws.Cells
set_option linter.all false
namespace Go.TL
open Go

section
variable {P : Program} {G : Globals}

theorem addr_add (b p n : Nat) : (⟨b, p, none⟩ : Addr).add n = ⟨b, p + n, none⟩ := by
  unfold Addr.add
  split
  · subst_vars; rfl
  · rfl

def sizeP (P : Program) (t : TypeId) : Option Nat := (P.info? t).map (·.size)
theorem run_sizeOf {t : TypeId} {n : Nat} (h : sizeP P t = some n) {w : World} : (sizeOf t).run P w = .ok n w := by
  unfold sizeP at h
  cases hi : P.info? t with
  | none => rw [hi] at h; cases h
  | some i =>
    rw [hi] at h
    simp at h
    subst h
    simp [sizeOf, typeInfo, hi]

def aggP (P : Program) (t : TypeId) : Option Bool := (P.underlying t).map fun | .struct _ | .array _ _ => true | _ => false
theorem run_isAgg {t : TypeId} {r : Bool} (h : aggP P t = some r) {w : World} : (isAgg t).run P w = .ok r w := by
  unfold aggP at h
  cases hd : P.underlying t with
  | none => rw [hd] at h; cases h
  | some d =>
    rw [hd] at h
    simp only [Option.map_some, Option.some.injEq] at h
    simp only [isAgg, Sem.run_bind, run_underlying hd, Result.andThen_ok]
    cases d <;> subst h <;> rfl

/-! ### field addresses -/

def evFA (off : Nat) : V → Option V
  | .ref c i o => some (.ref c i (o + off))
  | .imm xs o => some (.imm xs (o + off))
  | _ => none

def prepFA (P : Program) (s : TypeId) (field : Nat) : Option Nat :=
  match P.underlying s with
  | some (.struct fields) => match fields[field]? with
    | some f => match sizeP P f.type with
      | some n => if n = 0 then none else some f.offset
      | none => none
    | none => none
  | _ => none

theorem fa_ok {s : TypeId} {field off : Nat} (hp : prepFA P s field = some off) {x v : V} (h : evFA off x = some v) {w : World} {M : Nat → Prop} {β : Beta} {a : Value} (ha : Rel w M β x a) :
    ∃ y, (Instr.fieldAt s a field).run P w = .ok y w ∧ Rel w M β v y := by
  unfold prepFA at hp
  split at hp <;> try (cases hp; done)
  rename_i fields hu
  split at hp <;> try (cases hp; done)
  rename_i f hf
  split at hp <;> try (cases hp; done)
  rename_i n hn
  split at hp <;> try (cases hp; done)
  rename_i h0
  injection hp with hp
  subst hp
  unfold evFA at h
  split at h <;> try (cases h; done)
  all_goals
    injection h with h
    subst h
    cases ha
    refine ⟨_, by
      simp only [Instr.fieldAt, Sem.run_bind, run_underlying hu, Result.andThen_ok, hf, Instr.sureAddr, Sem.run_pure, fieldPlace, run_sizeOf hn, if_neg h0, addr_add]
      rfl, ?_⟩
  · rw [Nat.add_assoc]; rename_i hb; exact .ref hb
  · rw [Nat.add_assoc]; rename_i hl hc hr; exact .imm _ hl hc hr

/-! ### indexes into slices and arrays -/

def rowOf (σ : List Cell) (c : Nat) : Option (Nat × List V) :=
  match σ[c]? with
  | some (.row s xs) | some (.held s xs) => some (s, xs)
  | _ => none

theorem rowOf_spec {σ : List Cell} {c s : Nat} {xs : List V} (h : rowOf σ c = some (s, xs)) : σ[c]? = some (.row s xs) ∨ σ[c]? = some (.held s xs) := by
  unfold rowOf at h
  split at h <;> first | (cases h; done) | skip
  · injection h with h; injection h with h1 h2; subst h1; subst h2; exact .inl ‹_›
  · injection h with h; injection h with h1 h2; subst h1; subst h2; exact .inr ‹_›

theorem SR.elems {w : World} {A : Nat → Prop} {β : Beta} {σ : List Cell} (h : SR G w A β σ) {c s : Nat} {xs : List V} (hc : rowOf σ c = some (s, xs)) {b p s' : Nat} (hβ : β[c]? = some (b, p, s')) :
    s' = s ∧ ElemsAt w (Mav A β σ) β b p s xs := by
  rcases rowOf_spec hc with h1 | h1
  · have := h.ok c _ _ h1 hβ; exact ⟨this.1, this.2.2.1⟩
  · have := h.ok c _ _ h1 hβ; exact ⟨this.1, this.2.1⟩

def evIA (σ : List Cell) (s : Nat) (x ix : V) : Option V :=
  match x, ix with
  | .sl xs, .int _ i => if 0 ≤ i ∧ i < (xs.length : Int) then (match xs[i.toNat]? with | some v => if v.cells.length = s then some (.imm v.cells 0) else none | none => none) else none
  | .osl c o n, .int _ i => if 0 ≤ i ∧ i < (n : Int) then (match rowOf σ c with | some (s', _) => if s' = s then some (.ref c (o + i.toNat) 0) else none | none => none) else none
  | _, _ => none

def prepIA (P : Program) (t : TypeId) : Option (Option Nat × Nat) :=
  match P.underlying t with
  | some (.slice e) => (sizeP P e).map fun n => (none, n)
  | some (.array len e) => (sizeP P e).map fun n => (some len, n)
  | _ => none

theorem ia_ok {t : TypeId} {s : Nat} (hp : prepIA P t = some (none, s)) {A : Nat → Prop} {w : World} {β : Beta} {σ : List Cell} (hs : SR G w A β σ) {x ix v : V} (h : evIA σ s x ix = some v) {a i : Value}
    (ha : Rel w (Mav A β σ) β x a) (hi : Rel w (Mav A β σ) β ix i) : ∃ y, (Instr.indexAt t a i).run P w = .ok y w ∧ Rel w (Mav A β σ) β v y := by
  unfold prepIA at hp
  split at hp
  rotate_left
  · rename_i len e hu
    cases hz : sizeP P e <;> rw [hz] at hp <;> cases hp
  · cases hp
  rename_i e hu
  have hz : sizeP P e = some s := by
    cases hz : sizeP P e with
    | none => rw [hz] at hp; cases hp
    | some n => rw [hz] at hp; injection hp with hp; injection hp with _ hp; rw [hp]
  unfold evIA at h
  split at h
  · rename_i xs k n
    split at h <;> try (cases h; done)
    rename_i hb
    split at h <;> try (cases h; done)
    rename_i v0 hv0
    split at h <;> try (cases h; done)
    rename_i hsz
    injection h with h
    subst h
    cases hi
    cases ha
    rotate_left
    · simp at hv0
    rename_i b p s0 cap x hcap hl hc hr
    have hlt : n.toNat < xs.length := by omega
    rw [List.getElem?_eq_getElem hlt] at hv0
    injection hv0 with hv0
    have hs0 : s0 = s := by
      have := (hl _ (List.getElem_mem hlt)).2
      rw [hv0] at this
      omega
    subst hs0
    refine ⟨.pointer (some ⟨b, p + n.toNat * s0, none⟩), ?_, ?_⟩
    · have hb' : 0 ≤ n ∧ n < ((xs.length : Nat) : Int) := hb
      simp only [Instr.indexAt, asIntOf, Sem.run_bind, Sem.run_pure, Result.andThen_ok, run_underlying hu, if_pos hb', run_sizeOf hz, addr_add]
    · have h1 := (hl _ (List.getElem_mem hlt)).1
      rw [hv0] at h1
      refine Rel.imm (o := 0) (fun j => x n.toNat j) (stores_cells h1) (fun j hj => ?_) (fun j hj => ?_)
      · exact hc n.toNat j hlt (by omega)
      · have := hr n.toNat j hlt (by rw [hv0]; exact hj)
        simp only [hv0] at this
        exact this
  · rename_i c o n k i0
    split at h <;> try (cases h; done)
    rename_i hb
    split at h <;> try (cases h; done)
    rename_i s' xs' hrow
    split at h <;> try (cases h; done)
    rename_i hss
    injection h with h
    subst h
    subst hss
    cases hi
    cases ha with
    | osl hβ hcap hblk hz0 =>
      rename_i b p s0 cap arr t0 fr
      obtain ⟨e1, -⟩ := hs.elems hrow hβ
      subst e1
      refine ⟨.pointer (some ⟨b, p + o * s0 + i0.toNat * s0, none⟩), ?_, ?_⟩
      · simp only [Instr.indexAt, asIntOf, Sem.run_bind, Sem.run_pure, Result.andThen_ok, run_underlying hu, if_pos hb, run_sizeOf hz, addr_add]
      · have : p + o * s0 + i0.toNat * s0 = p + (o + i0.toNat) * s0 + 0 := by rw [Nat.add_mul]; omega
        rw [this]
        exact .ref hβ
    | osl0 b0 p0 hβ => omega
  · cases h

def evIAa (len s : Nat) (x ix : V) : Option V :=
  match x, ix with
  | .ref c i o, .int _ k => if 0 ≤ k ∧ k < (len : Int) then some (.ref c i (o + k.toNat * s)) else none
  | .imm xs o, .int _ k => if 0 ≤ k ∧ k < (len : Int) then some (.imm xs (o + k.toNat * s)) else none
  | _, _ => none

theorem iaa_ok {t : TypeId} {len s : Nat} (hp : prepIA P t = some (some len, s)) {w : World} {M : Nat → Prop} {β : Beta} {x ix v : V} (h : evIAa len s x ix = some v) {a i : Value}
    (ha : Rel w M β x a) (hi : Rel w M β ix i) : ∃ y, (Instr.indexAt t a i).run P w = .ok y w ∧ Rel w M β v y := by
  unfold prepIA at hp
  split at hp
  · rename_i e hu
    cases hz : sizeP P e <;> rw [hz] at hp <;> cases hp
  rotate_left
  · cases hp
  rename_i len' e hu
  have hz : len' = len ∧ sizeP P e = some s := by
    cases hz : sizeP P e with
    | none => rw [hz] at hp; cases hp
    | some n => rw [hz] at hp; injection hp with hp; injection hp with h1 h2; injection h1 with h1; subst h1; subst h2; exact ⟨rfl, rfl⟩
  obtain ⟨rfl, hz⟩ := hz
  unfold evIAa at h
  split at h <;> try (cases h; done)
  all_goals
    split at h <;> try (cases h; done)
    rename_i hb
    injection h with h
    subst h
    cases hi
    cases ha
    refine ⟨_, by
      simp only [Instr.indexAt, asIntOf, Sem.run_bind, Sem.run_pure, Result.andThen_ok, run_underlying hu, Instr.sureAddr, if_pos hb, run_sizeOf hz, addr_add]
      rfl, ?_⟩
  · rw [Nat.add_assoc]; rename_i hβ; exact .ref hβ
  · rw [Nat.add_assoc]; rename_i hl hc hr; exact .imm _ hl hc hr

/-! ### loads -/

/-- The cells behind a pointer, n of them. -/
def evCells (σ : List Cell) (n : Nat) : V → Option (List V)
  | .ref c i o => match rowOf σ c with
    | some (_, xs) => match xs[i]? with
      | some v => if o + n ≤ v.cells.length then some ((v.cells.drop o).take n) else none
      | none => none
    | none => none
  | .imm xs o => if o + n ≤ xs.length then some ((xs.drop o).take n) else none
  | _ => none

theorem cells_ok {A : Nat → Prop} {w : World} {β : Beta} {σ : List Cell} (hs : SR G w A β σ) {n : Nat} {x : V} {cs : List V} (h : evCells σ n x = some cs) {a : Value} (ha : Rel w (Mav A β σ) β x a) :
    cs.length = n ∧ (∀ v ∈ cs, v.leaf = true) ∧ ∃ b p, a = .pointer (some ⟨b, p, none⟩) ∧ ∀ j (hj : j < cs.length), ∃ y, w.cell? ⟨b, p + j, none⟩ = some y ∧ Rel w (Mav A β σ) β cs[j] y := by
  unfold evCells at h
  split at h
  · rename_i c i o
    split at h <;> try (cases h; done)
    rename_i s xs hrow
    split at h <;> try (cases h; done)
    rename_i v hv
    split at h <;> try (cases h; done)
    rename_i hle
    injection h with h
    subst h
    cases ha
    rename_i b p s' hβ
    obtain ⟨e1, he⟩ := hs.elems hrow hβ
    subst e1
    have hi : i < xs.length := by
      rcases Nat.lt_or_ge i xs.length with hlt | hge
      · exact hlt
      · rw [List.getElem?_eq_none hge] at hv; cases hv
    rw [List.getElem?_eq_getElem hi] at hv
    injection hv with hv
    subst hv
    obtain ⟨f1, f2, f3⟩ := he i hi
    refine ⟨by simp; omega, fun y hy => stores_cells f1 y (List.mem_of_mem_drop (List.mem_of_mem_take hy)), b, _, rfl, fun j hj => ?_⟩
    have hj' : j < n := by simp at hj; omega
    obtain ⟨y, h1, h2⟩ := f3 (o + j) (by omega)
    refine ⟨y, by rw [show p + i * s' + o + j = p + i * s' + (o + j) by omega]; exact h1, ?_⟩
    simpa using h2
  · rename_i xs o
    split at h <;> try (cases h; done)
    rename_i hle
    injection h with h
    subst h
    cases ha
    rename_i b p x hl hc hr
    refine ⟨by simp; omega, fun y hy => hl y (List.mem_of_mem_drop (List.mem_of_mem_take hy)), b, _, rfl, fun j hj => ?_⟩
    have hj' : j < n := by simp at hj; omega
    refine ⟨x (o + j), by rw [show p + o + j = p + (o + j) by omega]; exact (hc (o + j) (by omega)).1, ?_⟩
    have := (hr (o + j) (by omega)).up (β := β)
    simpa using this
  · cases h

theorem ldA_ok {t : TypeId} {n : Nat} (h1 : aggP P t = some true) (h2 : sizeP P t = some n) {A : Nat → Prop} {w : World} {β : Beta} {σ : List Cell} (hs : SR G w A β σ) {x : V} {cs : List V}
    (h : evCells σ n x = some cs) {a : Value} (ha : Rel w (Mav A β σ) β x a) : ∃ y, (Instr.loadAt t a).run P w = .ok y w ∧ Rel w (Mav A β σ) β (.agg cs) y := by
  obtain ⟨e1, e2, b, p, rfl, e3⟩ := cells_ok hs h ha
  have hex : ∃ f : Nat → Value, ∀ j (hj : j < cs.length), w.cell? ⟨b, p + j, none⟩ = some (f j) ∧ Rel w (Mav A β σ) β cs[j] (f j) :=
    ⟨fun j => if hj : j < cs.length then Classical.choose (e3 j hj) else default, fun j hj => by simp only [dif_pos hj]; exact Classical.choose_spec (e3 j hj)⟩
  obtain ⟨f, hf⟩ := hex
  have hl := run_loadCells (P := P) w ⟨b, p, none⟩ n f (fun j hj => by rw [addr_add]; exact (hf j (by omega)).1)
  refine ⟨.agg ((List.range n).map f).toArray, ?_, .agg (by simp [e1]) e2 (fun j hj => ?_)⟩
  · simp only [Instr.loadAt, Instr.sureAddr, Sem.run_bind, Sem.run_pure, Result.andThen_ok, loadVar, run_isAgg h1, if_true, run_sizeOf h2, hl]
  · have : (((List.range n).map f).toArray).getD j default = f j := by
      simp [Array.getD]
      omega
    rw [this]
    exact (hf j hj).2

theorem ld1_ok {t : TypeId} (h1 : aggP P t = some false) {A : Nat → Prop} {w : World} {β : Beta} {σ : List Cell} (hs : SR G w A β σ) {x v : V}
    (h : evCells σ 1 x = some [v]) {a : Value} (ha : Rel w (Mav A β σ) β x a) : ∃ y, (Instr.loadAt t a).run P w = .ok y w ∧ Rel w (Mav A β σ) β v y := by
  obtain ⟨-, e2, b, p, rfl, e3⟩ := cells_ok hs h ha
  obtain ⟨y, h2, h3⟩ := e3 0 (by simp)
  refine ⟨y, ?_, h3⟩
  simp only [Instr.loadAt, Instr.sureAddr, Sem.run_bind, Sem.run_pure, Result.andThen_ok, loadVar, run_isAgg h1, Bool.false_eq_true, if_false, run_load]
  simp only [Nat.add_zero] at h2
  rw [h2]

end
end Go.TL
