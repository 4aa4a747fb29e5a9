/-
  Tree land, part L: operations that make and write rows.
-/
import Derived.Test.YthhhejockehncaaGreatDoorTlK
import Derived.Laws.Tables
import Derived.Great.BuildSlice
import Derived.DataReads
set_option linter.all false
namespace Go.TL
open Go

section
variable {P : Program} {G : Globals}

/-- A type's zero value, if it is one that trees can tell. -/
def zeroV (P : Program) (t : TypeId) : Option V :=
  match (P.info? t).bind (·.zero) with
  | some z => if (constV z).stores then some (constV z) else none
  | none => none

theorem zeroV_spec {t : TypeId} {z : V} (h : zeroV P t = some z) : ∃ i y, P.info? t = some i ∧ i.zero = some y ∧ z.stores = true ∧ ∀ (w : World) (M : Nat → Prop) (β : Beta), Rel w M β z y := by
  unfold zeroV at h
  split at h <;> try (cases h; done)
  rename_i y hy
  split at h <;> try (cases h; done)
  rename_i hs
  injection h with h
  subst h
  cases hi : P.info? t with
  | none => rw [hi] at hy; cases hy
  | some i =>
    rw [hi] at hy
    exact ⟨i, y, rfl, hy, hs, fun _ _ _ => constV_rel _⟩

def placeOf (P : Program) (t : TypeId) (i : Nat) : Option (Nat × Nat) :=
  match P.underlying t with
  | some (.struct fs) => (fs[i]?).bind fun f => (sizeP P f.type).map fun n => (f.offset, n)
  | some (.array _ e) => (sizeP P e).map fun n => (i * n, n)
  | _ => none

def allPlaces (P : Program) (t : TypeId) : Bool :=
  match P.underlying t with
  | some (.struct fs) => (fs.toList.mapM fun f => (P.info? f.type).map fun i => (f.offset, i.size)).isSome
  | some (.array _ e) => (P.info? e).isSome
  | _ => false

theorem build_ok {t : TypeId} {zero : V} (hz : zeroV P t = some zero) (hall : allPlaces P t = true) {w : World} {M : Nat → Prop} {β : Beta} {ps : List (Nat × Nat × V)} {xs : Array (Nat × Value)} {cs : List V}
    (h : evFill zero.cells ps = some cs) (hl : xs.size = ps.length)
    (hp : ∀ (i : Nat) (p : Nat × Nat × V) (x : Nat × Value), ps[i]? = some p → xs[i]? = some x → placeOf P t x.1 = some (p.1, p.2.1) ∧ Rel w M β p.2.2 x.2) :
    ∃ y, (Instr.build t xs).run P w = .ok y w ∧ Rel w M β (.agg cs) y := by
  obtain ⟨it, z, hit, hiz, hst, hrel⟩ := zeroV_spec hz
  have hra := cells_rel hst (hrel w M β)
  unfold allPlaces at hall
  split at hall <;> try (cases hall; done)
  · rename_i fs hu
    cases hm : fs.toList.mapM (fun f => (P.info? f.type).map fun i => (f.offset, i.size)) with
    | none => rw [hm] at hall; cases hall
    | some places =>
      have hget : ∀ i, placeOf P t i = places.toArray[i]? := fun i => by
        simp only [placeOf, hu, sizeP, List.getElem?_toArray]
        by_cases hi : i < fs.size
        · have := mapM_some_get hm i fs[i] (by simp [hi])
          rw [← this]
          simp [hi]
          rfl
        · have hlen := mapM_some_length hm
          rw [Array.getElem?_eq_none (by omega), List.getElem?_eq_none (by simp at hlen; omega)]
          rfl
      obtain ⟨arr, h1, h2⟩ := fill_ok (place := (places.toArray[·]?)) ps xs.toList zero.cells cs z.cells h hra (by simpa using hl) (fun i p x e1 e2 => by
        have := hp i p x e1 (by simpa using e2)
        rw [hget] at this
        exact this)
      refine ⟨.agg arr, run_build w t xs arr ?_, .agg h2.1 h2.2.1 h2.2.2⟩
      simp only [Program.built, hit, hu, hiz, hm]
      exact h1
  · rename_i n e hu
    cases hie : P.info? e with
    | none => rw [hie] at hall; cases hall
    | some ie =>
      have hget : ∀ i, placeOf P t i = some (i * ie.size, ie.size) := fun i => by simp [placeOf, hu, sizeP, hie]
      obtain ⟨arr, h1, h2⟩ := fill_ok (place := fun i => some (i * ie.size, ie.size)) ps xs.toList zero.cells cs z.cells h hra (by simpa using hl) (fun i p x e1 e2 => by
        have := hp i p x e1 (by simpa using e2)
        rw [hget] at this
        exact this)
      refine ⟨.agg arr, run_build w t xs arr ?_, .agg h2.1 h2.2.1 h2.2.2⟩
      simp only [Program.built, hit, hu, hiz, hie]
      exact h1

/-- A new variable that holds v. -/
theorem box_ok {A : Nat → Prop} {w : World} {β : Beta} {σ : List Cell} (hs : SR G w A β σ) (t : TypeId) {v : V} (hst : v.stores = true) {a : Value} (ha : Rel w (Mav A β σ) β v a) :
    OkV P G A w β σ (Instr.box t a) (.ref σ.length 0 0) (σ ++ [.row v.cells.length [v]]) := by
  obtain ⟨r1, r2, r3⟩ := cells_rel hst ha
  have hf : Flat w (Mav A β σ) β v.cells.length [v] a.cells := by
    refine ⟨by simp [r1], fun i hi => ?_⟩
    have : i = 0 := by simpa using hi
    subst this
    refine ⟨hst, rfl, fun j hj => ?_⟩
    simp only [List.getElem_cons_zero] at hj ⊢
    refine ⟨a.cells.getD j default, ?_, r3 j hj⟩
    simp [Array.getD, r1, hj]
  obtain ⟨h1, h2⟩ := hs.newRow t hf
  refine ⟨.pointer (some ⟨w.heap.size, 0, none⟩), w.alloc (.cells a.cells t), _, ?_, ?_, h1, h2⟩
  · simp [Instr.box, newVar, Go.newRow]
  · have hβ : (β ++ [(w.heap.size, 0, v.cells.length)])[σ.length]? = some (w.heap.size, 0, v.cells.length) := by
      rw [← hs.len]; simp
    have := Rel.ref (w := w.alloc (.cells a.cells t)) (M := Mav A (β ++ [(w.heap.size, 0, v.cells.length)]) (σ ++ [.row v.cells.length [v]])) (i := 0) (o := 0) hβ
    simpa using this

theorem alloc_ok {A : Nat → Prop} {w : World} {β : Beta} {σ : List Cell} (hs : SR G w A β σ) {t : TypeId} {z : V} (hz : zeroV P t = some z) :
    OkV P G A w β σ (Instr.alloc t true (.tuple #[])) (.ref σ.length 0 0) (σ ++ [.row z.cells.length [z]]) := by
  obtain ⟨it, y, hit, hiz, hst, hrel⟩ := zeroV_spec hz
  obtain ⟨x, w', β', h1, h2⟩ := box_ok (P := P) hs t hst (hrel w _ _)
  refine ⟨x, w', β', ?_, h2⟩
  rw [← h1]
  simp only [Instr.alloc, Instr.box, Sem.run_bind, zeroValue, typeInfo, run_program, Result.andThen_ok, hit, Sem.run_pure, hiz]

/-- What a store leaves. -/
def evStore (σ : List Cell) (n : Nat) (x v : V) : Option (List Cell) :=
  match x with
  | .ref c i o => match σ[c]? with
    | some (.row s xs) => match xs[i]? with
      | some u => if v.cells.length = n ∧ o + n ≤ s ∧ v.stores = true then some (σ.set c (.row s (xs.set i (like u (splice u.cells o v.cells))))) else none
      | none => none
    | _ => none
  | _ => none

theorem store_ok {t : TypeId} {n : Nat} (hn : sizeP P t = some n) {A : Nat → Prop} {w : World} {β : Beta} {σ σ' : List Cell} (hs : SR G w A β σ) {x v : V} (h : evStore σ n x v = some σ') {a b : Value}
    (ha : Rel w (Mav A β σ) β x a) (hb : Rel w (Mav A β σ) β v b) :
    ∃ w', (Instr.storeAt t a b).run P w = .ok () w' ∧ SR G w' A β σ' ∧ Ext w β σ w' β σ' := by
  unfold evStore at h
  split at h <;> try (cases h; done)
  rename_i c i o
  split at h <;> try (cases h; done)
  rename_i s xs hc
  split at h <;> try (cases h; done)
  rename_i u hu
  split at h <;> try (cases h; done)
  rename_i hcond
  obtain ⟨c1, c2, c3⟩ := hcond
  injection h with h
  subst h
  cases ha
  rename_i bb p s' hβ
  have hi := get_lt hu
  rw [List.getElem?_eq_getElem hi] at hu
  injection hu with hu
  subst hu
  obtain ⟨r1, r2, r3⟩ := cells_rel c3 hb
  have hss : s' = s := (hs.ok c _ _ hc hβ).1
  subst hss
  obtain ⟨h1, h2, h3⟩ := hs.store (P := P) (i := i) (o := o) (ys := v.cells) (vs := b.cells.toList) hc hβ hi (by omega) r2 (by simpa using r1) (fun j hj => ⟨b.cells.getD j default, by simp [Array.getD, r1, hj], r3 j hj⟩)
  refine ⟨_, ?_, h2, h3⟩
  have hsz : b.cells.size = n := by omega
  simp only [Instr.storeAt, Instr.sureAddr, Sem.run_bind, Sem.run_pure, Result.andThen_ok, storeVar, run_sizeOf hn]
  simp only [hsz, ne_eq, not_true_eq_false, if_false]
  exact h1

/-! ### type assertions to types that are no interfaces -/

def evTA (t : TypeId) (z : V) (ok : Bool) (x : V) : Option V :=
  match x with
  | .nili => if ok then some (.tup [z, .bool false]) else none
  | .ifc u v => if u = t then some (if ok then .tup [v, .bool true] else v) else if ok then some (.tup [z, .bool false]) else none
  | _ => none

def prepTA (P : Program) (t : TypeId) : Option V :=
  match P.underlying t with
  | some (.interface _) => none
  | some _ => zeroV P t
  | none => none

theorem pair_rel {w : World} {M : Nat → Prop} {β : Beta} {v : V} {y : Value} (h : Rel w M β v y) (b : Bool) : Rel w M β (.tup [v, .bool b]) (.tuple #[y, .bool b]) :=
  .tup rfl fun j hj => by
    match j, hj with
    | 0, _ => exact h
    | 1, _ => exact .bool b

theorem ta_ok {t : TypeId} {z : V} (hp : prepTA P t = some z) {ok : Bool} {x v : V} (h : evTA t z ok x = some v) {w : World} {M : Nat → Prop} {β : Beta} {a : Value} (ha : Rel w M β x a) (xt : TypeId) :
    ∃ y, (Instr.typeAssert a xt t ok).run P w = .ok y w ∧ Rel w M β v y := by
  unfold prepTA at hp
  cases hu : P.underlying t with
  | none => rw [hu] at hp; cases hp
  | some d =>
    have hni : ∀ ms, d ≠ .interface ms := by
      rintro ms rfl
      rw [hu] at hp
      cases hp
    have hz : zeroV P t = some z := by
      rw [hu] at hp
      cases d <;> first | exact hp | exact absurd rfl (hni _)
    obtain ⟨it, y0, hit, hiz, hst, hrel⟩ := zeroV_spec hz
    have hzero : (zeroValue t).run P w = .ok y0 w := by
      simp only [zeroValue, typeInfo, Sem.run_bind, run_program, Result.andThen_ok, hit, Sem.run_pure, hiz]
    unfold evTA at h
    cases ha <;> first | (cases h; done) | skip
    · simp only at h
      split at h <;> try (cases h; done)
      rename_i hok
      injection h with h
      subst h
      subst hok
      refine ⟨.tuple #[y0, .bool false], ?_, pair_rel (hrel w M β) false⟩
      cases d <;> first | exact absurd rfl (hni _) | (simp only [Instr.typeAssert, Sem.run_bind, run_underlying hu, Result.andThen_ok, if_true, hzero, Sem.run_pure])
    · rename_i hs hr
      simp only at h
      split at h
      · rename_i ht
        subst ht
        injection h with h
        subst h
        cases ok with
        | true =>
          refine ⟨_, ?_, pair_rel hr true⟩
          cases d <;> first | exact absurd rfl (hni _) | (simp only [Instr.typeAssert, Sem.run_bind, run_underlying hu, Result.andThen_ok, if_true, Sem.run_pure])
        | false =>
          refine ⟨_, ?_, hr⟩
          cases d <;> first | exact absurd rfl (hni _) | (simp only [Instr.typeAssert, Sem.run_bind, run_underlying hu, Result.andThen_ok, if_true, Sem.run_pure, Bool.false_eq_true, if_false])
      · rename_i ht
        split at h <;> try (cases h; done)
        rename_i hok
        injection h with h
        subst h
        subst hok
        refine ⟨.tuple #[y0, .bool false], ?_, pair_rel (hrel w M β) false⟩
        cases d <;> first | exact absurd rfl (hni _) | (simp only [Instr.typeAssert, Sem.run_bind, run_underlying hu, Result.andThen_ok, if_neg ht, if_true, hzero, Sem.run_pure])

end
end Go.TL
