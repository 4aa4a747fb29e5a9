/-
  Tree land, part J: parts of structs and texts, slices, lengths, conversions, interfaces, function values.
-/
import Derived.Test.YthhhejockehncaaGreatDoorTlI
set_option linter.all false
namespace Go.TL
open Go

section
variable {P : Program} {G : Globals}

/-! ### parts -/

/-- The part of a struct's or an array's cells at off: some n: n cells as a struct; none: one cell. -/
def evPart (n : Option Nat) (off : Nat) (cs : List V) : Option V :=
  match n with
  | some n => if off + n ≤ cs.length then some (.agg ((cs.drop off).take n)) else none
  | none => cs[off]?

def prepPart (P : Program) (t : TypeId) : Option (Option Nat) :=
  match aggP P t with
  | some true => (sizeP P t).map some
  | some false => some none
  | none => none

theorem part_ok {t : TypeId} {n : Option Nat} (hp : prepPart P t = some n) {off : Nat} {cs : List V} {v : V} (h : evPart n off cs = some v) {w : World} {M : Nat → Prop} {β : Beta} {arr : Array Value}
    (h1 : arr.size = cs.length) (hl : ∀ v ∈ cs, v.leaf = true) (hr : ∀ j (h : j < cs.length), Rel w M β cs[j] (arr.getD j default)) :
    ∃ y, (part t arr off).run P w = .ok y w ∧ Rel w M β v y := by
  unfold prepPart at hp
  split at hp <;> try (cases hp; done)
  · rename_i hagg
    cases hz : sizeP P t with
    | none => rw [hz] at hp; cases hp
    | some k =>
      rw [hz] at hp
      injection hp with hp
      subst hp
      simp only [evPart] at h
      split at h <;> try (cases h; done)
      rename_i hle
      injection h with h
      subst h
      refine ⟨.agg (arr.extract off (off + k)), ?_, .agg (by simp; omega) (fun y hy => hl y (List.mem_of_mem_drop (List.mem_of_mem_take hy))) (fun j hj => ?_)⟩
      · simp only [part, Sem.run_bind, run_isAgg hagg, Result.andThen_ok, if_true, run_sizeOf hz, Sem.run_pure]
      · have hj' : j < k := by simp at hj; omega
        have := hr (off + j) (by omega)
        have e : (arr.extract off (off + k)).getD j default = arr.getD (off + j) default := by
          simp [Array.getD]
          split <;> rename_i h2 <;> split <;> rename_i h3 <;> first | rfl | omega
        rw [e]
        simpa using this
  · rename_i hagg
    injection hp with hp
    subst hp
    simp only [evPart] at h
    have hlt := get_lt h
    rw [List.getElem?_eq_getElem hlt] at h
    injection h with h
    subst h
    have e : arr[off]? = some (arr.getD off default) := by
      simp [Array.getD, h1, hlt]
    refine ⟨arr.getD off default, ?_, hr off hlt⟩
    simp only [part, Sem.run_bind, run_isAgg hagg, Result.andThen_ok, Bool.false_eq_true, if_false, e, Sem.run_pure]

def prepField (P : Program) (t : TypeId) (field : Nat) : Option (Option Nat × Nat) :=
  match P.underlying t with
  | some (.struct fields) => match fields[field]? with
    | some f => (prepPart P f.type).map fun n => (n, f.offset)
    | none => none
  | _ => none

def evField (n : Option Nat) (off : Nat) : V → Option V
  | .agg cs => evPart n off cs
  | _ => none

theorem field_ok {t : TypeId} {field off : Nat} {n : Option Nat} (hp : prepField P t field = some (n, off)) {x v : V} (h : evField n off x = some v) {w : World} {M : Nat → Prop} {β : Beta} {a : Value} (ha : Rel w M β x a) :
    ∃ y, (Instr.field t a field).run P w = .ok y w ∧ Rel w M β v y := by
  unfold prepField at hp
  split at hp <;> try (cases hp; done)
  rename_i fields hu
  split at hp <;> try (cases hp; done)
  rename_i f hf
  cases hq : prepPart P f.type with
  | none => rw [hq] at hp; cases hp
  | some m =>
    rw [hq] at hp
    injection hp with hp
    injection hp with hp1 hp2
    subst hp1; subst hp2
    unfold evField at h
    split at h <;> try (cases h; done)
    cases ha
    rename_i arr h1 hl hr
    obtain ⟨y, hy1, hy2⟩ := part_ok hq h h1 hl hr
    exact ⟨y, by simp only [Instr.field, Sem.run_bind, run_underlying hu, Result.andThen_ok, hf, asAgg, Sem.run_pure, hy1], hy2⟩

/-- An index into a text, or into an array by value: len, and an element's form and size. -/
def evIx (x ix : V) : Option V :=
  match x, ix with
  | .str s, .int _ i => if 0 ≤ i then (s[i.toNat]?).map fun b => .int .u8 b.toNat else none
  | _, _ => none
def evIxA (len : Nat) (n : Option Nat) (size : Nat) (x ix : V) : Option V :=
  match x, ix with
  | .agg cs, .int _ i => if 0 ≤ i ∧ i < (len : Int) then evPart n (i.toNat * size) cs else none
  | _, _ => none

theorem ix_ok {t : TypeId} (hu : P.underlying t = some .string) {x ix v : V} (h : evIx x ix = some v) {w : World} {M : Nat → Prop} {β : Beta} {a i : Value} (ha : Rel w M β x a) (hi : Rel w M β ix i) :
    ∃ y, (Instr.index t a i).run P w = .ok y w ∧ Rel w M β v y := by
  unfold evIx at h
  split at h <;> try (cases h; done)
  rename_i s k n
  split at h <;> try (cases h; done)
  rename_i h0
  cases hi; cases ha
  cases hb : s[n.toNat]? with
  | none => rw [hb] at h; cases h
  | some b =>
    rw [hb] at h
    injection h with h
    subst h
    have hlt := get_lt hb
    have e : (⟨s.toArray⟩ : ByteArray)[n.toNat]? = some b := by
      rw [List.getElem?_eq_getElem hlt] at hb
      injection hb with hb
      have : n.toNat < (⟨s.toArray⟩ : ByteArray).size := by simpa [ByteArray.size] using hlt
      rw [getElem?_pos (⟨s.toArray⟩ : ByteArray) n.toNat this]
      exact congrArg some hb
    refine ⟨.int .u8 b.toNat, ?_, .int _ _⟩
    simp only [Instr.index, asIntOf, Sem.run_bind, Sem.run_pure, Result.andThen_ok, run_underlying hu, if_pos h0, e]

theorem ixA_ok {t : TypeId} {len size : Nat} {e : TypeId} {n : Option Nat} (hu : P.underlying t = some (.array len e)) (hz : sizeP P e = some size) (hq : prepPart P e = some n) {x ix v : V} (h : evIxA len n size x ix = some v)
    {w : World} {M : Nat → Prop} {β : Beta} {a i : Value} (ha : Rel w M β x a) (hi : Rel w M β ix i) :
    ∃ y, (Instr.index t a i).run P w = .ok y w ∧ Rel w M β v y := by
  unfold evIxA at h
  split at h <;> try (cases h; done)
  rename_i cs k m
  split at h <;> try (cases h; done)
  rename_i hb
  cases hi; cases ha
  rename_i arr h1 hl hr
  obtain ⟨y, hy1, hy2⟩ := part_ok hq h h1 hl hr
  exact ⟨y, by simp only [Instr.index, asIntOf, Sem.run_bind, Sem.run_pure, Result.andThen_ok, run_underlying hu, if_pos hb, run_sizeOf hz, hy1], hy2⟩

/-! ### lengths -/

inductive LK where
  | str | slice | arr (n : Nat) | map
  deriving DecidableEq, Inhabited

def prepLen (P : Program) (t : TypeId) : Option LK :=
  match P.underlying t with
  | some .string => some .str
  | some (.slice _) => some .slice
  | some (.array n _) => some (.arr n)
  | _ => none

def evLen (k : LK) (x : V) : Option V :=
  match k, x with
  | .str, .str s => some (.int .i64 s.length)
  | .slice, .nils | .slice, .cap0 => some (.int .i64 0)
  | .slice, .sl xs => some (.int .i64 xs.length)
  | .slice, .osl _ _ n => some (.int .i64 n)
  | .arr n, _ => some (.int .i64 n)
  | _, _ => none

theorem len_ok {t : TypeId} {k : LK} (hp : prepLen P t = some k) {x v : V} (h : evLen k x = some v) {w : World} {M : Nat → Prop} {β : Beta} {a : Value} (ha : Rel w M β x a) (ty : TypeId) :
    ∃ y, (Builtin.len_ #[t] ty #[a]).run P w = .ok y w ∧ Rel w M β v y := by
  unfold prepLen at hp
  split at hp <;> try (cases hp; done)
  all_goals
    rename_i hu
    injection hp with hp
    subst hp
    unfold evLen at h
    split at h <;> try (cases h; done)
  all_goals first | contradiction | skip
  · rename_i s _
    injection h with h
    subst h
    cases ha
    refine ⟨goInt s.length, ?_, .int _ _⟩
    have e2 : (⟨s.toArray⟩ : ByteArray).size = s.length := by simp [ByteArray.size]
    simp [Builtin.len_, run_underlying hu, e2]
  · injection h with h
    subst h
    cases ha
    exact ⟨goInt 0, by simp [Builtin.len_, run_underlying hu], .int _ _⟩
  · injection h with h
    subst h
    cases ha
    exact ⟨goInt 0, by simp [Builtin.len_, run_underlying hu], .int _ _⟩
  · injection h with h
    subst h
    cases ha
    · exact ⟨goInt _, by simp [Builtin.len_, run_underlying hu], .int _ _⟩
    · exact ⟨goInt _, by simp [Builtin.len_, run_underlying hu], .int _ _⟩
  · injection h with h
    subst h
    cases ha
    · exact ⟨goInt _, by simp [Builtin.len_, run_underlying hu], .int _ _⟩
    · exact ⟨goInt _, by simp [Builtin.len_, run_underlying hu], .int _ _⟩
  · rename_i he
    injection he with he
    subst he
    injection h with h
    subst h
    exact ⟨goInt _, by simp [Builtin.len_, run_underlying hu], .int _ _⟩
  · exact (‹∀ n, LK.arr _ = LK.arr n → False› _ rfl).elim

/-! ### slices of slices and texts -/

/-- A bound of a slice expression: absent, or a whole number. -/
def evBound (x : Option V) (dflt : Nat) : Option Int :=
  match x with
  | none => some dflt
  | some (.int _ i) => some i
  | _ => none

def evSlice (x : V) (lo hi : Option V) : Option V :=
  match x with
  | .str s => match evBound lo 0, evBound hi s.length with
    | some l, some h => if 0 ≤ h ∧ h ≤ (s.length : Int) ∧ 0 ≤ l ∧ l ≤ h then some (.str ((s.drop l.toNat).take (h.toNat - l.toNat))) else none
    | _, _ => none
  | .sl xs => match evBound lo 0, evBound hi xs.length with
    | some l, some h => if 0 ≤ h ∧ h ≤ (xs.length : Int) ∧ 0 ≤ l ∧ l ≤ h then some (.sl ((xs.drop l.toNat).take (h.toNat - l.toNat))) else none
    | _, _ => none
  | .osl c o n => match evBound lo 0, evBound hi n with
    | some l, some h => if 0 ≤ h ∧ h ≤ (n : Int) ∧ 0 ≤ l ∧ l ≤ h then some (.osl c (o + l.toNat) (h.toNat - l.toNat)) else none
    | _, _ => none
  | .nils => match evBound lo 0, evBound hi 0 with
    | some l, some h => if h = 0 ∧ l = 0 then some .nils else none
    | _, _ => none
  | _ => none

inductive SK where
  | str | slice (size : Nat)
  deriving DecidableEq, Inhabited
def prepSlice (P : Program) (t : TypeId) : Option SK :=
  match P.underlying t with
  | some .string => some .str
  | some (.slice e) => (sizeP P e).map .slice
  | _ => none

/-- The bounds as the model takes them. -/
def RelB (w : World) (M : Nat → Prop) (β : Beta) : Option V → Option Value → Prop
  | none, none => True
  | some v, some x => Rel w M β v x
  | _, _ => False

theorem bound_run {w : World} {x : Option V} {i : Int} {dflt : Nat} (he : evBound x dflt = some i) {M : Nat → Prop} {β : Beta} {a : Option Value} (hr : RelB w M β x a) :
    (x = none ∧ a = none ∧ i = dflt) ∨ ∃ k, a = some (.int k i) := by
  cases x with
  | none =>
    cases a with
    | none => simp only [evBound, Option.some.injEq] at he; exact .inl ⟨rfl, rfl, he.symm⟩
    | some a => exact hr.elim
  | some v =>
    cases a with
    | none => exact hr.elim
    | some a =>
      cases hr <;> simp only [evBound, Option.some.injEq, reduceCtorEq] at he
      subst he
      exact .inr ⟨_, rfl⟩

theorem sliceBound_ok {k : IntKind} {i : Int} {y : Nat} {code : BoundsCode} {w : World} (h0 : 0 ≤ i) (h1 : i ≤ (y : Int)) : (Instr.sliceBound (.int k i) y code).run P w = .ok i.toNat w := by
  simp only [Instr.sliceBound, asIntOf, Sem.run_bind, Sem.run_pure, Result.andThen_ok, if_pos (And.intro h0 h1)]

theorem sliceBounds_ok {isSlice : Bool} {len cap : Nat} (hlc : len ≤ cap) {lo hi : Option V} {l h : Int} (hl : evBound lo 0 = some l) (hh : evBound hi len = some h) (h1 : 0 ≤ h) (h2 : h ≤ (len : Int)) (h3 : 0 ≤ l) (h4 : l ≤ h)
    {w : World} {M : Nat → Prop} {β : Beta} {a b : Option Value} (ra : RelB w M β lo a) (rb : RelB w M β hi b) :
    (Instr.sliceBounds isSlice len cap a b none).run P w = .ok (l.toNat, h.toNat, cap) w := by
  have hle : l ≤ ((h.toNat : Nat) : Int) := by omega
  have hhc : h ≤ (cap : Int) := by omega
  rcases bound_run hl ra with ⟨-, rfl, rfl⟩ | ⟨k, rfl⟩ <;> rcases bound_run hh rb with ⟨-, rfl, rfl⟩ | ⟨k', rfl⟩
  · simp [Instr.sliceBounds]
  · simp only [Instr.sliceBounds, Sem.run_bind, Sem.run_pure, Result.andThen_ok, sliceBound_ok h1 hhc]
    simp
  · simp only [Instr.sliceBounds, Sem.run_bind, Sem.run_pure, Result.andThen_ok]
    have : (Instr.sliceBound (.int k l) len .sliceB).run P w = .ok l.toNat w := sliceBound_ok h3 (by omega)
    simp [this]
  · simp only [Instr.sliceBounds, Sem.run_bind, Sem.run_pure, Result.andThen_ok, sliceBound_ok h1 hhc, sliceBound_ok h3 hle]

theorem slice_str_ok {t : TypeId} (hu : P.underlying t = some .string) {s : List UInt8} {lo hi : Option V} {v : V} (h : evSlice (.str s) lo hi = some v) {w : World} {M : Nat → Prop} {β : Beta} {a : Value} {b c : Option Value}
    (ha : Rel w M β (.str s) a) (rb : RelB w M β lo b) (rc : RelB w M β hi c) : ∃ y, (Instr.sliceAt t a b c none).run P w = .ok y w ∧ Rel w M β v y := by
  simp only [evSlice] at h
  split at h <;> try (cases h; done)
  rename_i l h' hl hh
  split at h <;> try (cases h; done)
  rename_i hb
  obtain ⟨b1, b2, b3, b4⟩ := hb
  injection h with h
  subst h
  cases ha
  have e2 : (⟨s.toArray⟩ : ByteArray).size = s.length := by simp [ByteArray.size]
  refine ⟨.string ((⟨s.toArray⟩ : ByteArray).extract l.toNat h'.toNat), ?_, ?_⟩
  · have hsb := sliceBounds_ok (P := P) (isSlice := false) (Nat.le_refl s.length) hl hh b1 b2 b3 b4 rb rc
    simp only [Instr.sliceAt, Sem.run_bind, run_underlying hu, Result.andThen_ok, Instr.slice, e2, hsb, Sem.run_pure, Option.isSome_none, Bool.false_eq_true, if_false]
  · have : (⟨s.toArray⟩ : ByteArray).extract l.toNat h'.toNat = ⟨((s.drop l.toNat).take (h'.toNat - l.toNat)).toArray⟩ := by
      apply ByteArray.ext
      simp [List.extract_eq_take_drop]
    rw [this]
    exact .str _

theorem slice_nils_ok {t e : TypeId} {sz : Nat} (hu : P.underlying t = some (.slice e)) (hz : sizeP P e = some sz) {lo hi : Option V} {v : V} (h : evSlice .nils lo hi = some v) {w : World} {M : Nat → Prop} {β : Beta} {a : Value} {b c : Option Value}
    (ha : Rel w M β .nils a) (rb : RelB w M β lo b) (rc : RelB w M β hi c) : ∃ y, (Instr.sliceAt t a b c none).run P w = .ok y w ∧ Rel w M β v y := by
  simp only [evSlice] at h
  split at h <;> try (cases h; done)
  rename_i l h' hl hh
  split at h <;> try (cases h; done)
  rename_i hb
  obtain ⟨rfl, rfl⟩ := hb
  injection h with h
  subst h
  cases ha
  have hsb := sliceBounds_ok (P := P) (isSlice := true) (Nat.le_refl 0) hl hh (by omega) (by omega) (by omega) (by omega) rb rc
  refine ⟨.slice none 0 0, ?_, .nils⟩
  simp only [Instr.sliceAt, Sem.run_bind, run_underlying hu, Result.andThen_ok, Instr.slice, hsb, Sem.run_pure, run_sizeOf hz]
  simp

theorem slice_sl_ok {t e : TypeId} {sz : Nat} (hu : P.underlying t = some (.slice e)) (hz : sizeP P e = some sz) {xs : List V} (hsz : ∀ y ∈ xs, y.cells.length = sz) {lo hi : Option V} {v : V} (h : evSlice (.sl xs) lo hi = some v)
    {w : World} {M : Nat → Prop} {β : Beta} {a : Value} {b c : Option Value} (ha : Rel w M β (.sl xs) a) (rb : RelB w M β lo b) (rc : RelB w M β hi c) :
    ∃ y, (Instr.sliceAt t a b c none).run P w = .ok y w ∧ Rel w M β v y := by
  simp only [evSlice] at h
  split at h <;> try (cases h; done)
  rename_i l h' hl hh
  split at h <;> try (cases h; done)
  rename_i hb
  obtain ⟨b1, b2, b3, b4⟩ := hb
  injection h with h
  subst h
  cases ha
  rotate_left
  · rename_i a0 cap h0
    have hsb := sliceBounds_ok (P := P) (isSlice := true) (Nat.zero_le cap) hl hh b1 b2 b3 b4 rb rc
    have e1 : l.toNat = 0 := by simp at b2; omega
    have e2 : h'.toNat = 0 := by simp at b2; omega
    rw [e1, e2] at hsb ⊢
    refine ⟨.slice a0 0 cap, ?_, .sl0 a0 cap h0⟩
    simp only [Instr.sliceAt, Sem.run_bind, run_underlying hu, Result.andThen_ok, Instr.slice, hsb, Sem.run_pure, run_sizeOf hz]
    cases a0 with
    | none => simp
    | some ad => simp; intro _; cases ad; simp [Addr.add]
  rename_i bb p s0 cap x hcap hl' hc hr
  have hsb := sliceBounds_ok (P := P) (isSlice := true) hcap hl hh b1 b2 b3 b4 rb rc
  refine ⟨.slice (if cap = l.toNat then some ⟨bb, p, none⟩ else some ⟨bb, p + l.toNat * sz, none⟩) (h'.toNat - l.toNat) (cap - l.toNat), ?_, ?_⟩
  · simp only [Instr.sliceAt, Sem.run_bind, run_underlying hu, Result.andThen_ok, Instr.slice, hsb, Sem.run_pure, run_sizeOf hz, Option.map_some, addr_add]
  · have hlen : ((xs.drop l.toNat).take (h'.toNat - l.toNat)).length = h'.toNat - l.toNat := by simp; omega
    by_cases hcl : cap = l.toNat
    · rw [if_pos hcl]
      have hz0 : (xs.drop l.toNat).take (h'.toNat - l.toNat) = [] := by
        apply List.eq_nil_of_length_eq_zero
        omega
      have e0 : h'.toNat - l.toNat = ([] : List V).length := by rw [← hlen, hz0]
      rw [hz0, e0]
      exact .sl (s := 0) (fun _ _ => default) (by simp) (fun v hv => by simp at hv) (fun i j hi => by simp at hi) (fun i j hi => by simp at hi)
    · rw [if_neg hcl]
      conv => rhs; rw [← hlen]
      refine .sl (s := sz) (fun i j => x (l.toNat + i) j) (by rw [hlen]; omega) (fun v hv => ?_) (fun i j hi hj => ?_) (fun i j hi hj => ?_)
      · have hv' := List.mem_of_mem_drop (List.mem_of_mem_take hv)
        exact ⟨(hl' v hv').1, hsz v hv'⟩
      · rw [hlen] at hi
        have hlt : l.toNat + i < xs.length := by omega
        have hs0 : s0 = sz := by rw [← (hl' _ (List.getElem_mem hlt)).2]; exact hsz _ (List.getElem_mem hlt)
        subst hs0
        have := hc (l.toNat + i) j hlt hj
        rw [show p + l.toNat * s0 + i * s0 + j = p + (l.toNat + i) * s0 + j by rw [Nat.add_mul]; omega]
        exact this
      · have hi' := hi
        rw [hlen] at hi'
        have hlt : l.toNat + i < xs.length := by omega
        have hget : ((xs.drop l.toNat).take (h'.toNat - l.toNat))[i]'hi = xs[l.toNat + i] := by simp
        have hj' : j < xs[l.toNat + i].cells.length := by
          have := hj
          simp only [hget] at this
          exact this
        have := hr (l.toNat + i) j hlt hj'
        simp only [hget]
        exact this

theorem slice_osl_ok {t e : TypeId} {sz : Nat} (hu : P.underlying t = some (.slice e)) (hz : sizeP P e = some sz) {c0 o n : Nat} {ys : List V} {σ : List Cell} (hrow : rowOf σ c0 = some (sz, ys)) {lo hi : Option V} {v : V}
    (h : evSlice (.osl c0 o n) lo hi = some v) {A : Nat → Prop} {w : World} {β : Beta} (hs : SR G w A β σ) {a : Value} {b c : Option Value}
    (ha : Rel w (Mav A β σ) β (.osl c0 o n) a) (rb : RelB w (Mav A β σ) β lo b) (rc : RelB w (Mav A β σ) β hi c) :
    ∃ y, (Instr.sliceAt t a b c none).run P w = .ok y w ∧ Rel w (Mav A β σ) β v y := by
  simp only [evSlice] at h
  split at h <;> try (cases h; done)
  rename_i l h' hl hh
  split at h <;> try (cases h; done)
  rename_i hb
  obtain ⟨b1, b2, b3, b4⟩ := hb
  injection h with h
  subst h
  cases ha with
  | osl hβ hcap hblk hz0 =>
    rename_i bb p s0 cap arr t0 fr
    obtain ⟨e1, -⟩ := hs.elems hrow hβ
    subst e1
    have hsb := sliceBounds_ok (P := P) (isSlice := true) hcap hl hh b1 b2 b3 b4 rb rc
    refine ⟨.slice (if cap = l.toNat then some ⟨bb, p + o * s0, none⟩ else some ⟨bb, p + o * s0 + l.toNat * s0, none⟩) (h'.toNat - l.toNat) (cap - l.toNat), ?_, ?_⟩
    · simp only [Instr.sliceAt, Sem.run_bind, run_underlying hu, Result.andThen_ok, Instr.slice, hsb, Sem.run_pure, run_sizeOf hz, Option.map_some, addr_add]
    · by_cases hcl : cap = l.toNat
      · rw [if_pos hcl]
        have e1 : h'.toNat - l.toNat = 0 := by omega
        have e2 : cap - l.toNat = 0 := by omega
        rw [e1, e2]
        exact .osl0 _ _ hβ
      · rw [if_neg hcl, show p + o * s0 + l.toNat * s0 = p + (o + l.toNat) * s0 by rw [Nat.add_mul]; omega]
        refine .osl hβ (by omega) hblk ?_
        rw [show o + l.toNat + (cap - l.toNat) = o + cap by omega]
        exact hz0
  | osl0 b0 p0 hβ =>
    have hsb := sliceBounds_ok (P := P) (isSlice := true) (Nat.le_refl 0) hl hh b1 b2 b3 b4 rb rc
    have hl0 : l.toNat = 0 := by omega
    have hh0 : h'.toNat = 0 := by omega
    refine ⟨.slice (some ⟨b0, p0, none⟩) 0 0, ?_, ?_⟩
    · simp only [Instr.sliceAt, Sem.run_bind, run_underlying hu, Result.andThen_ok, Instr.slice, hsb, Sem.run_pure, run_sizeOf hz, Option.map_some, hl0, hh0]
      simp
    · rw [hl0, hh0]
      exact .osl0 b0 p0 hβ

end
end Go.TL
