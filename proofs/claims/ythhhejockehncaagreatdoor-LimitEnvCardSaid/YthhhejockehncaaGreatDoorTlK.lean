/-
  Tree land, part K: one-operand operators, conversions, interfaces, function values, tuples, structs built, least and greatest.
-/
import Derived.Test.YthhhejockehncaaGreatDoorTlJ
set_option linter.all false
namespace Go.TL
open Go

section
variable {P : Program} {G : Globals}

def evUn (op : UnOp) (x : V) : Option V :=
  match op, x with
  | .neg, .int k n => some (.int k (k.wrap (0 - n)))
  | .xor, .int k n => some (.int k (k.wrap (BitVec.ofInt k.bits (if k.signed then -1 else k.max) ^^^ BitVec.ofInt k.bits n).toNat))
  | .not, .bool b => some (.bool !b)
  | _, _ => none

theorem un_ok {op : UnOp} {x v : V} (h : evUn op x = some v) {w : World} {M : Nat → Prop} {β : Beta} {a : Value} (ha : Rel w M β x a) :
    ∃ y, (Op.unary op a).run P w = .ok y w ∧ Rel w M β v y := by
  unfold evUn at h
  split at h <;> try (cases h; done)
  all_goals
    injection h with h
    subst h
    cases ha
  · exact ⟨_, rfl, .int _ _⟩
  · exact ⟨_, rfl, .int _ _⟩
  · exact ⟨_, rfl, .bool _⟩

/-- To a whole number of the kind k; from a text to a text. -/
inductive CK where
  | int (k : IntKind) | str | bytes (cells : TypeId) | text | same
  deriving DecidableEq, Inhabited

def prepConv (P : Program) (src dst : TypeId) : Option CK :=
  match P.underlying src, P.underlying dst with
  | some (.int _), some (.int k) => some (.int k)
  | some .string, some .string => some .str
  | some .string, some (.slice e) => match P.underlying e with
    | some (.int .u8) => some (.bytes e)
    | _ => none
  | some (.slice e), some .string => match P.underlying e with
    | some (.int .u8) => some .text
    | _ => none
  | _, _ => none

def evConvI (k : IntKind) : V → Option V
  | .int _ n => some (.int k (k.wrap n))
  | _ => none
def evConvS : V → Option V
  | .str s => some (.str s)
  | _ => none

theorem convI_ok {src dst : TypeId} {k : IntKind} (hp : prepConv P src dst = some (.int k)) {x v : V} (h : evConvI k x = some v) {w : World} {M : Nat → Prop} {β : Beta} {a : Value} (ha : Rel w M β x a) :
    ∃ y, (convert src dst a).run P w = .ok y w ∧ Rel w M β v y := by
  unfold prepConv at hp
  split at hp
  · rename_i k0 k' h1 h2
    injection hp with hp; injection hp with hp; subst hp
    cases x <;> simp only [evConvI, Option.some.injEq, reduceCtorEq] at h
    subst h
    cases ha
    exact ⟨_, by simp only [convert, Sem.run_bind, run_underlying h1, run_underlying h2, Result.andThen_ok]; rfl, .int _ _⟩
  · cases hp
  · split at hp <;> cases hp
  · split at hp <;> cases hp
  · cases hp

theorem convS_ok {src dst : TypeId} (hp : prepConv P src dst = some .str) {x v : V} (h : evConvS x = some v) {w : World} {M : Nat → Prop} {β : Beta} {a : Value} (ha : Rel w M β x a) :
    ∃ y, (convert src dst a).run P w = .ok y w ∧ Rel w M β v y := by
  unfold prepConv at hp
  split at hp
  · cases hp
  · rename_i h1 h2
    cases x <;> simp only [evConvS, Option.some.injEq, reduceCtorEq] at h
    subst h
    cases ha
    exact ⟨_, by simp only [convert, Sem.run_bind, run_underlying h1, run_underlying h2, Result.andThen_ok]; rfl, .str _⟩
  · split at hp <;> cases hp
  · split at hp <;> cases hp
  · cases hp

def prepIfc (P : Program) (t : TypeId) : Bool :=
  match P.underlying t with
  | some (.interface _) => false
  | some _ => true
  | none => false

theorem ifc_ok {t : TypeId} (hp : prepIfc P t = true) {x : V} (hs : x.stores = true) {w : World} {M : Nat → Prop} {β : Beta} {a : Value} (ha : Rel w M β x a) :
    ∃ y, (Instr.makeInterface t a).run P w = .ok y w ∧ Rel w M β (.ifc t x) y := by
  unfold prepIfc at hp
  split at hp <;> try (cases hp; done)
  rename_i d hd hu
  refine ⟨.iface t a, ?_, .ifc ha hs⟩
  simp only [Instr.makeInterface, Sem.run_bind, run_underlying hu, Result.andThen_ok]
  rfl

theorem fn_ok {f : Fn} {xs ys : List V} {as bs : Array Value} {w : World} {M : Nat → Prop} {β : Beta} (h1 : RelL w M β xs as.toList) (h2 : RelL w M β ys bs.toList) :
    ∃ y, (Instr.makeFunc f as bs).run P w = .ok y w ∧ Rel w M β (.fn f xs ys) y := by
  have key : ∀ (zs : List V) (cs : Array Value), RelL w M β zs cs.toList → cs.size = zs.length ∧ ∀ j (h : j < zs.length), Rel w M β zs[j] (cs.getD j default) := by
    intro zs cs h
    have hl : cs.size = zs.length := by simpa using h.1
    refine ⟨hl, fun j hj => ?_⟩
    have := h.2 j hj (cs.getD j default) (by simp [Array.getD, hl, hj])
    exact this
  obtain ⟨a1, a2⟩ := key _ _ h1
  obtain ⟨b1, b2⟩ := key _ _ h2
  exact ⟨.func f as bs, rfl, .fn a1 b1 a2 b2⟩

def evExt (i : Nat) : V → Option V
  | .tup vs => vs[i]?
  | _ => none

theorem ext_ok {i : Nat} {x v : V} (h : evExt i x = some v) {w : World} {M : Nat → Prop} {β : Beta} {a : Value} (ha : Rel w M β x a) :
    ∃ y, (Instr.extract a i).run P w = .ok y w ∧ Rel w M β v y := by
  unfold evExt at h
  split at h <;> try (cases h; done)
  cases ha
  rename_i arr h1 hr
  have hlt := get_lt h
  rw [List.getElem?_eq_getElem hlt] at h
  injection h with h
  subst h
  have e : arr[i]? = some (arr.getD i default) := by simp [Array.getD, h1, hlt]
  exact ⟨arr.getD i default, by simp only [Instr.extract, e, Sem.run_pure], hr i hlt⟩

/-- Least and greatest of whole numbers and texts. -/
def evMax2 : V → V → Option V
  | .int k a, .int k' b => if k = k' then some (.int k (if a < b then b else a)) else none
  | _, _ => none
def evMin2 : V → V → Option V
  | .int k a, .int k' b => if k = k' then some (.int k (if b < a then b else a)) else none
  | _, _ => none
def evFold (f : V → V → Option V) : List V → Option V
  | [] => none
  | x :: r => r.foldlM f x

theorem fold_ok {f : V → V → Option V} {g : Value → Value → Sem Value} {w : World} {M : Nat → Prop} {β : Beta}
    (hfg : ∀ x y v a b, f x y = some v → Rel w M β x a → Rel w M β y b → ∃ z, (g a b).run P w = .ok z w ∧ Rel w M β v z) :
    ∀ (r : List V) (x v : V) (as : List Value) (a : Value), r.foldlM f x = some v → Rel w M β x a → RelL w M β r as → ∃ z, (as.foldlM g a).run P w = .ok z w ∧ Rel w M β v z
  | [], x, v, as, a, h, ha, hr => by
    have : as = [] := List.eq_nil_of_length_eq_zero (by simpa using hr.1)
    subst this
    simp at h
    subst h
    exact ⟨a, rfl, ha⟩
  | y :: r, x, v, as, a, h, ha, hr => by
    match as, hr with
    | b :: as, hr =>
      simp only [List.foldlM_cons, Option.bind_eq_bind, Option.bind_eq_some_iff] at h
      obtain ⟨u, hu, h⟩ := h
      obtain ⟨z, hz1, hz2⟩ := hfg x y u a b hu ha (hr.2 0 (by simp) b rfl)
      have hr' : RelL w M β r as := ⟨by simpa using hr.1, fun j hj c hc => hr.2 (j + 1) (by simpa using hj) c (by simpa using hc)⟩
      obtain ⟨z', h1, h2⟩ := fold_ok hfg r u v as z h hz2 hr'
      exact ⟨z', by simp only [List.foldlM_cons, Sem.run_bind, hz1, Result.andThen_ok, h1], h2⟩

theorem max2_ok {w : World} {M : Nat → Prop} {β : Beta} (x y v : V) (a b : Value) (h : evMax2 x y = some v) (ha : Rel w M β x a) (hb : Rel w M β y b) : ∃ z, (Builtin.max2 a b).run P w = .ok z w ∧ Rel w M β v z := by
  unfold evMax2 at h
  split at h <;> try (cases h; done)
  split at h <;> try (cases h; done)
  rename_i hk
  subst hk
  injection h with h
  subst h
  cases ha; cases hb
  exact ⟨_, rfl, .int _ _⟩

theorem min2_ok {w : World} {M : Nat → Prop} {β : Beta} (x y v : V) (a b : Value) (h : evMin2 x y = some v) (ha : Rel w M β x a) (hb : Rel w M β y b) : ∃ z, (Builtin.min2 a b).run P w = .ok z w ∧ Rel w M β v z := by
  unfold evMin2 at h
  split at h <;> try (cases h; done)
  split at h <;> try (cases h; done)
  rename_i hk
  subst hk
  injection h with h
  subst h
  cases ha; cases hb
  exact ⟨_, rfl, .int _ _⟩

theorem max_ok {xs : List V} {v : V} (h : evFold evMax2 xs = some v) {w : World} {M : Nat → Prop} {β : Beta} {as : Array Value} (hr : RelL w M β xs as.toList) (ts : Array TypeId) (ty : TypeId) :
    ∃ z, (Builtin.max_ ts ty as).run P w = .ok z w ∧ Rel w M β v z := by
  unfold Builtin.max_
  generalize as.toList = l at hr
  match xs, l, hr, h with
  | x :: r, [], hr, h => exact absurd hr.1 (by simp)
  | x :: r, a :: l, hr, h =>
    exact fold_ok max2_ok r x v l a h (hr.2 0 (by simp) a rfl) ⟨by simpa using hr.1, fun j hj c hc => hr.2 (j + 1) (by simpa using hj) c (by simpa using hc)⟩

theorem min_ok {xs : List V} {v : V} (h : evFold evMin2 xs = some v) {w : World} {M : Nat → Prop} {β : Beta} {as : Array Value} (hr : RelL w M β xs as.toList) (ts : Array TypeId) (ty : TypeId) :
    ∃ z, (Builtin.min_ ts ty as).run P w = .ok z w ∧ Rel w M β v z := by
  unfold Builtin.min_
  generalize as.toList = l at hr
  match xs, l, hr, h with
  | x :: r, [], hr, h => exact absurd hr.1 (by simp)
  | x :: r, a :: l, hr, h =>
    exact fold_ok min2_ok r x v l a h (hr.2 0 (by simp) a rfl) ⟨by simpa using hr.1, fun j hj c hc => hr.2 (j + 1) (by simpa using hj) c (by simpa using hc)⟩

/-! ### structs and arrays that are built -/

/-- The cells cs with the values of the parts laid over them: each at its place, of its size. -/
def evFill : List V → List (Nat × Nat × V) → Option (List V)
  | cs, [] => some cs
  | cs, (off, size, v) :: rest => if v.cells.length = size ∧ off + size ≤ cs.length ∧ v.stores = true then evFill (splice cs off v.cells) rest else none

/-- Cells of an array, as trees. -/
def RelA (w : World) (M : Nat → Prop) (β : Beta) (cs : List V) (arr : Array Value) : Prop :=
  arr.size = cs.length ∧ (∀ v ∈ cs, v.leaf = true) ∧ ∀ j (h : j < cs.length), Rel w M β cs[j] (arr.getD j default)

theorem cells_rel {w : World} {M : Nat → Prop} {β : Beta} {v : V} {x : Value} (hs : v.stores = true) (h : Rel w M β v x) : RelA w M β v.cells x.cells := by
  by_cases hv : ∃ l, v = .agg l
  · obtain ⟨l, rfl⟩ := hv
    cases h
    rename_i arr h1 hl hr
    exact ⟨h1, hl, hr⟩
  · have e1 : v.cells = [v] := by cases v <;> first | rfl | exact absurd ⟨_, rfl⟩ hv
    have e2 : x.cells = #[x] := by cases h <;> first | rfl | exact absurd ⟨_, rfl⟩ hv | (simp [V.stores, V.leaf] at hs)
    rw [e1, e2]
    refine ⟨rfl, fun y hy => ?_, fun j hj => ?_⟩
    · simp at hy
      subst hy
      cases y <;> simp_all [V.stores]
    · have : j = 0 := by simp at hj; exact hj
      subst this
      exact h

theorem foldl_set : ∀ (l : List (Value × Nat)) (off : Nat) (acc : Array Value), (l.foldl (fun cs (c, j) => cs.setIfInBounds (off + j) c) acc).size = acc.size
  | [], _, _ => rfl
  | (c, j) :: r, off, acc => by
    simp only [List.foldl_cons]
    rw [foldl_set r off]
    simp

theorem fold_zip (cs : List Value) : ∀ (k : Nat) (off : Nat) (acc : Array Value) (j : Nat), off + k + cs.length ≤ acc.size → j < acc.size →
    ((cs.zipIdx k).foldl (fun cs (c, j) => cs.setIfInBounds (off + j) c) acc)[j]? = if off + k ≤ j ∧ j < off + k + cs.length then cs[j - (off + k)]? else acc[j]? := by
  induction cs with
  | nil =>
    intro k off acc j h1 h2
    simp
    intro h3 h4
    omega
  | cons c r ih =>
    intro k off acc j h1 h2
    simp only [List.length_cons] at h1
    simp only [List.zipIdx_cons, List.foldl_cons]
    rw [ih (k + 1) off (acc.setIfInBounds (off + k) c) j (by simp; omega) (by simpa using h2)]
    by_cases hj : off + (k + 1) ≤ j ∧ j < off + (k + 1) + r.length
    · rw [if_pos hj, if_pos (by simp; omega)]
      rw [show j - (off + k) = (j - (off + (k + 1))) + 1 by omega]
      simp
    · rw [if_neg hj]
      by_cases he : j = off + k
      · subst he
        rw [if_pos (by simp), Array.getElem?_setIfInBounds_self_of_lt (by omega)]
        simp
      · rw [if_neg (by simp; omega)]
        rw [Array.getElem?_setIfInBounds_ne (by omega)]

theorem fill_ok {w : World} {M : Nat → Prop} {β : Beta} {place : Nat → Option (Nat × Nat)} : ∀ (ps : List (Nat × Nat × V)) (xs : List (Nat × Value)) (cs cs' : List V) (arr : Array Value),
    evFill cs ps = some cs' → RelA w M β cs arr → xs.length = ps.length →
    (∀ (i : Nat) (p : Nat × Nat × V) (x : Nat × Value), ps[i]? = some p → xs[i]? = some x → place x.1 = some (p.1, p.2.1) ∧ Rel w M β p.2.2 x.2) →
    ∃ arr', Instr.fill place arr xs = some arr' ∧ RelA w M β cs' arr'
  | [], xs, cs, cs', arr, h, ha, hl, _ => by
    have : xs = [] := List.eq_nil_of_length_eq_zero (by simpa using hl)
    subst this
    simp only [evFill, Option.some.injEq] at h
    subst h
    exact ⟨arr, rfl, ha⟩
  | (off, size, v) :: ps, x :: xs, cs, cs', arr, h, ha, hl, hp => by
    obtain ⟨pi, px⟩ := x
    simp only [evFill] at h
    split at h <;> try (cases h; done)
    rename_i hc
    obtain ⟨c1, c2, c3⟩ := hc
    obtain ⟨h1, h2⟩ := hp 0 _ _ rfl rfl
    simp only at h1 h2
    obtain ⟨r1, r2, r3⟩ := cells_rel c3 h2
    obtain ⟨a1, a2, a3⟩ := ha
    have hcond : (px.cells.size ≠ size || off + px.cells.size > arr.size) = false := by
      simp
      omega
    let arr1 := px.cells.zipIdx.foldl (fun cs (c, j) => cs.setIfInBounds (off + j) c) arr
    have hsl : (splice cs off v.cells).length = cs.length := splice_length (by omega)
    have harr1 : ∀ j, j < arr.size → arr1[j]? = if off ≤ j ∧ j < off + px.cells.size then px.cells[j - off]? else arr[j]? := by
      intro j hj
      have := fold_zip px.cells.toList 0 off arr j (by simp; omega) hj
      simp only [Nat.add_zero, Array.length_toList, Array.getElem?_toList] at this
      rw [← this]
      show (Array.foldl _ arr px.cells.zipIdx)[j]? = _
      rw [← Array.foldl_toList, Array.toList_zipIdx]
    have hsz1 : arr1.size = arr.size := by
      show (Array.foldl _ arr px.cells.zipIdx).size = _
      rw [← Array.foldl_toList]
      exact foldl_set _ _ _
    have hrel : RelA w M β (splice cs off v.cells) arr1 := by
      refine ⟨by rw [hsz1, hsl, a1], fun y hy => ?_, fun j hj => ?_⟩
      · simp only [splice, List.mem_append] at hy
        rcases hy with (hy | hy) | hy
        · exact a2 y (List.mem_of_mem_take hy)
        · exact r2 y hy
        · exact a2 y (List.mem_of_mem_drop hy)
      · have hj' : j < cs.length := by rw [hsl] at hj; exact hj
        have hg := splice_get (cs := cs) (ys := v.cells) (o := off) (by omega) j hj'
        rw [List.getElem?_eq_getElem hj] at hg
        have ha1 := harr1 j (by omega)
        have hd : arr1.getD j default = (arr1[j]?).getD default := by simp [Array.getD_eq_getD_getElem?]
        rw [hd, ha1]
        by_cases hin : off ≤ j ∧ j < off + v.cells.length
        · rw [if_pos hin, List.getElem?_eq_getElem (by omega)] at hg
          injection hg with hg
          rw [if_pos (by omega), hg]
          have := r3 (j - off) (by omega)
          simpa [Array.getD_eq_getD_getElem?] using this
        · rw [if_neg hin, List.getElem?_eq_getElem hj'] at hg
          injection hg with hg
          rw [if_neg (by omega), hg]
          have := a3 j hj'
          simpa [Array.getD_eq_getD_getElem?] using this
    obtain ⟨arr', q1, q2⟩ := fill_ok ps xs (splice cs off v.cells) cs' arr1 h hrel (by simpa using hl) (fun i p x e1 e2 => hp (i + 1) p x (by simpa using e1) (by simpa using e2))
    refine ⟨arr', ?_, q2⟩
    simp only [Instr.fill, h1, hcond, Bool.false_eq_true, if_false]
    exact q1

end
end Go.TL
