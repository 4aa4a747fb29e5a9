/-
  Tree land, part M: append, copy, make, slices written out.
-/
import Derived.Test.YthhhejockehncaaGreatDoorTlL
set_option linter.all false
namespace Go.TL
open Go

section
variable {P : Program} {G : Globals}

theorem SR.drew {A : Nat → Prop} {w : World} {β : Beta} {σ : List Cell} (h : SR G w A β σ) : SR G w.drew A β σ ∧ Ext w β σ w.drew β σ := h.grow (RowKit.Below.refl _ _).drew

/-- The elements of a slice, or a text's bytes. -/
def elemsOf (σ : List Cell) : V → Option (List V)
  | .nils => some []
  | .cap0 => some []
  | .sl ys => some ys
  | .osl c o n => match rowOf σ c with
    | some (_, xs) => if o + n ≤ xs.length then some ((xs.drop o).take n) else none
    | none => none
  | .str s => some (s.map fun b => .int .u8 b.toNat)
  | _ => none

theorem loadCells_rel {A : Nat → Prop} {w : World} {β : Beta} {σ : List Cell} {b p s : Nat} {ys : List V} (he : ElemsAt w (Mav A β σ) β b p s ys) :
    ∃ arr, (loadCells ⟨b, p, none⟩ (ys.length * s)).run P w = .ok arr w ∧ RelL w (Mav A β σ) β (flat ys) arr.toList := by
  have hsz : ∀ x ∈ ys, x.cells.length = s := fun x hx => by
    obtain ⟨i, hi, rfl⟩ := List.mem_iff_getElem.1 hx
    exact (he i hi).2.1
  have hl := flat_length ys hsz
  have hall : ∀ k, k < ys.length * s → ∃ x, w.cell? ⟨b, p + k, none⟩ = some x ∧ ∀ (h : k < (flat ys).length), Rel w (Mav A β σ) β ((flat ys)[k]'h) x := by
    intro k hk
    have hs0 : 0 < s := by
      rcases Nat.eq_zero_or_pos s with h0 | h0
      · subst h0; simp at hk
      · exact h0
    have hi : k / s < ys.length := Nat.div_lt_of_lt_mul (by rw [Nat.mul_comm]; exact hk)
    have hj : k % s < s := Nat.mod_lt _ hs0
    have hk' : k = (k / s) * s + k % s := by rw [Nat.mul_comm]; exact (Nat.div_add_mod k s).symm
    obtain ⟨f1, f2, f3⟩ := he (k / s) hi
    obtain ⟨x, h1, h2⟩ := f3 (k % s) (by rw [f2]; exact hj)
    refine ⟨x, by rw [show p + k = p + k / s * s + k % s by omega]; exact h1, fun h => ?_⟩
    have hg := flat_get ys hsz (k / s) (k % s) hi hj
    rw [← hk', List.getElem?_eq_getElem h, List.getElem?_eq_getElem (by rw [f2]; exact hj)] at hg
    injection hg with hg
    rw [hg]
    exact h2
  let f : Nat → Value := fun k => if hk : k < ys.length * s then Classical.choose (hall k hk) else default
  have hf : ∀ k (hk : k < ys.length * s), w.cell? ⟨b, p + k, none⟩ = some (f k) ∧ ∀ (h : k < (flat ys).length), Rel w (Mav A β σ) β ((flat ys)[k]'h) (f k) := fun k hk => by
    simp only [f, dif_pos hk]
    exact Classical.choose_spec (hall k hk)
  refine ⟨((List.range (ys.length * s)).map f).toArray, run_loadCells w _ _ f (fun j hj => by rw [addr_add]; exact (hf j hj).1), by simp [hl], fun j hj x hx => ?_⟩
  have hj' : j < ys.length * s := by rw [← hl]; exact hj
  simp [hj'] at hx
  subst hx
  exact (hf j hj').2 hj

theorem sl_elems {w : World} {M : Nat → Prop} {β : Beta} {xs : List V} {x : Value} (h : Rel w M β (.sl xs) x) :
    (xs = [] ∧ ∃ a cap, x = .slice a 0 cap) ∨ ∃ b p s cap, x = .slice (some ⟨b, p, none⟩) xs.length cap ∧ xs.length ≤ cap ∧ ElemsAt w M β b p s xs := by
  cases h
  rotate_left
  · exact .inl ⟨rfl, _, _, rfl⟩
  rename_i b p s cap x hcap hl hc hr
  refine .inr ⟨b, p, s, cap, rfl, hcap, fun i hi => ?_⟩
  obtain ⟨h1, h2⟩ := hl _ (List.getElem_mem hi)
  exact ⟨h1, h2, fun j hj => ⟨x i j, (hc i j hi (by omega)).1, (hr i j hi hj).up⟩⟩

theorem ElemsAt.sub {w : World} {M : Nat → Prop} {β : Beta} {b p s : Nat} {xs : List V} (h : ElemsAt w M β b p s xs) (o n : Nat) (hon : o + n ≤ xs.length) : ElemsAt w M β b (p + o * s) s ((xs.drop o).take n) := fun i hi => by
  have hi' : i < n := by simp at hi; omega
  obtain ⟨f1, f2, f3⟩ := h (o + i) (by omega)
  have hget : ((xs.drop o).take n)[i]'hi = xs[o + i] := by simp
  rw [hget]
  refine ⟨f1, f2, fun j hj => ?_⟩
  obtain ⟨x, h1, h2⟩ := f3 j hj
  exact ⟨x, by rw [show p + o * s + i * s + j = p + (o + i) * s + j by rw [Nat.add_mul]; omega]; exact h1, h2⟩

theorem flat_bytes : ∀ (t : List UInt8), flat (t.map fun b => V.int .u8 b.toNat) = t.map fun b => V.int .u8 b.toNat
  | [] => rfl
  | b :: r => by
    have ih := flat_bytes r
    simp only [flat, List.map_cons, List.flatMap_cons, V.cells] at ih ⊢
    rw [ih]
    rfl

/-- What is appended: its length, and its cells when they are read. -/
theorem elems_ok {A : Nat → Prop} {w : World} {β : Beta} {σ : List Cell} (hs : SR G w A β σ) {s : Nat} {y : V} {ys : List V} (h : elemsOf σ y = some ys) (hy : ∀ v ∈ ys, v.stores = true ∧ v.cells.length = s)
    {b : Value} (hb : Rel w (Mav A β σ) β y b) :
    (Builtin.lenOf b).run P w = .ok ys.length w ∧ ∃ arr, (Builtin.firstCells s ys.length b).run P w = .ok arr w ∧ RelL w (Mav A β σ) β (flat ys) arr.toList := by
  cases y <;> simp only [elemsOf, Option.some.injEq, reduceCtorEq] at h
  case nils => subst h; cases hb; exact ⟨rfl, #[], rfl, by simp [RelL, flat]⟩
  case cap0 =>
    subst h; cases hb
    rename_i a
    exact ⟨rfl, #[], by cases a <;> simp [Builtin.firstCells, loadCells, loadCellsFrom], by simp [RelL, flat]⟩
  case sl zs =>
    subst h
    rcases sl_elems hb with ⟨rfl, a, cap, rfl⟩ | ⟨bb, p, s', cap, rfl, hcap, he⟩
    · exact ⟨rfl, #[], by cases a <;> simp [Builtin.firstCells, loadCells, loadCellsFrom], by simp [RelL, flat]⟩
    refine ⟨rfl, ?_⟩
    have he' : ElemsAt w (Mav A β σ) β bb p s zs := fun i hi => by
      obtain ⟨f1, f2, f3⟩ := he i hi
      have : s' = s := by have := (hy _ (List.getElem_mem hi)).2; omega
      subst this
      exact ⟨f1, f2, f3⟩
    exact loadCells_rel he'
  case osl c o n =>
    split at h <;> try (cases h; done)
    rename_i s' xs hrow
    split at h <;> try (cases h; done)
    rename_i hon
    injection h with h
    subst h
    have hlen : ((xs.drop o).take n).length = n := by simp; omega
    rw [hlen]
    cases hb with
    | osl hβ hcap hblk hz =>
      rename_i bb p s0 cap arr t fr
      obtain ⟨e1, he⟩ := hs.elems hrow hβ
      subst e1
      have he2 := he.sub o n hon
      refine ⟨rfl, ?_⟩
      by_cases hn : n = 0
      · subst hn
        refine ⟨#[], by simp [Builtin.firstCells, loadCells, loadCellsFrom], by simp [RelL, flat]⟩
      · have hss : s0 = s := by
          have h0 : 0 < ((xs.drop o).take n).length := by omega
          have := (hy _ (List.getElem_mem h0)).2
          have h2 := (he2 0 h0).2.1
          omega
        subst hss
        have := loadCells_rel (P := P) he2
        rw [hlen] at this
        exact this
    | osl0 b0 p0 hβ =>
      exact ⟨rfl, #[], by simp [Builtin.firstCells, loadCells, loadCellsFrom], by simp [RelL, flat]⟩
  case str t =>
    subst h
    cases hb
    have e2 : (⟨t.toArray⟩ : ByteArray).size = t.length := by simp [ByteArray.size]
    refine ⟨by simp [Builtin.lenOf, e2], ((⟨t.toArray⟩ : ByteArray).extract 0 t.length).data.map (fun b => .int .u8 b.toNat), ?_, ?_⟩
    · simp [Builtin.firstCells]
    · have hfl := flat_bytes t
      rw [hfl]
      refine ⟨by simp, fun j hj x hx => ?_⟩
      simp at hj
      simp [hj] at hx
      subst hx
      simpa using Rel.int _ _

def evApp (σ : List Cell) (s bytes : Nat) (x : V) (ys : List V) : Option (V × List Cell) :=
  match x with
  | .nils => if ys = [] then some (.nils, σ) else if ys.length * bytes ≤ 35184372088832 then some (.osl σ.length 0 ys.length, σ ++ [.row s ys]) else none
  | .cap0 => if ys = [] then some (.cap0, σ) else if ys.length * bytes ≤ 35184372088832 then some (.osl σ.length 0 ys.length, σ ++ [.row s ys]) else none
  | .osl c o n => match σ[c]? with
    | some (.row s' xs) => if s' = s ∧ o + n ≤ xs.length then
        (if ys = [] then some (.osl c o n, σ) else
          if (n + ys.length) * bytes ≤ 35184372088832 then some (.osl σ.length 0 (n + ys.length), σ.set c .dead ++ [.row s ((xs.drop o).take n ++ ys)]) else none)
      else none
    | _ => none
  | _ => none

theorem next_le (need cap : Nat) (h : cap < need) : Builtin.nextslicecap need cap ≤ 2 * need + 256 := by
  have grow : ∀ k c, c ≤ 2 * need + 256 → Builtin.growBy need k c ≤ 2 * need + 256 := by
    intro k
    induction k with
    | zero => intro c hc; exact hc
    | succ k ih =>
      intro c hc
      simp only [Builtin.growBy]
      split
      · exact hc
      · exact ih _ (by omega)
  unfold Builtin.nextslicecap
  split
  · omega
  · split
    · omega
    · exact grow _ _ (by omega)

/-- What append asks of the types: the element's type, its cells, its bytes. -/
def prepApp (P : Program) (sT xT : TypeId) : Option (Nat × Nat) :=
  match P.underlying sT, P.underlying xT with
  | some (.slice e), some (.slice _) | some (.slice e), some .string => match P.info? e with
    | some i => if (i.zero.any fun z => z.cells.size == i.size) = true ∧ 1 ≤ i.bytes ∧ i.bytes ≤ 1073741824 then some (i.size, i.bytes) else none
    | none => none
  | _, _ => none

theorem prepApp_spec {sT xT : TypeId} {s bytes : Nat} (h : prepApp P sT xT = some (s, bytes)) : ∃ e i z d, P.underlying sT = some (.slice e) ∧ P.underlying xT = some d ∧ (∀ k, d ≠ .int k) ∧ P.info? e = some i ∧ i.zero = some z ∧ z.cells.size = s ∧
    i.size = s ∧ i.bytes = bytes ∧ 1 ≤ bytes ∧ bytes ≤ 1073741824 := by
  unfold prepApp at h
  split at h <;> try (cases h; done)
  all_goals
    rename_i e hu hx
    split at h <;> try (cases h; done)
    rename_i i hi
    split at h <;> try (cases h; done)
    rename_i hc
    obtain ⟨c1, c2, c3⟩ := hc
    injection h with h
    injection h with h1 h2
    cases hz : i.zero with
    | none => rw [hz] at c1; simp at c1
    | some z =>
      rw [hz] at c1
      simp at c1
      exact ⟨_, i, z, _, hu, hx, by simp, hi, hz, by omega, h1, h2, by omega, by omega⟩

theorem run_typeInfo {t : TypeId} {i : TypeInfo} (h : P.info? t = some i) {w : World} : (typeInfo t).run P w = .ok i w := by simp [typeInfo, h]

/-- An append that makes a new row. -/
theorem app_new {A : Nat → Prop} {w : World} {β : Beta} {σ : List Cell} (hs : SR G w A β σ) {s : Nat} {e : TypeId} {old ys : List V} (need newCap : Nat) {oldA newA rest : Array Value}
    (ho : ∀ v ∈ old, v.stores = true ∧ v.cells.length = s) (hy : ∀ v ∈ ys, v.stores = true ∧ v.cells.length = s) (hro : RelL w (Mav A β σ) β (flat old) oldA.toList) (hry : RelL w (Mav A β σ) β (flat ys) newA.toList)
    (hneed : need = old.length + ys.length) (hcap : need ≤ newCap) (hrest : rest.size = (newCap - need) * s) :
    SR G (w.alloc (.cells (oldA ++ newA ++ rest) e)) A (β ++ [(w.heap.size, 0, s)]) (σ ++ [.row s (old ++ ys)]) ∧
    Ext w β σ (w.alloc (.cells (oldA ++ newA ++ rest) e)) (β ++ [(w.heap.size, 0, s)]) (σ ++ [.row s (old ++ ys)]) ∧
    Rel (w.alloc (.cells (oldA ++ newA ++ rest) e)) (Mav A (β ++ [(w.heap.size, 0, s)]) (σ ++ [.row s (old ++ ys)])) (β ++ [(w.heap.size, 0, s)]) (.osl σ.length 0 (old.length + ys.length)) (.slice (some ⟨w.heap.size, 0, none⟩) need newCap) := by
  have hall : ∀ v ∈ old ++ ys, v.stores = true ∧ v.cells.length = s := fun v hv => (List.mem_append.1 hv).elim (ho v) (hy v)
  have hfl : flat (old ++ ys) = flat old ++ flat ys := by simp [flat]
  have hrel : RelL w (Mav A β σ) β (flat (old ++ ys)) (oldA.toList ++ newA.toList) := by
    rw [hfl]
    refine ⟨by simp only [List.length_append, hro.1, hry.1], fun j hj x hx => ?_⟩
    by_cases hlt : j < (flat old).length
    · rw [List.getElem?_append_left (by rw [hro.1]; exact hlt)] at hx
      rw [List.getElem_append_left hlt]
      exact hro.2 j hlt x hx
    · rw [List.getElem?_append_right (by rw [hro.1]; omega)] at hx
      rw [List.getElem_append_right (by omega)]
      refine hry.2 _ _ x ?_
      rw [← hx, hro.1]
  have hF := Flat.of_list rest.toList hall hrel
  have e1 : (oldA.toList ++ newA.toList ++ rest.toList).toArray = oldA ++ newA ++ rest := by
    apply Array.ext'
    simp
  rw [e1] at hF
  obtain ⟨h1, h2⟩ := hs.newRow e hF
  refine ⟨h1, h2, ?_⟩
  have hβ : (β ++ [(w.heap.size, 0, s)])[σ.length]? = some (w.heap.size, 0, s) := by rw [← hs.len]; simp
  have hb : (w.alloc (.cells (oldA ++ newA ++ rest) e)).heap[w.heap.size]? = some (.cells (oldA ++ newA ++ rest) e) := World.alloc_heap_new' _ _
  have hsz : 0 + (0 + newCap) * s ≤ (oldA ++ newA ++ rest).size := by
    have z1 : oldA.size = old.length * s := by
      have := hro.1
      rw [flat_length old (fun x h => (ho x h).2)] at this
      simpa using this
    have z2 : newA.size = ys.length * s := by
      have := hry.1
      rw [flat_length ys (fun x h => (hy x h).2)] at this
      simpa using this
    simp only [Array.size_append, z1, z2, hrest]
    have : newCap = old.length + ys.length + (newCap - need) := by omega
    conv => lhs; rw [this]
    simp only [Nat.add_mul]
    omega
  rw [← hneed]
  have := Rel.osl (M := Mav A (β ++ [(w.heap.size, 0, s)]) (σ ++ [.row s (old ++ ys)])) (n := need) (cap := newCap) (o := 0) hβ hcap hb hsz
  simpa using this

theorem zeroCells_size (z : Array Value) (n : Nat) : (Builtin.zeroCells z n).size = n * z.size := by simp [Builtin.zeroCells]

theorem run_zeroValue {t : TypeId} {i : TypeInfo} {z : Value} (h : P.info? t = some i) (hz : i.zero = some z) {w : World} : (zeroValue t).run P w = .ok z w := by
  simp [zeroValue, run_typeInfo h, hz]
theorem run_newRow (e : TypeId) (cells : Array Value) (w : World) : (Go.newRow e cells).run P w = .ok ⟨w.heap.size, 0, none⟩ (w.alloc (.cells cells e)) := rfl

theorem zeros_no {xT : TypeId} {d : TypeDesc} (hx : P.underlying xT = some d) (hd : ∀ k, d ≠ .int k) {w : World} :
    (do pure ((← underlying xT) matches .int _) : Sem Bool).run P w = .ok false w := by
  cases d <;> first | (simp only [Sem.run_bind, run_underlying hx, Result.andThen_ok, Sem.run_pure]; done) | (simp [run_underlying hx]; done) | exact absurd rfl (hd _)

theorem app_ok {sT xT ty : TypeId} {s bytes : Nat} (hp : prepApp P sT xT = some (s, bytes)) {A : Nat → Prop} {w : World} {β : Beta} {σ σ' : List Cell} (hs : SR G w A β σ) {x y v : V} {ys : List V}
    (hys : elemsOf σ y = some ys) (hyc : ∀ v ∈ ys, v.stores = true ∧ v.cells.length = s) (h : evApp σ s bytes x ys = some (v, σ')) {a b : Value} (ha : Rel w (Mav A β σ) β x a) (hb : Rel w (Mav A β σ) β y b) :
    OkV P G A w β σ (Builtin.append_ #[sT, xT] ty #[a, b]) v σ' := by
  obtain ⟨e, i, z, d, hu, hx, hd, hi, hz, hzs, hsz, hby, hb1, hb2⟩ := prepApp_spec hp
  obtain ⟨hlen, arr0, hfc0, hrel0⟩ := elems_ok (P := P) hs hys hyc hb
  have hsize : (sizeOf e).run P w = .ok s w := run_sizeOf (by simp [sizeP, hi, hsz])
  have hzero := zeros_no (P := P) hx hd (w := w)
  obtain ⟨hsd, hed⟩ := hs.drew
  obtain ⟨-, arr, hfc, hrel⟩ := elems_ok (P := P) hsd hys hyc (hb.ext hed)
  have hgrow : ∀ (base : Option Addr) (n cap : Nat) (old : List V) (oldA : Array Value) (σ0 : List Cell), a = .slice base n cap → cap < n + ys.length → (n + ys.length) * bytes ≤ 35184372088832 →
      (∀ v ∈ old, v.stores = true ∧ v.cells.length = s) → old.length = n → (Builtin.firstCells s n a).run P w.drew = .ok oldA w.drew →
      SR G w.drew A β σ0 → Ext w.drew β σ w.drew β σ0 → RelL w.drew (Mav A β σ) β (flat old) oldA.toList →
      OkV P G A w β σ (Builtin.append_ #[sT, xT] ty #[a, b]) (.osl σ0.length 0 (n + ys.length)) (σ0 ++ [.row s (old ++ ys)]) := by
    intro base n cap old oldA σ0 ha' hc hbound hold hon r1 hs0 he0 hro
    subst ha'
    have hny := next_le (n + ys.length) cap hc
    have hnb : ¬ Builtin.nextslicecap (n + ys.length) cap * bytes > 2 ^ 48 := by
      have h1 : Builtin.nextslicecap (n + ys.length) cap * bytes ≤ (2 * (n + ys.length) + 256) * bytes := Nat.mul_le_mul_right _ hny
      rw [Nat.add_mul, Nat.mul_assoc] at h1
      omega
    let q : Question := .appendCap (n + ys.length) cap e
    let newCap := q.cut (w.tape w.drawn q)
    have hnc : n + ys.length ≤ newCap := by simp only [newCap, q, Question.cut]; omega
    obtain ⟨n1, n2, n3⟩ := app_new (s := s) (e := e) (old := old) (ys := ys) hs0 (n + ys.length) newCap (oldA := oldA) (newA := arr) (rest := Builtin.zeroCells z.cells (newCap - (n + ys.length))) hold hyc
      (hro.ext he0) (hrel.ext he0) (by omega) hnc (by rw [zeroCells_size, hzs])
    rw [hon] at n3
    refine ⟨_, _, _, ?_, n3, n1, (hed.trans he0).trans n2⟩
    have hfit : ¬ (n + ys.length ≤ cap) := by omega
    have hmax : IntKind.i64.max = 9223372036854775807 := by decide
    have hle : ¬ (((n + ys.length : Nat) : Int) > IntKind.i64.max ∧ (false = true ∨ bytes = 0)) := by
      rw [hmax]
      intro hh
      have := hh.2
      simp at this
      omega
    have hch : (choose (.appendCap (n + ys.length) cap e)).run P w = .ok newCap w.drew := by
      simp only [run_choose]
      rw [if_neg (by simp [Question.forced])]
      rfl
    simp only [Builtin.append_, List.size_toArray, List.length_cons, List.length_nil, Nat.zero_add, Nat.reduceAdd, Nat.reduceLT, getElem?_pos, List.getElem_toArray, List.getElem_cons_zero, List.getElem_cons_succ,
      Sem.run_bind, run_underlying hu, run_underlying hx, Result.andThen_ok, hsize, Sem.run_pure]
    simp only [Bool.false_eq_true, if_false, Sem.run_bind, hlen, Result.andThen_ok, Sem.run_ite, if_neg hfit, run_typeInfo hi, hby, Bool.not_false, if_true]
    rw [if_neg (by simpa using hle), if_neg hnb, hch]
    simp only [Result.andThen_ok, run_askRoom, r1, hfc, run_zeroValue hi hz, run_newRow, Sem.run_pure]
  have hstay : ∀ (base : Option Addr) (n cap : Nat), a = .slice base n cap → ys = [] → n ≤ cap → (∀ ad, base = some ad → ∀ w : World, (storeCells (ad.add (n * s)) []).run P w = .ok () w) →
      (Builtin.append_ #[sT, xT] ty #[a, b]).run P w = .ok (.slice base n cap) w := by
    intro base n cap ha' hy0 hnc hst
    subst ha'
    subst hy0
    have hl0 : (Builtin.lenOf b).run P w = .ok 0 w := hlen
    have hfc1 : (Builtin.firstCells s 0 b).run P w = .ok arr0 w := hfc0
    have harr : arr0 = #[] := by
      have := hrel0.1
      simp [flat] at this
      exact this
    subst harr
    simp only [Builtin.append_, List.size_toArray, List.length_cons, List.length_nil, Nat.zero_add, Nat.reduceAdd, Nat.reduceLT, getElem?_pos, List.getElem_toArray, List.getElem_cons_zero, List.getElem_cons_succ,
      Sem.run_bind, run_underlying hu, run_underlying hx, Result.andThen_ok, hsize, Sem.run_pure]
    simp only [Bool.false_eq_true, if_false, Sem.run_bind, hl0, Result.andThen_ok, Sem.run_ite, Nat.add_zero, if_pos hnc, Bool.not_false, if_true, hfc1]
    cases base with
    | none => rfl
    | some ad => simp only [Sem.run_bind, hst ad rfl, Result.andThen_ok, Sem.run_pure]
  cases x <;> simp only [evApp, reduceCtorEq] at h
  case nils =>
    cases ha
    split at h
    · rename_i hy0
      injection h with h
      injection h with h1 h2
      subst h1; subst h2
      exact ⟨_, w, β, hstay none 0 0 rfl hy0 (Nat.le_refl _) (fun _ h => by cases h), .nils, hs, .refl _ _ _⟩
    · rename_i hy0
      split at h <;> try (cases h; done)
      rename_i hbd
      injection h with h
      injection h with h1 h2
      subst h1; subst h2
      have hpos : 0 < ys.length := List.length_pos_iff.2 hy0
      have := hgrow none 0 0 [] #[] σ rfl (by omega) (by simpa using hbd) (by simp) rfl (by simp [Builtin.firstCells]) hsd (.refl _ _ _) (by simp [RelL, flat])
      simpa using this
  case cap0 =>
    cases ha
    rename_i ad
    split at h
    · rename_i hy0
      injection h with h
      injection h with h1 h2
      subst h1; subst h2
      exact ⟨_, w, β, hstay ad 0 0 rfl hy0 (Nat.le_refl _) (fun _ _ _ => rfl), .cap0 ad, hs, .refl _ _ _⟩
    · rename_i hy0
      split at h <;> try (cases h; done)
      rename_i hbd
      injection h with h
      injection h with h1 h2
      subst h1; subst h2
      have hpos : 0 < ys.length := List.length_pos_iff.2 hy0
      have := hgrow ad 0 0 [] #[] σ rfl (by omega) (by simpa using hbd) (by simp) rfl (by cases ad <;> simp [Builtin.firstCells, loadCells, loadCellsFrom]) hsd (.refl _ _ _) (by simp [RelL, flat])
      simpa using this
  case osl c o n =>
    split at h <;> try (cases h; done)
    rename_i s' xs hc
    split at h <;> try (cases h; done)
    rename_i hcond
    obtain ⟨rfl, hon⟩ := hcond
    have hrow : rowOf σ c = some (s', xs) := by simp [rowOf, hc]
    split at h
    · rename_i hy0
      injection h with h
      injection h with h1 h2
      subst h1; subst h2
      cases ha with
      | osl hβ hcap hblk hz0 => exact ⟨_, w, β, hstay _ n _ rfl hy0 hcap (fun _ _ _ => rfl), .osl hβ hcap hblk hz0, hs, .refl _ _ _⟩
      | osl0 b0 p0 hβ => exact ⟨_, w, β, hstay _ 0 0 rfl hy0 (Nat.le_refl _) (fun _ _ _ => rfl), .osl0 b0 p0 hβ, hs, .refl _ _ _⟩
    · rename_i hy0
      split at h <;> try (cases h; done)
      rename_i hbd
      injection h with h
      injection h with h1 h2
      subst h1; subst h2
      have hpos : 0 < ys.length := List.length_pos_iff.2 hy0
      obtain ⟨hk1, hk2⟩ := hsd.kill hc (by simp)
      have hold : ∀ v ∈ (xs.drop o).take n, v.stores = true ∧ v.cells.length = s' := fun v hv => by
        obtain ⟨i, hi, rfl⟩ := List.mem_iff_getElem.1 (List.mem_of_mem_drop (List.mem_of_mem_take hv))
        obtain ⟨q, hq⟩ : ∃ q, β[c]? = some q := ⟨_, List.getElem?_eq_getElem (by rw [hs.len]; exact get_lt hc)⟩
        obtain ⟨f1, f2, -⟩ := (hs.elems hrow (b := q.1) (p := q.2.1) (s' := q.2.2) hq).2 i hi
        exact ⟨f1, f2⟩
      have hol : ((xs.drop o).take n).length = n := by simp; omega
      have helem : elemsOf σ (.osl c o n) = some ((xs.drop o).take n) := by simp [elemsOf, hrow, hon]
      have hlset : (σ.set c Cell.dead).length = σ.length := by simp
      cases ha with
      | osl hβ hcap hblk hz0 =>
        rename_i bb p s0 cap arr1 t0 fr0
        obtain ⟨e1, -⟩ := hs.elems hrow hβ
        subst e1
        by_cases hfit : n + ys.length ≤ cap
        · -- there is room
          obtain ⟨a1, a2, a3⟩ := hs.appendIn (P := P) (ys := ys) (vs := arr0.toList) (cap := cap) hc hβ hon hblk hz0 hfit hyc hrel0
          refine ⟨.slice (some ⟨bb, p + o * s0, none⟩) (n + ys.length) cap, _, _, ?_, ?_, a2, a3⟩
          · simp only [Builtin.append_, List.size_toArray, List.length_cons, List.length_nil, Nat.zero_add, Nat.reduceAdd, Nat.reduceLT, getElem?_pos, List.getElem_toArray, List.getElem_cons_zero, List.getElem_cons_succ,
              Sem.run_bind, run_underlying hu, run_underlying hx, Result.andThen_ok, hsize, Sem.run_pure]
            simp only [Bool.false_eq_true, if_false, Sem.run_bind, hlen, Result.andThen_ok, Sem.run_ite, if_pos hfit, Bool.not_false, if_true, hfc0, addr_add]
            have : p + o * s0 + n * s0 = p + (o + n) * s0 := by rw [Nat.add_mul]; omega
            rw [this, a1]
            rfl
          · have hβ' : (β ++ [(bb, p + o * s0, s0)])[σ.length]? = some (bb, p + o * s0, s0) := by rw [← hs.len]; simp
            obtain ⟨arr', fr', x1, x2⟩ := a3.kept bb _ _ _ hblk
            have := Rel.osl (M := Mav A (β ++ [(bb, p + o * s0, s0)]) (σ.set c .dead ++ [.row s0 ((xs.drop o).take n ++ ys)])) (n := n + ys.length) (cap := cap) (o := 0) hβ' hfit x1 (by
              rw [x2, Nat.zero_add]
              rw [Nat.add_mul] at hz0
              omega)
            simpa using this
        · obtain ⟨-, oldA, hfo, hro⟩ := elems_ok (P := P) hsd helem hold ((Rel.osl hβ hcap hblk hz0).ext hed)
          rw [hol] at hfo
          have := hgrow _ n cap ((xs.drop o).take n) oldA (σ.set c .dead) rfl (by omega) hbd hold hol hfo hk1 hk2 hro
          rw [hlset] at this
          exact this
      | osl0 b0 p0 hβ =>
        have hz00 : (xs.drop o).take 0 = [] := by simp
        have := hgrow (some ⟨b0, p0, none⟩) 0 0 [] #[] (σ.set c .dead) rfl (by omega) (by simpa using hbd) (by simp) rfl (by simp [Builtin.firstCells, loadCells, loadCellsFrom]) hk1 hk2 (by simp [RelL, flat])
        rw [hlset] at this
        simpa using this

end
end Go.TL
