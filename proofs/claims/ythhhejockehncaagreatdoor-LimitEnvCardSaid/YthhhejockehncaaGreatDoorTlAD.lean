/-
  Tree land, part AD: many steps at once; slots and rows forgotten, renamed, sealed.
-/
import Derived.Test.YthhhejockehncaaGreatDoorTlAC
set_option linter.all false
namespace Go.TL
open Go

section
variable {P : Program} {G : Globals} {ro : Option Nat}

/-! ### slots told -/

/-- n slots, of which those named are known. -/
def mkF : Nat → Nat → List (Nat × V) → List V
  | 0, _, _ => []
  | n + 1, i, [] => .any :: mkF n (i + 1) []
  | n + 1, i, (j, v) :: l => match j == i with
    | true => v :: mkF n (i + 1) l
    | false => .any :: mkF n (i + 1) ((j, v) :: l)
def mk (n : Nat) (l : List (Nat × V)) : List V := mkF n 0 l

/-- Only the slots named stay; '1': slices are told as lists. -/
def maskZ : List (Nat × Nat) → Nat → List V → List V
  | _, _, [] => []
  | [], i, _ :: l => .any :: maskZ [] (i + 1) l
  | (j, z) :: m, i, v :: l => match j == i with
    | true => (match z with | 0 => v | z + 1 => czV (z + 1) v) :: maskZ m (i + 1) l
    | false => .any :: maskZ ((j, z) :: m) (i + 1) l

theorem maskZ_rel {w : World} {M : Nat → Prop} {β : Beta} : ∀ {m : List (Nat × Nat)} {i : Nat} {t : List V} {xs : List Value}, RelL w M β t xs → RelL w M β (maskZ m i t) xs := by
  have cons : ∀ {v u : V} {l l' : List V} {xs : List Value}, RelL w M β (v :: l) xs → (∀ x, Rel w M β v x → Rel w M β u x) → (∀ xs, RelL w M β l xs → RelL w M β l' xs) → RelL w M β (u :: l') xs := by
    intro v u l l' xs h h1 h2
    match xs, h with
    | [], h => exact absurd h.1 (by simp)
    | x :: xs, h =>
      have ht := h2 xs ⟨by simpa using h.1, fun j hj y hy => h.2 (j + 1) (by simpa using hj) y (by simpa using hy)⟩
      refine ⟨by simpa using ht.1, fun j hj y hy => ?_⟩
      cases j with
      | zero => exact h1 y (h.2 0 (by simp) y (by simpa using hy))
      | succ j => exact ht.2 j (by simpa using hj) y (by simpa using hy)
  intro m i t
  induction t generalizing m i with
  | nil => intro xs h; cases m <;> simpa [maskZ] using h
  | cons v l ih =>
    intro xs h
    cases m with
    | nil => exact cons h (fun x _ => .any x) (fun xs h => ih h)
    | cons p m =>
      obtain ⟨j, z⟩ := p
      simp only [maskZ]
      split
      · refine cons h (fun x hx => ?_) (fun xs h => ih h)
        split
        · exact hx
        · exact czV_rel _ hx
      · exact cons h (fun x _ => .any x) (fun xs h => ih h)

theorem weak_mask {n : Nat} {m : List (Nat × Nat)} {t : List V} {s : List Cell} (hn : n ≤ s.length) : Weak G n t s (maskZ m 0 t) s := fun _ _ β _ hs => ⟨β, ⟨hs.sr, maskZ_rel hs.tmps, hs.calm⟩, rfl, hn, fun _ hb => hb, fun _ _ hc => hc⟩

/-! ### steps -/

def fHd {α : Type} (v : V) (k : V → α) : α := match v with
  | .agg xs => fSpine xs fun xs => k (.agg xs)
  | .tup xs => fSpine xs fun xs => k (.tup xs)
  | v => k v
theorem fHd_eq {α : Type} (v : V) (k : V → α) : fHd v k = k v := by cases v <;> simp [fHd, fSpine_eq]
def fRow {α : Type} (c : Cell) (k : Cell → α) : α := match c with
  | .row s xs => k (.row s xs)
  | c => k c
theorem fRow_eq {α : Type} (c : Cell) (k : Cell → α) : fRow c k = k c := by cases c <;> rfl

def runT (G : Globals) : Nat → List T → List V → List Cell → List T × List V × List Cell
  | 0, k, t, s => (k, t, s)
  | f + 1, k, t, s => match k with
    | .ops [] :: k => runT G f k t s
    | .ops (o :: r) :: k' => match o.k with
      | .op q => match onG t o.guard with
        | some true => match evO G t s q with
          | some (v, s') => fHd v fun v => fSpine (putV t o.dst v) fun t => fList fRow s' fun s' => runT G f (.ops r :: k') t s'
          | none => (k, t, s)
        | some false => fSpine (putV t o.dst (.tup [])) fun t => runT G f (.ops r :: k') t s
        | none => (k, t, s)
      | _ => (k, t, s)
    | .pc c :: k' => match c with
      | .skip => runT G f k' t s
      | .reg ps => runT G f (.ops ps :: k') t s
      | .seq a b => runT G f (.pc a :: .pc b :: k') t s
      | .block id b => runT G f (.pc b :: .blk id :: k') t s
      | .cond c a b => match ev G t c with
        | .bool true => runT G f (.pc a :: k') t s
        | .bool false => runT G f (.pc b :: k') t s
        | _ => (k, t, s)
      | .exit id => match unwind id k' with
        | some k2 => runT G f k2 t s
        | none => (k, t, s)
      | _ => (k, t, s)
    | .blk _ :: k => runT G f k t s
    | k => (k, t, s)

theorem runT_ok {n : Nat} {R : Post} : ∀ (f : Nat) (k : List T) (t : List V) (s : List Cell), Run P G ro n R (runT G f k t s).1 (runT G f k t s).2.1 (runT G f k t s).2.2 → Run P G ro n R k t s := by
  intro f
  induction f with
  | zero => intro k t s h; exact h
  | succ f ih =>
    intro k t s
    match k with
    | [] => intro h; exact h
    | .jp J :: k => intro h; exact h
    | .blk id :: k => intro h; exact go_blk (ih k t s h)
    | .ops [] :: k => intro h; exact go_nil (ih k t s h)
    | .ops (⟨d, .op q, g⟩ :: r) :: k =>
      simp only [runT]
      intro h
      split at h
      · rename_i hg
        split at h
        · rename_i v s' hv
          rw [fHd_eq, fSpine_eq, fList_eq _ fRow_eq] at h
          exact go_op hg hv (ih _ _ _ h)
        · exact h
      · rename_i hg
        rw [fSpine_eq] at h
        exact go_off hg (ih _ _ _ h)
      · exact h
    | .ops (⟨d, .call _ _, g⟩ :: r) :: k => intro h; exact h
    | .ops (⟨d, .dyn _ _, g⟩ :: r) :: k => intro h; exact h
    | .ops (⟨d, .bad, g⟩ :: r) :: k => intro h; exact h
    | .pc .skip :: k => intro h; exact go_skip (ih k t s h)
    | .pc (.reg ps) :: k => intro h; exact go_reg (ih _ t s h)
    | .pc (.seq a b) :: k => intro h; exact go_seq (ih _ t s h)
    | .pc (.block id b) :: k => intro h; exact go_block (ih _ t s h)
    | .pc (.cond c a b) :: k =>
      simp only [runT]
      intro h
      split at h
      · rename_i hb
        exact go_cond true hb (fun _ => ih _ t s h) (fun e => by cases e)
      · rename_i hb
        exact go_cond false hb (fun e => by cases e) (fun _ => ih _ t s h)
      · exact h
    | .pc (.exit id) :: k =>
      simp only [runT]
      intro h
      split at h
      · rename_i hu
        exact go_exit hu (ih _ t s h)
      · exact h
    | .pc (.drawn _ _) :: k => intro h; exact h
    | .pc (.loop _) :: k => intro h; exact h
    | .pc .bad :: k => intro h; exact h
    | .pc .ret :: k => intro h; exact h

def runM (G : Globals) (f : Nat) (m : List (Nat × Nat)) (k : List T) (t : List V) (s : List Cell) : List T × List V × List Cell :=
  match runT G f k t s with
  | (k', t', s') => (k', maskZ m 0 t', s')

theorem go_run {n : Nat} {R : Post} {k k' : List T} {t t' : List V} {s s' : List Cell} (f : Nat) (m : List (Nat × Nat)) (h : runM G f m k t s = (k', t', s')) (hn : Nat.ble n s'.length = true) (hr : Run P G ro n R k' t' s') : Run P G ro n R k t s := by
  refine runT_ok f k t s ?_
  unfold runM at h
  revert h
  generalize runT G f k t s = z
  obtain ⟨k2, t2, s2⟩ := z
  intro h
  simp only [Prod.mk.injEq] at h
  obtain ⟨rfl, rfl, rfl⟩ := h
  exact go_weak (weak_mask (Nat.le_of_ble_eq_true hn)) hr

/-- Only slots are forgotten. -/
theorem go_mask {n : Nat} {R : Post} {k : List T} {t t' : List V} {s : List Cell} (m : List (Nat × Nat)) (h : maskZ m 0 t = t') (hn : Nat.ble n s.length = true) (hr : Run P G ro n R k t' s) : Run P G ro n R k t s := by
  subst h
  exact go_weak (weak_mask (Nat.le_of_ble_eq_true hn)) hr

/-! ### rows renamed and forgotten -/

def idx : List Nat → Nat → Nat → Option Nat
  | [], _, _ => none
  | a :: l, c, i => match a == c with
    | true => some i
    | false => idx l c (i + 1)

theorem idx_get : ∀ {l : List Nat} {c i j : Nat}, idx l c i = some j → i ≤ j ∧ l[j - i]? = some c
  | [], _, _, _, h => by cases h
  | a :: l, c, i, j, h => by
    simp only [idx] at h
    split at h
    · rename_i he
      injection h with h
      subst h
      exact ⟨Nat.le_refl _, by simp [beq_iff_eq.1 he]⟩
    · obtain ⟨h1, h2⟩ := idx_get h
      refine ⟨by omega, ?_⟩
      rw [show j - i = (j - (i + 1)) + 1 by omega]
      simpa using h2

def renV : Nat → List Nat → V → Option V
  | 0, _, _ => none
  | d + 1, ρ, v => match v with
    | .ref c i o => (idx ρ c 0).map fun c => .ref c i o
    | .osl c o n => (idx ρ c 0).map fun c => .osl c o n
    | .obj c => (idx ρ c 0).map .obj
    | .mp c => (idx ρ c 0).map .mp
    | .fn f as bs => match mapO (renV d ρ) as, mapO (renV d ρ) bs with
      | some x, some y => some (.fn f x y)
      | _, _ => none
    | .ifc t v => (renV d ρ v).map (.ifc t)
    | .agg xs => (mapO (renV d ρ) xs).map .agg
    | .tup xs => (mapO (renV d ρ) xs).map .tup
    | .any => some .any
    | v => some v

theorem renV_leaf {d : Nat} {ρ : List Nat} {v u : V} (h : renV d ρ v = some u) : u.leaf = v.leaf := by
  cases d with
  | zero => cases h
  | succ d =>
    cases v <;> simp only [renV] at h
    case fn => split at h <;> first | (cases h; done) | (injection h with h; subst h; rfl)
    all_goals first
      | (injection h with h; subst h; rfl)
      | (obtain ⟨_, _, rfl⟩ := Option.map_eq_some_iff.1 h; rfl)

theorem renV_stores {d : Nat} {ρ : List Nat} {v u : V} (h : renV d ρ v = some u) (hs : v.stores = true) : u.stores = true := by
  have hl := renV_leaf h
  cases d with
  | zero => cases h
  | succ d =>
    by_cases ha : ∃ xs, v = .agg xs
    · obtain ⟨xs, rfl⟩ := ha
      simp only [renV] at h
      obtain ⟨ys, hy, rfl⟩ := Option.map_eq_some_iff.1 h
      obtain ⟨g1, g2⟩ := mapO_get hy
      refine List.all_eq_true.2 fun y hm => ?_
      obtain ⟨i, hi, rfl⟩ := mem_get hm
      rw [renV_leaf (g2 i (by omega) hi)]
      exact List.all_eq_true.1 hs _ (List.getElem_mem _)
    · have h1 : v.leaf = true := by cases v <;> first | exact absurd ⟨_, rfl⟩ ha | exact hs
      rw [h1] at hl
      cases u <;> first | exact hl | cases hl

theorem renV_rel {w : World} {M M' : Nat → Prop} {β β' : Beta} {ρ : List Nat} (hM : ∀ b, M' b → M b) (hβ : ∀ (c c' : Nat) q, ρ[c']? = some c → β[c]? = some q → β'[c']? = some q) :
    ∀ {d : Nat} {v u : V}, renV d ρ v = some u → ∀ {x : Value}, Rel w M β v x → Rel w M' β' u x
  | 0, _, _, h => by cases h
  | d + 1, v, u, h => by
    have ih : ∀ {v u : V}, renV d ρ v = some u → ∀ {x : Value}, Rel w M β v x → Rel w M' β' u x := renV_rel hM hβ (d := d)
    have weak : ∀ {u : V} {x : Value}, Rel w M [] u x → Rel w M' [] u x := fun hr => hr.weaken (fun b _ hb => ⟨rfl, fun h => hb (hM b h)⟩) (fun _ arr _ fr hh => ⟨arr, fr, hh, rfl⟩) (fun _ _ hq => hq)
    have get : ∀ {c c' : Nat}, idx ρ c 0 = some c' → ρ[c']? = some c := fun h => by simpa using (idx_get h).2
    intro hr
    cases hr <;> simp only [renV] at h
    case ref hb => obtain ⟨c', hc, rfl⟩ := Option.map_eq_some_iff.1 h; exact .ref (hβ _ _ _ (get hc) hb)
    case osl hcap hb hblk hz => obtain ⟨c', hc, rfl⟩ := Option.map_eq_some_iff.1 h; exact .osl (hβ _ _ _ (get hc) (by assumption)) hcap (by assumption) (by assumption)
    case osl0 b p _ hb => obtain ⟨c', hc, rfl⟩ := Option.map_eq_some_iff.1 h; exact .osl0 _ _ (hβ _ _ _ (get hc) hb)
    case obj hb => obtain ⟨c', hc, rfl⟩ := Option.map_eq_some_iff.1 h; exact .obj (hβ _ _ _ (get hc) hb)
    case mp hb => obtain ⟨c', hc, rfl⟩ := Option.map_eq_some_iff.1 h; exact .mp (hβ _ _ _ (get hc) hb)
    case fn h1 h2 r1 r2 =>
      split at h <;> first | (cases h; done) | skip
      rename_i e1 e2
      injection h with h
      subst h
      obtain ⟨g1, g2⟩ := mapO_get e1
      obtain ⟨g3, g4⟩ := mapO_get e2
      exact .fn (by omega) (by omega) (fun j hj => ih (g2 j (by omega) hj) (r1 j (by omega))) (fun j hj => ih (g4 j (by omega) hj) (r2 j (by omega)))
    case ifc hs hr =>
      obtain ⟨u', hu, rfl⟩ := Option.map_eq_some_iff.1 h
      exact .ifc (ih hu hr) (renV_stores hu hs)
    case agg h1 hl r1 =>
      obtain ⟨ys, hy, rfl⟩ := Option.map_eq_some_iff.1 h
      obtain ⟨g1, g2⟩ := mapO_get hy
      refine .agg (by omega) (fun y hm => ?_) (fun j hj => ih (g2 j (by omega) hj) (r1 j (by omega)))
      obtain ⟨i, hi, rfl⟩ := mem_get hm
      rw [renV_leaf (g2 i (by omega) hi)]
      exact hl _ (List.getElem_mem _)
    case tup h1 r1 =>
      obtain ⟨ys, hy, rfl⟩ := Option.map_eq_some_iff.1 h
      obtain ⟨g1, g2⟩ := mapO_get hy
      exact .tup (by omega) (fun j hj => ih (g2 j (by omega) hj) (r1 j (by omega)))
    case imm xs o b p x hl hc hr =>
      injection h with h
      subst h
      exact .imm x hl (fun j hj => ⟨(hc j hj).1, fun h => (hc j hj).2 (hM _ h)⟩) (fun j hj => weak (hr j hj))
    case sl xs b p s cap x hcap hl hc hr =>
      injection h with h
      subst h
      exact .sl x hcap hl (fun i j hi hj => ⟨(hc i j hi hj).1, fun h => (hc i j hi hj).2 (hM _ h)⟩) (fun i j hi hj => weak (hr i j hi hj))
    all_goals
      injection h with h
      subst h
      constructor
      try assumption

/-- Cells that lead to nothing of the call's own. -/
def Clo (v : V) : Prop := v.cells.all V.shut = true

theorem Clo.rel {w : World} {M M' : Nat → Prop} {β β' : Beta} (hM : ∀ b, M' b → M b) {v : V} (hv : v.shut = true) {x : Value} (h : Rel w M β v x) : Rel w M' β' v x :=
  (renV_rel (ρ := []) (β' := β') (d := 1) hM (by simp) (by cases v <;> first | rfl | cases hv) h : Rel w M' β' v x)

/-- Rows whose elements lead to nothing of the call's own, but for those marked. -/
def CloS : List Bool → List Cell → Prop
  | _, [] => True
  | true :: f, _ :: r => CloS f r
  | _ :: f, .row _ xs :: r => (∀ v ∈ xs, Clo v) ∧ CloS f r
  | _ :: f, .held _ xs :: r => (∀ v ∈ xs, Clo v) ∧ CloS f r
  | _ :: f, _ :: r => CloS f r
  | [], .row _ xs :: r => (∀ v ∈ xs, Clo v) ∧ CloS [] r
  | [], .held _ xs :: r => (∀ v ∈ xs, Clo v) ∧ CloS [] r
  | [], _ :: r => CloS [] r

theorem CloS.get : ∀ {f : List Bool} {s : List Cell}, CloS f s → ∀ {c : Nat} {z : Nat} {xs : List V}, f.getD c false = false → s[c]? = some (.row z xs) ∨ s[c]? = some (.held z xs) → ∀ v ∈ xs, Clo v
  | _, [], _, c, z, xs, _, h => by simp at h
  | [], cl :: r, h, c, z, xs, hf, hc => by
    cases c with
    | zero =>
      simp only [List.getElem?_cons_zero, Option.some.injEq] at hc
      rcases hc with rfl | rfl
      · exact h.1
      · exact h.1
    | succ c =>
      have hr : CloS [] r := by cases cl <;> first | exact h.2 | exact h
      exact hr.get (by simp) (by simpa using hc)
  | b :: f, cl :: r, h, c, z, xs, hf, hc => by
    cases c with
    | zero =>
      simp only [List.getElem?_cons_zero, Option.some.injEq] at hc
      simp at hf
      subst hf
      rcases hc with rfl | rfl
      · exact h.1
      · exact h.1
    | succ c =>
      have hr : CloS f r := by cases b <;> cases cl <;> first | exact h.2 | exact h
      exact hr.get (by simpa using hf) (by simpa using hc)

def renC (ρ : List Nat) : Cell → Option Cell
  | .row z xs => (mapO (renV 5 ρ) xs).map (.row z)
  | _ => none

def pickV (ρ : List Nat) : List (Nat × Nat) → Nat → List V → Option (List V)
  | _, _, [] => some []
  | [], i, _ :: l => (pickV ρ [] (i + 1) l).map (.any :: ·)
  | (j, z) :: m, i, v :: l => match j == i with
    | true => match renV 5 ρ (match z with | 0 => v | z + 1 => czV (z + 1) v), pickV ρ m (i + 1) l with
      | some u, some r => some (u :: r)
      | _, _ => none
    | false => (pickV ρ ((j, z) :: m) (i + 1) l).map (.any :: ·)

def marksIn (ρ : List Nat) : Nat → List Cell → Bool
  | _, [] => true
  | i, .mark :: r => ρ.contains i && marksIn ρ (i + 1) r
  | i, _ :: r => marksIn ρ (i + 1) r

theorem marksIn_get {ρ : List Nat} : ∀ {s : List Cell} {i c : Nat}, marksIn ρ i s = true → s[c]? = some Cell.mark → i + c ∈ ρ
  | [], _, _, _, h => by simp at h
  | cl :: r, i, c, hm, h => by
    cases c with
    | zero =>
      simp only [List.getElem?_cons_zero, Option.some.injEq] at h
      subst h
      simp only [marksIn, Bool.and_eq_true, List.contains_iff_mem] at hm
      simpa using hm.1
    | succ c =>
      have hr : marksIn ρ (i + 1) r = true := by
        cases cl <;> first | exact hm | (simp only [marksIn, Bool.and_eq_true] at hm; exact hm.2)
      have := marksIn_get hr (by simpa using h)
      rw [show i + (c + 1) = i + 1 + c by omega]
      exact this

/-- The first n stay where they are, and no row is taken twice. -/
def preB : Nat → Nat → List Nat → Bool
  | _, _, [] => true
  | n, i, a :: l => (Nat.ble n i || a == i) && !(l.contains a) && preB n (i + 1) l

theorem preB_get {n : Nat} : ∀ {l : List Nat} {i : Nat}, preB n i l = true → (∀ (j a : Nat), l[j]? = some a → i + j < n → a = i + j) ∧ (∀ (j j' a : Nat), l[j]? = some a → l[j']? = some a → j = j')
  | [], i, _ => ⟨fun j a h => by simp at h, fun j j' a h => by simp at h⟩
  | a :: l, i, h => by
    simp only [preB, Bool.and_eq_true, Bool.or_eq_true, Bool.not_eq_true', beq_iff_eq] at h
    obtain ⟨⟨h1, h2⟩, h3⟩ := h
    obtain ⟨g1, g2⟩ := preB_get h3
    have hnot : ∀ (j : Nat), l[j]? ≠ some a := fun j hj => by
      have : l.contains a = true := List.contains_iff_mem.2 (List.mem_of_getElem? hj)
      rw [this] at h2
      cases h2
    refine ⟨fun j b hj hlt => ?_, fun j j' b hj hj' => ?_⟩
    · cases j with
      | zero =>
        simp only [List.getElem?_cons_zero, Option.some.injEq] at hj
        subst hj
        rcases h1 with h1 | h1
        · have := Nat.le_of_ble_eq_true h1; omega
        · omega
      | succ j => have := g1 j b (by simpa using hj) (by omega); omega
    · cases j with
      | zero =>
        simp only [List.getElem?_cons_zero, Option.some.injEq] at hj
        subst hj
        cases j' with
        | zero => rfl
        | succ j' => exact absurd (by simpa using hj') (hnot j')
      | succ j =>
        cases j' with
        | zero =>
          simp only [List.getElem?_cons_zero, Option.some.injEq] at hj'
          subst hj'
          exact absurd (by simpa using hj) (hnot j)
        | succ j' => rw [g2 j j' b (by simpa using hj) (by simpa using hj')]

def pickM (n : Nat) (ρ : List Nat) (fl : List Bool) (m : List (Nat × Nat)) (t : List V) (s : List Cell) : Option (List V × List Cell) :=
  if Nat.ble n ρ.length && preB n 0 ρ && marksIn ρ 0 s then
    match pickV ρ m 0 t, mapO' ρ s ρ fl with
    | some t', some s' => some (t', s')
    | _, _ => none
  else none
where
  mapO' (ρ : List Nat) (s : List Cell) : List Nat → List Bool → Option (List Cell)
    | [], _ => some []
    | c :: r, fl => match s[c]? with
      | some x => match (match fl with | true :: _ => renC ρ x | _ => some x), mapO' ρ s r fl.tail with
        | some x, some l => some (x :: l)
        | _, _ => none
      | none => none

theorem mapO'_get {ρ0 : List Nat} {s : List Cell} : ∀ {ρ : List Nat} {fl : List Bool} {s' : List Cell}, pickM.mapO' ρ0 s ρ fl = some s' → s'.length = ρ.length ∧
    ∀ (c' c : Nat), ρ[c']? = some c → ∃ cl cl', s[c]? = some cl ∧ s'[c']? = some cl' ∧ ((fl.getD c' false = false ∧ cl' = cl) ∨ renC ρ0 cl = some cl')
  | [], fl, s', h => by simp only [pickM.mapO', Option.some.injEq] at h; subst h; exact ⟨rfl, fun c' c h => by simp at h⟩
  | c0 :: r, fl, s', h => by
    simp only [pickM.mapO'] at h
    split at h <;> try (cases h; done)
    rename_i x h1
    split at h <;> try (cases h; done)
    rename_i y l h2 h3
    injection h with h
    subst h
    obtain ⟨g1, g2⟩ := mapO'_get h3
    refine ⟨by simp [g1], fun c' c hc => ?_⟩
    cases c' with
    | zero =>
      simp only [List.getElem?_cons_zero, Option.some.injEq] at hc
      subst hc
      refine ⟨x, y, h1, by simp, ?_⟩
      split at h2
      · exact .inr h2
      · rename_i hn
        injection h2 with h2
        refine .inl ⟨?_, h2.symm⟩
        match fl, hn with
        | [], _ => rfl
        | false :: _, _ => rfl
        | true :: q, hn => exact absurd rfl (hn q)
    | succ c' =>
      obtain ⟨cl, cl', e1, e2, e3⟩ := g2 c' c (by simpa using hc)
      refine ⟨cl, cl', e1, by simpa using e2, e3.imp (fun ⟨a, b⟩ => ⟨?_, b⟩) id⟩
      cases fl with
      | nil => rfl
      | cons b q => simpa using a

theorem renC_mut {ρ : List Nat} {cl cl' : Cell} (h : renC ρ cl = some cl') : ∃ z xs ys, cl = .row z xs ∧ cl' = .row z ys ∧ mapO (renV 5 ρ) xs = some ys := by
  cases cl <;> simp only [renC] at h
  case row z xs =>
    obtain ⟨ys, hy, rfl⟩ := Option.map_eq_some_iff.1 h
    exact ⟨z, xs, ys, rfl, rfl, hy⟩
  all_goals cases h

theorem renV_cells {d : Nat} {ρ : List Nat} {v u : V} (h : renV (d + 1) ρ v = some u) (hs : v.stores = true) : u.cells.length = v.cells.length ∧ ∀ j (h1 : j < v.cells.length) (h2 : j < u.cells.length), ∃ e, renV e ρ v.cells[j] = some u.cells[j] := by
  by_cases ha : ∃ xs, v = .agg xs
  · obtain ⟨xs, rfl⟩ := ha
    simp only [renV] at h
    obtain ⟨ys, hy, rfl⟩ := Option.map_eq_some_iff.1 h
    obtain ⟨g1, g2⟩ := mapO_get hy
    exact ⟨g1, fun j h1 h2 => ⟨d, g2 j h1 h2⟩⟩
  · have h1 : v.leaf = true := by cases v <;> first | exact absurd ⟨_, rfl⟩ ha | exact hs
    have h2 := (renV_leaf h).trans h1
    have one : ∀ u : V, u.leaf = true → u.cells = [u] := fun u hu => by cases u <;> first | rfl | cases hu
    have e1 := one _ h1
    have e2 := one _ h2
    refine ⟨by rw [e1, e2]; rfl, fun j g1 g2 => ⟨d + 1, ?_⟩⟩
    have hj : j = 0 := by rw [e1] at g1; simpa using g1
    subst hj
    simp only [e1, e2, List.getElem_cons_zero]
    exact h

theorem pickV_rel {w : World} {M M' : Nat → Prop} {β β' : Beta} {ρ : List Nat} (hM : ∀ b, M' b → M b) (hβ : ∀ (c c' : Nat) q, ρ[c']? = some c → β[c]? = some q → β'[c']? = some q) :
    ∀ {t : List V} {m : List (Nat × Nat)} {i : Nat} {u : List V}, pickV ρ m i t = some u → ∀ {xs : List Value}, RelL w M β t xs → RelL w M' β' u xs := by
  have cons : ∀ {v u : V} {l l' : List V} {xs : List Value}, RelL w M β (v :: l) xs → (∀ x, Rel w M β v x → Rel w M' β' u x) → (∀ xs, RelL w M β l xs → RelL w M' β' l' xs) → RelL w M' β' (u :: l') xs := by
    intro v u l l' xs h h1 h2
    match xs, h with
    | [], h => exact absurd h.1 (by simp)
    | x :: xs, h =>
      have ht := h2 xs ⟨by simpa using h.1, fun j hj y hy => h.2 (j + 1) (by simpa using hj) y (by simpa using hy)⟩
      refine ⟨by simpa using ht.1, fun j hj y hy => ?_⟩
      cases j with
      | zero => exact h1 y (h.2 0 (by simp) y (by simpa using hy))
      | succ j => exact ht.2 j (by simpa using hj) y (by simpa using hy)
  intro t
  induction t with
  | nil =>
    intro m i u h xs hr
    have : u = [] := by cases m <;> simpa [pickV] using h.symm
    subst this
    exact ⟨hr.1, fun j hj => by simp at hj⟩
  | cons v l ih =>
    intro m i u h xs hr
    cases m with
    | nil =>
      simp only [pickV] at h
      obtain ⟨r, h1, rfl⟩ := Option.map_eq_some_iff.1 h
      exact cons hr (fun x _ => .any x) (fun xs h => ih h1 h)
    | cons p m =>
      obtain ⟨j, z⟩ := p
      simp only [pickV] at h
      split at h
      · split at h <;> try (cases h; done)
        rename_i v' r e1 e2
        injection h with h
        subst h
        refine cons hr (fun x hx => renV_rel hM hβ e1 ?_) (fun xs h => ih e2 h)
        split
        · exact hx
        · exact czV_rel _ hx
      · obtain ⟨r, h1, rfl⟩ := Option.map_eq_some_iff.1 h
        exact cons hr (fun x _ => .any x) (fun xs h => ih h1 h)

theorem calm_map {β β' : Beta} {s s' : List Cell} {g : Nat → Nat} : ∀ {ds : List Deferred} {cs : List Nat}, Calm β s ds cs → (∀ c ∈ cs, s[c]? = some Cell.mark → s'[g c]? = some Cell.mark ∧ ∀ q, β[c]? = some q → β'[g c]? = some q) →
    (∀ c ∈ cs, ∀ c' ∈ cs, s[c]? = some Cell.mark → s[c']? = some Cell.mark → g c = g c' → c = c') → Calm β' s' ds (cs.map g)
  | [], [], _, _, _ => trivial
  | [], _ :: _, h, _, _ => h.elim
  | _ :: _, [], h, _, _ => h.elim
  | d :: ds, c :: cs, ⟨⟨r, q, h1, h2, h3⟩, h4, h5⟩, hg, hi => by
    have hmark : ∀ {ds : List Deferred} {cs : List Nat}, Calm β s ds cs → ∀ c ∈ cs, s[c]? = some Cell.mark := by
      intro ds
      induction ds with
      | nil => intro cs hc c hm; cases cs with | nil => cases hm | cons => exact hc.elim
      | cons d ds ih => intro cs hc c hm; cases cs with
        | nil => exact hc.elim
        | cons c' cs =>
          obtain ⟨⟨_, _, -, e2, -⟩, -, hcs⟩ := hc
          rcases List.mem_cons.1 hm with rfl | hm
          · exact e2
          · exact ih hcs c hm
    obtain ⟨g1, g2⟩ := hg c (by simp) h2
    refine ⟨⟨r, q, h1, g1, g2 _ h3⟩, ?_, calm_map h5 (fun c' hc' => hg c' (List.mem_cons_of_mem _ hc')) (fun a ha b hb => hi a (List.mem_cons_of_mem _ ha) b (List.mem_cons_of_mem _ hb))⟩
    intro hm
    obtain ⟨c', hc', he⟩ := List.mem_map.1 hm
    have := hi c' (List.mem_cons_of_mem _ hc') c (by simp) (hmark h5 c' hc') h2 he
    subst this
    exact h4 hc'

theorem calm_marks {β : Beta} {s : List Cell} : ∀ {ds : List Deferred} {cs : List Nat}, Calm β s ds cs → ∀ c ∈ cs, s[c]? = some Cell.mark := by
  intro ds
  induction ds with
  | nil => intro cs hc c hm; cases cs with | nil => cases hm | cons => exact hc.elim
  | cons d ds ih => intro cs hc c hm; cases cs with
    | nil => exact hc.elim
    | cons c' cs =>
      obtain ⟨⟨_, _, -, e2, -⟩, -, hcs⟩ := hc
      rcases List.mem_cons.1 hm with rfl | hm
      · exact e2
      · exact ih hcs c hm

theorem weak_pick {n : Nat} {t t' : List V} {s s' : List Cell} (ρ : List Nat) (fl : List Bool) (m : List (Nat × Nat)) (h : pickM n ρ fl m t s = some (t', s')) (hc : CloS fl s') (hb : Nat.ble G.base n = true) : Weak G n t s t' s' := by
  unfold pickM at h
  split at h <;> try (cases h; done)
  rename_i hcond
  split at h <;> try (cases h; done)
  rename_i t2 s2 ht hs'
  injection h with h
  injection h with h1 h2
  subst h1; subst h2
  simp only [Bool.and_eq_true] at hcond
  obtain ⟨⟨c1, c2⟩, c3⟩ := hcond
  have c1 := Nat.le_of_ble_eq_true c1
  obtain ⟨p1, p2⟩ := preB_get c2
  obtain ⟨l1, l2⟩ := mapO'_get hs'
  have hbase := Nat.le_of_ble_eq_true hb
  intro A w β a hs
  have hlen := hs.sr.len
  -- old places
  have old : ∀ {c' : Nat} {cl' : Cell}, s2[c']? = some cl' → ∃ c cl, ρ[c']? = some c ∧ s[c]? = some cl ∧ ((fl.getD c' false = false ∧ cl' = cl) ∨ renC ρ cl = some cl') := by
    intro c' cl' hcl
    have hlt := get_lt hcl
    have hρ : ρ[c']? = some (ρ[c']'(by omega)) := List.getElem?_eq_getElem (by omega)
    obtain ⟨cl, cl2, e1, e2, e3⟩ := l2 c' _ hρ
    rw [hcl] at e2
    injection e2 with e2
    subst e2
    exact ⟨_, cl, hρ, e1, e3⟩
  have omut : ∀ {c' : Nat} {cl cl' : Cell}, ((fl.getD c' false = false ∧ cl' = cl) ∨ renC ρ cl = some cl') → cl'.mutable = true → cl.mutable = true := by
    rintro c' cl cl' (⟨-, rfl⟩ | h) hm
    · exact hm
    · obtain ⟨z, xs, ys, rfl, rfl, -⟩ := renC_mut h; rfl
  have hρlt : ∀ {c' c : Nat}, ρ[c']? = some c → c < s.length := fun h => by
    obtain ⟨cl, cl', e1, -⟩ := l2 _ _ h
    exact get_lt e1
  obtain ⟨β', hβ'⟩ : ∃ β' : Beta, β' = ρ.map fun c => β.getD c default := ⟨_, rfl⟩
  have bl : β'.length = ρ.length := by rw [hβ']; simp
  have bto : ∀ (c c' : Nat) q, ρ[c']? = some c → β[c]? = some q → β'[c']? = some q := by
    intro c c' q h1 h2
    rw [hβ', List.getElem?_map, h1]
    simp [List.getD, h2]
  have bfrom : ∀ (c c' : Nat) q, ρ[c']? = some c → β'[c']? = some q → β[c]? = some q := by
    intro c c' q h1 h2
    have hlt := hρlt h1
    have : β[c]? = some (β[c]'(by omega)) := List.getElem?_eq_getElem (by omega)
    rw [bto c c' _ h1 this] at h2
    injection h2 with h2
    rw [this, h2]
  have mto : ∀ b, Mset β' s2 b → Mset β s b := by
    rintro b ⟨c', cl, q, h1, h2, h3⟩
    obtain ⟨c, cl0, e1, e2, e3⟩ := old h1
    exact ⟨c, cl0, q, e2, omut e3 h2, bfrom _ _ _ e1 h3⟩
  have hM : ∀ b, Mav A β' s2 b → Mav A β s b := fun b hb => hb.imp id (mto b)
  have hel : ∀ {b p z : Nat} {xs : List V}, (∀ v ∈ xs, Clo v) → ElemsAt w (Mav A β s) β b p z xs → ElemsAt w (Mav A β' s2) β' b p z xs := by
    intro b p z xs hx he i hi
    obtain ⟨e1, e2, e3⟩ := he i hi
    refine ⟨e1, e2, fun j hj => ?_⟩
    obtain ⟨x, h4, h5⟩ := e3 j hj
    exact ⟨x, h4, Clo.rel hM (List.all_eq_true.1 (hx _ (List.getElem_mem hi)) _ (List.getElem_mem hj)) h5⟩
  have hsr : SR G w A β' s2 := by
    refine ⟨by rw [bl, l1], hs.sr.glob.weaken fun b hb hb' => hb (hM b hb'), hs.sr.low, fun c' cl q h1 h2 => ?_, fun c1' c2' cl cl' b q q' h1 m1 h2 m2 b1 b2 => ?_⟩
    · obtain ⟨c, cl0, e1, e2, e3⟩ := old h1
      have hok := hs.sr.ok c cl0 q e2 (bfrom _ _ _ e1 h2)
      rcases e3 with ⟨hfl, rfl⟩ | e3
      · cases cl with
        | row z xs => obtain ⟨o1, o2, o3, o4⟩ := hok; exact ⟨o1, o2, hel (hc.get hfl (.inl h1)) o3, o4⟩
        | held z xs => obtain ⟨o1, o2, o3⟩ := hok; exact ⟨o1, hel (hc.get hfl (.inr h1)) o2, fun a b hm => o3 a b (hM _ hm)⟩
        | dead => trivial
        | iter z pos => exact hok
        | mark => exact hok
      · obtain ⟨z, xs, ys, rfl, rfl, hy⟩ := renC_mut e3
        obtain ⟨o1, o2, o3, o4⟩ := hok
        obtain ⟨g1, g2⟩ := mapO_get hy
        refine ⟨o1, by rw [g1]; exact o2, fun i hi => ?_, o4⟩
        obtain ⟨p1, p2, p3⟩ := o3 i (by omega)
        have hren := g2 i (by omega) hi
        obtain ⟨k1, k2⟩ := renV_cells hren p1
        refine ⟨renV_stores hren p1, by rw [k1, p2], fun j hj => ?_⟩
        obtain ⟨x, h4, h5⟩ := p3 j (by omega)
        obtain ⟨e, he⟩ := k2 j (by omega) hj
        exact ⟨x, h4, renV_rel hM bto he h5⟩
    · obtain ⟨d1, cl1, e1, f1, t1⟩ := old h1
      obtain ⟨d2, cl2, e2, f2, t2⟩ := old h2
      have := hs.sr.dist d1 d2 cl1 cl2 b q q' f1 (omut t1 m1) f2 (omut t2 m2) (bfrom _ _ _ e1 b1) (bfrom _ _ _ e2 b2)
      subst this
      exact p2 _ _ _ e1 e2
  have hpre : ∀ c : Nat, c < n → ρ[c]? = some c := fun c hcn => by
    have hlt : c < ρ.length := by omega
    have hg : ρ[c]? = some (ρ[c]'hlt) := List.getElem?_eq_getElem hlt
    have := p1 c _ hg (by omega)
    rw [hg, this]
    simp
  obtain ⟨cs, hcs, hbb⟩ := hs.calm
  have hmk : ∀ c : Nat, s[c]? = some Cell.mark → ∃ c', ρ[c']? = some c ∧ s2[c']? = some Cell.mark := fun c hm => by
    have hin := marksIn_get c3 hm
    rw [Nat.zero_add] at hin
    obtain ⟨c', hlt, he⟩ := mem_get hin
    have hg : ρ[c']? = some c := by rw [List.getElem?_eq_getElem hlt, he]
    obtain ⟨cl, cl', e1, e2, e3⟩ := l2 c' c hg
    rw [hm] at e1
    injection e1 with e1
    subst e1
    rcases e3 with ⟨-, rfl⟩ | e3
    · exact ⟨c', hg, e2⟩
    · obtain ⟨z, xs, ys, h0, -⟩ := renC_mut e3; cases h0
  refine ⟨β', ⟨hsr, pickV_rel hM bto ht hs.tmps, ?_⟩, ?_, by omega, mto, fun c hcn hm => ?_⟩
  · classical
    obtain ⟨g, hg⟩ : ∃ g : Nat → Nat, ∀ c, s[c]? = some Cell.mark → ρ[g c]? = some c ∧ s2[g c]? = some Cell.mark :=
      ⟨fun c => if h : s[c]? = some Cell.mark then Classical.choose (hmk c h) else 0, fun c h => by simp only [dif_pos h]; exact Classical.choose_spec (hmk c h)⟩
    refine ⟨cs.map g, calm_map hcs (fun c _ hm => ⟨(hg c hm).2, fun q hq => bto _ _ _ (hg c hm).1 hq⟩) (fun c _ c' _ hm hm' he => ?_), fun c' hc' => ?_⟩
    · have h1 := (hg c hm).1
      have h2 := (hg c' hm').1
      rw [he, h2] at h1
      injection h1 with h1
      exact h1.symm
    · obtain ⟨c, hcin, rfl⟩ := List.mem_map.1 hc'
      have h1 := (hg c (calm_marks hcs c hcin)).1
      rcases Nat.lt_or_ge (g c) G.base with hlt | hge
      · have h2 := hpre (g c) (by omega)
        rw [h2] at h1
        injection h1 with h1
        have := hbb c hcin
        omega
      · exact hge
  · apply List.ext_getElem?
    intro c
    rw [List.getElem?_take, List.getElem?_take]
    split
    · rename_i hcn
      have h1 := hpre c hcn
      have hlt := hρlt h1
      have : β[c]? = some (β[c]'(by omega)) := List.getElem?_eq_getElem (by omega)
      rw [this, bto c c _ h1 this]
    · rfl
  · obtain ⟨cl, cl', e1, e2, e3⟩ := l2 c c (hpre c hcn)
    rw [hm] at e1
    injection e1 with e1
    subst e1
    rcases e3 with ⟨-, rfl⟩ | e3
    · exact e2
    · obtain ⟨z, xs, ys, h0, -⟩ := renC_mut e3; cases h0

theorem go_pick {n : Nat} {R : Post} {k : List T} {t t' : List V} {s s' : List Cell} (ρ : List Nat) (fl : List Bool) (m : List (Nat × Nat)) (h : pickM n ρ fl m t s = some (t', s')) (hc : CloS fl s') (hb : Nat.ble G.base n = true) (hr : Run P G ro n R k t' s') : Run P G ro n R k t s :=
  go_weak (weak_pick ρ fl m h hc hb) hr

end
end Go.TL
