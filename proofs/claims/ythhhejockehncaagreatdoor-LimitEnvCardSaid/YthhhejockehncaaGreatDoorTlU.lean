/-
  Tree land, part U: regions whose order of evaluation is drawn.
-/
import Derived.Test.YthhhejockehncaaGreatDoorTlT
set_option linter.all false
namespace Go.TL
open Go

section
variable {P : Program} {G : Globals} {mo : Bool}

/-- Does the operation change the rows? -/
def K.heavy : K → Bool
  | .op (.box _) | .op (.new _) | .op (.row ..) | .op (.st ..) | .op (.make ..) | .op (.app ..) => true
  | _ => false

/-- One operation with its guard: v, and the rows are then s'. -/
def vcG (P : Program) (G : Globals) (o : PO) (tm : List V) (s : List Cell) (v : V) (s' : List Cell) : Prop :=
  match onG tm o.guard with
  | some true => vcK P G o.k tm s (fun v' s'' => v' = v ∧ s'' = s')
  | some false => v = .tup [] ∧ s' = s
  | none => False

/-- An operation that is done: the slots it saw, its value, and how many heavy ones stand ahead of it. -/
structure Don where
  o : PO
  b : List Nat
  tm : List V
  v : V
  lvl : Nat

def seen : Nat → List Don → List Nat → List V → List V
  | _, [], _, tm => tm
  | i, d :: r, B, tm => seen (i + 1) r B (if B.contains i then putV tm d.o.dst d.v else tm)

def lo : Nat → List Don → List Nat → Nat
  | _, [], _ => 0
  | i, d :: r, B => max (if d.o.k.heavy && B.contains i then d.lvl + 1 else 0) (lo (i + 1) r B)

def allHv : Nat → List Don → List Nat → Bool
  | _, [], _ => true
  | i, d :: r, B => (!d.o.k.heavy || B.contains i) && allHv (i + 1) r B

def recheck (P : Program) (G : Globals) (s : List Cell) (B : List Nat) : Nat → List Don → Prop
  | _, [] => True
  | i, d :: r => (if d.o.k.heavy || B.contains i then True else vcG P G d.o d.tm s d.v s) ∧ recheck P G s B (i + 1) r

def lightAll (P : Program) (G : Globals) (o : PO) (tm : List V) (v : V) : List (List Cell) → Prop
  | [] => True
  | s :: r => vcG P G o tm s v s ∧ lightAll P G o tm v r

/-- The operations one by one; 'sg': the rows ahead of all heavy ones, behind the first, and so on. -/
def vcD (P : Program) (G : Globals) (tmM : Nat → List V) : List (PO × List Nat) → List Don → List (List Cell) → List Cell → (List Don → List Cell → Prop) → Prop
  | [], dn, _, cur, R => R dn cur
  | (o, B) :: r, dn, sg, cur, R =>
    if o.k.heavy then allHv 0 dn B = true ∧ ∃ v s', vcG P G o (seen 0 dn B (tmM dn.length)) cur v s' ∧ recheck P G s' B 0 dn ∧ vcD P G tmM r (dn ++ [⟨o, B, seen 0 dn B (tmM dn.length), v, sg.length⟩]) (sg ++ [cur]) s' R
    else ∃ v, vcG P G o (seen 0 dn B (tmM dn.length)) cur v cur ∧ lightAll P G o (seen 0 dn B (tmM dn.length)) v (sg.drop (lo 0 dn B)) ∧ vcD P G tmM r (dn ++ [⟨o, B, seen 0 dn B (tmM dn.length), v, sg.length⟩]) sg cur R

/-- What is known of the slots ahead of operation i: not of those that another operation writes which need not come after it. -/
def maskFor (i : Nat) : List (PO × List Nat) → List V → List V
  | [], tm => tm
  | (o, B) :: r, tm => maskFor i r (match B.contains i with | true => tm | false => putV tm o.dst .any)

def fin : List Don → List V → List V
  | [], tm => tm
  | d :: r, tm => fin r (putV tm d.o.dst d.v)

def uni (a : List Nat) : List Nat → List Nat
  | [] => a
  | x :: r => uni (if a.contains x then a else a ++ [x]) r

/-- What must come before, directly or not. -/
def closeB : List (List Nat) → List (List Nat) → List (List Nat)
  | acc, [] => acc
  | acc, b :: r => closeB (acc ++ [b.foldl (fun s k => uni s (acc.getD k [])) b]) r

def nodupD : List (Option Nat) → Bool
  | [] => true
  | none :: r => nodupD r
  | some d :: r => !r.contains (some d) && nodupD r

/-- The plan of a region is in order. -/
def planOk (ps : List PO) (bs Bs : List (List Nat)) : Bool :=
  bs.length == ps.length && Bs.length == ps.length && nodupD (ps.map (·.dst)) &&
    (List.range ps.length).all fun i => (bs.getD i []).all (fun j => decide (j < i)) && (Bs.getD i []).all fun j => (bs.getD i []).contains j || (bs.getD i []).any fun k => (Bs.getD k []).contains j

theorem vcG_ok {ops : Array Oper} {o : Oper} {p : PO} (hp : prepPO mo P ops o = some p) {A : Nat → Prop} {w : World} {β : Beta} {σ : List Cell} {tm : List V} {a : Act} (hs : St G A w β σ tm a) {v : V} {s' : List Cell}
    (h : vcG P G p tm σ v s') {i : Nat} (hi : ops[i]? = some o) (Q : Exit → Act → World → Prop) {ro : Option Nat} {Kc : Act → World → Prop}
    (hK : ∀ x w' β', Rel w' (Mav A β' s') β' v x → SR G w' A β' s' → Ext w β σ w' β' s' → Kc (a.put p.dst x) w') : wpOpIn (FW ro) 0 P ops Q i Kc a w := by
  unfold prepPO at hp
  split at hp <;> try (cases hp; done)
  rename_i g hg
  injection hp with hp
  subst hp
  unfold wpOpIn
  simp only [hi]
  simp only [vcG] at h
  split at h
  · rename_i hon
    rw [onG_ok hg hs hon]
    simp only [if_true]
    obtain ⟨k, hk, hk'⟩ : ∃ k, prepK mo P o.op = some k ∧ vcK P G k tm σ (fun v' s'' => v' = v ∧ s'' = s') := by
      cases hk : prepK mo P o.op with
      | none => rw [hk] at h; exact h.elim
      | some k => rw [hk] at h; exact ⟨k, rfl, h⟩
    refine Oper.wpIn_mono ?_ (vcK_ok hk hs hk' Q)
    rintro a' w' ⟨x, v', σ', β', rfl, ⟨rfl, rfl⟩, h1, h2, h3⟩
    exact hK x w' β' h1 h2 h3
  · rename_i hon
    rw [onG_ok hg hs hon]
    simp only [Bool.false_eq_true, if_false]
    obtain ⟨rfl, rfl⟩ := h
    exact ⟨fun _ _ => trivial, hK undef w β undef_rel hs.sr (.refl _ _ _)⟩
  · exact h.elim

/-! ### what the plan gives -/

structure Tr (P : Program) (G : Globals) (tmM : Nat → List V) (dn : List Don) (sg : List (List Cell)) : Prop where
  tm : ∀ (i : Nat) d, dn[i]? = some d → d.tm = seen 0 (dn.take i) d.b (tmM i)
  lvl : ∀ (i : Nat) d, dn[i]? = some d → d.lvl < sg.length
  hord : ∀ (i h : Nat) d e, dn[i]? = some d → dn[h]? = some e → d.o.k.heavy = true → e.o.k.heavy = true → h < i → h ∈ d.b ∧ e.lvl < d.lvl
  onto : ∀ k, k + 1 < sg.length → ∃ (h : Nat) (e : Don), dn[h]? = some e ∧ e.o.k.heavy = true ∧ e.lvl = k
  onto' : ∀ (i : Nat) d, dn[i]? = some d → ∀ k, k < d.lvl → ∃ (h : Nat) (e : Don), h < i ∧ dn[h]? = some e ∧ e.o.k.heavy = true ∧ e.lvl = k
  heavy : ∀ (i : Nat) d, dn[i]? = some d → d.o.k.heavy = true → ∃ s s', sg[d.lvl]? = some s ∧ sg[d.lvl + 1]? = some s' ∧ vcG P G d.o d.tm s d.v s'
  light : ∀ (i : Nat) d, dn[i]? = some d → d.o.k.heavy = false → ∀ t s, sg[t]? = some s → lo 0 (dn.take i) d.b ≤ t → (∀ (h : Nat) e, dn[h]? = some e → e.o.k.heavy = true → e.lvl < t → i ∉ e.b) → vcG P G d.o d.tm s d.v s

theorem get_snoc {α : Type} {l : List α} {x y : α} {i : Nat} (h : (l ++ [x])[i]? = some y) : l[i]? = some y ∧ i < l.length ∨ i = l.length ∧ y = x := by
  rcases Nat.lt_trichotomy i l.length with hlt | heq | hgt
  · rw [List.getElem?_append_left hlt] at h
    exact .inl ⟨h, hlt⟩
  · subst heq
    simp at h
    exact .inr ⟨rfl, h.symm⟩
  · rw [List.getElem?_eq_none (by simp; omega)] at h
    cases h

theorem get_old {α : Type} {l : List α} {x y : α} {i : Nat} (h : l[i]? = some y) : (l ++ [x])[i]? = some y := by
  rw [List.getElem?_append_left (get_lt h)]
  exact h

theorem lightAll_get {o : PO} {tm : List V} {v : V} : ∀ {l : List (List Cell)} {n : Nat}, lightAll P G o tm v (l.drop n) → ∀ t s, l[t]? = some s → n ≤ t → vcG P G o tm s v s
  | [], n, _, t, s, ht, _ => by simp at ht
  | x :: l, 0, h, t, s, ht, hn => by
    obtain ⟨h1, h2⟩ := h
    cases t with
    | zero => simp at ht; subst ht; exact h1
    | succ t => exact lightAll_get (n := 0) h2 t s (by simpa using ht) (by omega)
  | x :: l, n + 1, h, t, s, ht, hn => by
    cases t with
    | zero => omega
    | succ t => exact lightAll_get (n := n) h t s (by simpa using ht) (by omega)

theorem recheck_get {s : List Cell} {B : List Nat} : ∀ {l : List Don} {n : Nat}, recheck P G s B n l → ∀ (i : Nat) d, l[i]? = some d → d.o.k.heavy = false → n + i ∉ B → vcG P G d.o d.tm s d.v s
  | [], n, _, i, d, h, _, _ => by simp at h
  | x :: l, n, hr, i, d, h, hd, hB => by
    obtain ⟨h1, h2⟩ := hr
    cases i with
    | zero =>
      simp at h
      subst h
      rw [if_neg (by simpa [hd] using hB)] at h1
      exact h1
    | succ i => exact recheck_get h2 i d (by simpa using h) hd (by rwa [show n + 1 + i = n + (i + 1) by omega])

theorem allHv_get {B : List Nat} : ∀ {l : List Don} {n : Nat}, allHv n l B = true → ∀ (i : Nat) d, l[i]? = some d → d.o.k.heavy = true → n + i ∈ B
  | [], n, _, i, d, h, _ => by simp at h
  | x :: l, n, hr, i, d, h, hd => by
    simp only [allHv, Bool.and_eq_true] at hr
    obtain ⟨h1, h2⟩ := hr
    cases i with
    | zero =>
      simp at h
      subst h
      simpa [hd] using h1
    | succ i => rw [show n + (i + 1) = n + 1 + i by omega]; exact allHv_get h2 i d (by simpa using h) hd

theorem lo_le {B : List Nat} {t : Nat} : ∀ {l : List Don} {n : Nat}, (∀ (i : Nat) d, l[i]? = some d → d.o.k.heavy = true → n + i ∈ B → d.lvl < t) → lo n l B ≤ t
  | [], n, _ => Nat.zero_le _
  | x :: l, n, h => by
    simp only [lo]
    refine Nat.max_le.2 ⟨?_, lo_le fun i d hd hv hB => h (i + 1) d (by simpa using hd) hv (by rwa [show n + (i + 1) = n + 1 + i by omega])⟩
    split
    · rename_i hc
      simp only [Bool.and_eq_true, List.contains_iff_mem] at hc
      exact h 0 x (by simp) hc.1 (by simpa using hc.2)
    · exact Nat.zero_le _

theorem seen_get {B : List Nat} {u : V} {s : Nat} : ∀ {l : List Don} {n : Nat} {tm : List V}, (seen n l B tm)[s]? = some u → tm[s]? = some u ∨ ∃ (i : Nat) (d : Don), l[i]? = some d ∧ n + i ∈ B ∧ d.o.dst = some s ∧ d.v = u
  | [], n, tm, h => .inl h
  | x :: l, n, tm, h => by
    simp only [seen] at h
    rcases seen_get h with h | ⟨i, d, h1, h2, h3⟩
    · split at h
      · rename_i hc
        rw [List.contains_iff_mem] at hc
        unfold putV at h
        split at h
        · rename_i d hd
          by_cases e : d = s
          · subst e
            by_cases hlt : d < tm.length
            · rw [List.getElem?_set_self hlt] at h
              injection h with h
              exact .inr ⟨0, x, by simp, by simpa using hc, hd, h⟩
            · rw [List.getElem?_eq_none (by simpa using hlt)] at h
              cases h
          · rw [List.getElem?_set_ne e] at h
            exact .inl h
        · exact .inl h
      · exact .inl h
    · exact .inr ⟨i + 1, d, by simpa using h1, by rwa [show n + (i + 1) = n + 1 + i by omega], h3⟩

theorem mask_get {u : V} {s k : Nat} : ∀ {l : List (PO × List Nat)} {tm : List V}, (maskFor k l tm)[s]? = some u → u = .any ∨ tm[s]? = some u ∧ ∀ p ∈ l, p.1.dst = some s → k ∈ p.2
  | [], tm, h => .inr ⟨h, by simp⟩
  | (o, B) :: l, tm, h => by
    simp only [maskFor] at h
    rcases mask_get h with h | ⟨h, h'⟩
    · exact .inl h
    · split at h
      · rename_i hB
        refine .inr ⟨h, fun o' ho' => ?_⟩
        rcases List.mem_cons.1 ho' with rfl | ho'
        · exact fun _ => List.contains_iff_mem.1 hB
        · exact h' o' ho'
      · unfold putV at h
        split at h
        · rename_i d hd
          by_cases e : d = s
          · subst e
            by_cases hlt : d < tm.length
            · rw [List.getElem?_set_self hlt] at h
              injection h with h
              exact .inl h.symm
            · rw [List.getElem?_eq_none (by simpa using hlt)] at h
              cases h
          · rw [List.getElem?_set_ne e] at h
            refine .inr ⟨h, fun o' ho' => ?_⟩
            rcases List.mem_cons.1 ho' with rfl | ho'
            · intro h2; simp only at h2; rw [hd] at h2; injection h2 with h2; exact absurd h2 e
            · exact h' o' ho'
        · rename_i hd
          refine .inr ⟨h, fun o' ho' => ?_⟩
          rcases List.mem_cons.1 ho' with rfl | ho'
          · intro h2; simp only at h2; rw [hd] at h2; cases h2
          · exact h' o' ho'

theorem fin_get {u : V} {s : Nat} : ∀ {l : List Don} {tm : List V}, (fin l tm)[s]? = some u → (∃ (i : Nat) (d : Don), l[i]? = some d ∧ d.o.dst = some s ∧ d.v = u) ∨ tm[s]? = some u ∧ ∀ d ∈ l, d.o.dst ≠ some s
  | [], tm, h => .inr ⟨h, by simp⟩
  | x :: l, tm, h => by
    simp only [fin] at h
    rcases fin_get h with ⟨i, d, h1, h2⟩ | ⟨h, h'⟩
    · exact .inl ⟨i + 1, d, by simpa using h1, h2⟩
    · unfold putV at h
      split at h
      · rename_i d hd
        by_cases e : d = s
        · subst e
          by_cases hlt : d < tm.length
          · rw [List.getElem?_set_self hlt] at h
            injection h with h
            exact .inl ⟨0, x, by simp, hd, h⟩
          · rw [List.getElem?_eq_none (by simpa using hlt)] at h
            cases h
        · rw [List.getElem?_set_ne e] at h
          refine .inr ⟨h, fun o' ho' => ?_⟩
          rcases List.mem_cons.1 ho' with rfl | ho'
          · rw [hd]; simpa using e
          · exact h' o' ho'
      · rename_i hd
        refine .inr ⟨h, fun o' ho' => ?_⟩
        rcases List.mem_cons.1 ho' with rfl | ho'
        · rw [hd]; simp
        · exact h' o' ho'

theorem put_len {tm : List V} {d : Option Nat} {v : V} : (putV tm d v).length = tm.length := by
  unfold putV
  split <;> simp
theorem seen_len {B : List Nat} : ∀ {l : List Don} {n : Nat} {tm : List V}, (seen n l B tm).length = tm.length
  | [], n, tm => rfl
  | x :: l, n, tm => by
    simp only [seen]
    rw [seen_len]
    split
    · exact put_len
    · rfl
theorem mask_len {i : Nat} : ∀ {l : List (PO × List Nat)} {tm : List V}, (maskFor i l tm).length = tm.length
  | [], tm => rfl
  | (o, B) :: l, tm => by
    simp only [maskFor]
    rw [mask_len]
    split
    · rfl
    · exact put_len
theorem fin_len : ∀ {l : List Don} {tm : List V}, (fin l tm).length = tm.length
  | [], tm => rfl
  | x :: l, tm => by simp only [fin]; rw [fin_len, put_len]

/-- The plan's trace. -/
theorem vcD_tr {tmM : Nat → List V} : ∀ {l : List (PO × List Nat)} {dn : List Don} {sg : List (List Cell)} {cur : List Cell} {R : List Don → List Cell → Prop}, Tr P G tmM dn (sg ++ [cur]) → vcD P G tmM l dn sg cur R →
    ∃ dn' sg' cur', Tr P G tmM dn' (sg' ++ [cur']) ∧ R dn' cur' ∧ (sg ++ [cur])[0]? = (sg' ++ [cur'])[0]? ∧ dn'.map (fun d => (d.o, d.b)) = dn.map (fun d => (d.o, d.b)) ++ l
  | [], dn, sg, cur, R, ht, h => ⟨dn, sg, cur, ht, h, rfl, by simp⟩
  | (o, B) :: r, dn, sg, cur, R, ht, h => by
    simp only [vcD] at h
    have tk : ∀ (x : Don) (i : Nat), i < dn.length → (dn ++ [x]).take i = dn.take i := fun x i hi => by rw [List.take_append_of_le_length (by omega)]
    have tk' : ∀ (x : Don), (dn ++ [x]).take dn.length = dn := fun x => by rw [List.take_append_of_le_length (by omega), List.take_length]
    split at h
    · rename_i hv
      obtain ⟨hall, v, s', hg, hre, hrest⟩ := h
      have ht' : Tr P G tmM (dn ++ [⟨o, B, seen 0 dn B (tmM dn.length), v, sg.length⟩]) ((sg ++ [cur]) ++ [s']) := by
        constructor
        · intro i d hd
          rcases get_snoc hd with ⟨h1, h2⟩ | ⟨rfl, rfl⟩
          · rw [tk _ _ h2]; exact ht.tm i d h1
          · rw [tk']
        · intro i d hd
          rcases get_snoc hd with ⟨h1, h2⟩ | ⟨rfl, rfl⟩
          · have := ht.lvl i d h1; simp at this ⊢; omega
          · simp
        · intro i h d e hd he hdv hev hlt
          rcases get_snoc hd with ⟨h1, h2⟩ | ⟨rfl, rfl⟩
          · rcases get_snoc he with ⟨h3, h4⟩ | ⟨rfl, rfl⟩
            · exact ht.hord i h d e h1 h3 hdv hev hlt
            · omega
          · rcases get_snoc he with ⟨h3, h4⟩ | ⟨rfl, rfl⟩
            · obtain ⟨_, _, _, hs2, _⟩ := ht.heavy h e h3 hev
              have := get_lt hs2
              simp at this
              exact ⟨by simpa using allHv_get hall h e h3 hev, this⟩
            · omega
        · intro k hk
          simp at hk
          rcases Nat.lt_or_ge (k + 1) (sg.length + 1) with hlt | hge
          · obtain ⟨h, e, h1, h2, h3⟩ := ht.onto k (by simpa using hlt)
            exact ⟨h, e, get_old h1, h2, h3⟩
          · exact ⟨dn.length, _, by simp; rfl, hv, by simp; omega⟩
        · intro i d hd k hk
          rcases get_snoc hd with ⟨h1, h2⟩ | ⟨rfl, rfl⟩
          · obtain ⟨h, e, q1, q2, q3⟩ := ht.onto' i d h1 k hk
            exact ⟨h, e, q1, get_old q2, q3⟩
          · obtain ⟨h, e, h1, h2, h3⟩ := ht.onto k (by simpa using hk)
            exact ⟨h, e, get_lt h1, get_old h1, h2, h3⟩
        · intro i d hd hdv
          rcases get_snoc hd with ⟨h1, h2⟩ | ⟨rfl, rfl⟩
          · obtain ⟨s, s2, q1, q2, q3⟩ := ht.heavy i d h1 hdv
            exact ⟨s, s2, get_old q1, get_old q2, q3⟩
          · exact ⟨cur, s', by simp, by simp, hg⟩
        · intro i d hd hdv t s hs hlo hcond
          rcases get_snoc hd with ⟨h1, h2⟩ | ⟨rfl, rfl⟩
          · rw [tk _ _ h2] at hlo
            rcases get_snoc hs with ⟨h3, h4⟩ | ⟨rfl, rfl⟩
            · exact ht.light i d h1 hdv t s h3 hlo (fun h e he hev hl => hcond h e (get_old he) hev hl)
            · have := hcond dn.length ⟨o, B, seen 0 dn B (tmM dn.length), v, sg.length⟩ (by simp) hv (by simp)
              exact recheck_get hre i d h1 hdv (by simpa using this)
          · simp only at hdv
            rw [hv] at hdv
            cases hdv
      obtain ⟨dn', sg', cur', r1, r2, r3, r4⟩ := vcD_tr ht' hrest
      refine ⟨dn', sg', cur', r1, r2, ?_, by rw [r4]; simp⟩
      rw [← r3]
      exact (List.getElem?_append_left (by simp)).symm
    · rename_i hv
      obtain ⟨v, hg, hall, hrest⟩ := h
      have hv' : o.k.heavy = false := by simpa using hv
      have ht' : Tr P G tmM (dn ++ [⟨o, B, seen 0 dn B (tmM dn.length), v, sg.length⟩]) (sg ++ [cur]) := by
        constructor
        · intro i d hd
          rcases get_snoc hd with ⟨h1, h2⟩ | ⟨rfl, rfl⟩
          · rw [tk _ _ h2]; exact ht.tm i d h1
          · rw [tk']
        · intro i d hd
          rcases get_snoc hd with ⟨h1, h2⟩ | ⟨rfl, rfl⟩
          · exact ht.lvl i d h1
          · simp
        · intro i h d e hd he hdv hev hlt
          rcases get_snoc hd with ⟨h1, h2⟩ | ⟨rfl, rfl⟩
          · rcases get_snoc he with ⟨h3, h4⟩ | ⟨rfl, rfl⟩
            · exact ht.hord i h d e h1 h3 hdv hev hlt
            · omega
          · simp only at hdv; rw [hv'] at hdv; cases hdv
        · intro k hk
          obtain ⟨h, e, h1, h2, h3⟩ := ht.onto k hk
          exact ⟨h, e, get_old h1, h2, h3⟩
        · intro i d hd k hk
          rcases get_snoc hd with ⟨h1, h2⟩ | ⟨rfl, rfl⟩
          · obtain ⟨h, e, q1, q2, q3⟩ := ht.onto' i d h1 k hk
            exact ⟨h, e, q1, get_old q2, q3⟩
          · obtain ⟨h, e, h1, h2, h3⟩ := ht.onto k (by simpa using hk)
            exact ⟨h, e, get_lt h1, get_old h1, h2, h3⟩
        · intro i d hd hdv
          rcases get_snoc hd with ⟨h1, h2⟩ | ⟨rfl, rfl⟩
          · exact ht.heavy i d h1 hdv
          · simp only at hdv; rw [hv'] at hdv; cases hdv
        · intro i d hd hdv t s hs hlo hcond
          rcases get_snoc hd with ⟨h1, h2⟩ | ⟨rfl, rfl⟩
          · rw [tk _ _ h2] at hlo
            exact ht.light i d h1 hdv t s hs hlo (fun h e he hev hl => hcond h e (get_old he) hev hl)
          · rw [tk'] at hlo
            rcases get_snoc hs with ⟨h3, h4⟩ | ⟨rfl, rfl⟩
            · exact lightAll_get hall t s h3 hlo
            · exact hg
      obtain ⟨dn', sg', cur', r1, r2, r3, r4⟩ := vcD_tr ht' hrest
      exact ⟨dn', sg', cur', r1, r2, r3, by rw [r4]; simp⟩

theorem prepPOs_len {ops : Array Oper} : ∀ {os : List Oper} {ps : List PO}, prepPOs mo P ops os = some ps → ps.length = os.length
  | [], ps, h => by simp only [prepPOs, Option.some.injEq] at h; subst h; rfl
  | o :: os, ps, h => by
    simp only [prepPOs] at h
    split at h <;> try (cases h; done)
    rename_i p r h1 h2
    injection h with h
    subst h
    simp [prepPOs_len h2]

theorem prepPOs_get {ops : Array Oper} : ∀ {os : List Oper} {ps : List PO}, prepPOs mo P ops os = some ps → ∀ (i : Nat) o, os[i]? = some o → ∃ p, ps[i]? = some p ∧ prepPO mo P ops o = some p
  | [], ps, h, i, o, ho => by simp at ho
  | x :: os, ps, h, i, o, ho => by
    simp only [prepPOs] at h
    split at h <;> try (cases h; done)
    rename_i p r h1 h2
    injection h with h
    subst h
    cases i with
    | zero => simp at ho; subst ho; exact ⟨p, by simp, h1⟩
    | succ i => obtain ⟨q, q1, q2⟩ := prepPOs_get h2 i o (by simpa using ho); exact ⟨q, by simpa using q1, q2⟩

theorem nodupD_spec : ∀ {l : List (Option Nat)}, nodupD l = true → ∀ (i j s : Nat), l[i]? = some (some s) → l[j]? = some (some s) → i = j
  | [], _, i, j, s, hi, _ => by simp at hi
  | none :: l, h, i, j, s, hi, hj => by
    cases i with
    | zero => simp at hi
    | succ i => cases j with
      | zero => simp at hj
      | succ j => rw [nodupD_spec (l := l) h i j s (by simpa using hi) (by simpa using hj)]
  | some d :: l, h, i, j, s, hi, hj => by
    simp only [nodupD, Bool.and_eq_true, Bool.not_eq_true'] at h
    have hmem : ∀ k : Nat, l[k]? = some (some s) → s ≠ d := fun k hk e => by
      subst e
      have := List.mem_of_getElem? hk
      rw [← List.contains_iff_mem] at this
      rw [this] at h
      exact absurd h.1 (by simp)
    cases i with
    | zero => cases j with
      | zero => rfl
      | succ j => simp at hi hj; exact absurd hi.symm (hmem j hj)
    | succ i => cases j with
      | zero => simp at hi hj; exact absurd hj.symm (hmem i hi)
      | succ j => rw [nodupD_spec (l := l) h.2 i j s (by simpa using hi) (by simpa using hj)]

theorem St.drew {A : Nat → Prop} {w : World} {β : Beta} {σ : List Cell} {tm : List V} {a : Act} (h : St G A w β σ tm a) : St G A { w with drawn := w.drawn + 1 } β σ tm a ∧ Ext w β σ { w with drawn := w.drawn + 1 } β σ := by
  obtain ⟨h1, h2⟩ := h.sr.grow ((RowKit.Below.refl w.heap.size w).drew)
  exact ⟨h.ext h2 h1, h2⟩

/-- What the frame's slots hold when the operations of L are done. -/
structure Half (G : Globals) (A : Nat → Prop) (w : World) (β : Beta) (σ : List Cell) (tm : List V) (dn : List Don) (L : Nat → Prop) (a : Act) : Prop where
  sr : SR G w A β σ
  calm : ∃ cs, Calm β σ a.defers cs ∧ ∀ c ∈ cs, G.base ≤ c
  len : a.tmps.toList.length = tm.length
  got : ∀ (i s : Nat) d x, L i → dn[i]? = some d → d.o.dst = some s → a.tmps.toList[s]? = some x → Rel w (Mav A β σ) β d.v x
  rest : ∀ (s : Nat) v x, (∀ (i : Nat) d, dn[i]? = some d → d.o.dst = some s → ¬ L i) → tm[s]? = some v → a.tmps.toList[s]? = some x → Rel w (Mav A β σ) β v x

theorem put_tmps {a : Act} {d : Option Nat} {x : Value} {s : Nat} {y : Value} (h : (a.put d x).tmps.toList[s]? = some y) : (d = some s ∧ y = x) ∨ (d ≠ some s ∧ a.tmps.toList[s]? = some y) := by
  cases d with
  | none => exact .inr ⟨by simp, h⟩
  | some d =>
    simp only [Act.put, Array.toList_setIfInBounds] at h
    by_cases e : d = s
    · subst e
      have hlt : d < a.tmps.toList.length := by
        have := get_lt h
        simpa using this
      rw [List.getElem?_set_self hlt] at h
      injection h with h
      exact .inl ⟨rfl, h.symm⟩
    · rw [List.getElem?_set_ne e] at h
      exact .inr ⟨by simpa using e, h⟩

theorem put_size {a : Act} {d : Option Nat} {x : Value} : (a.put d x).tmps.toList.length = a.tmps.toList.length := by
  cases d <;> simp [Act.put]

theorem put_defers {a : Act} {d : Option Nat} {x : Value} : (a.put d x).defers = a.defers := by
  cases d <;> rfl

/-- A region whose order is drawn. -/
theorem PGood.drawn {ps : List PO} {bs : List (List Nat)} (hm : P.follows .mixedOrders = true) (hplan : planOk ps bs (closeB [] bs) = true) {tm : List V} {σ : List Cell} {Q : Post} {ro : Option Nat}
    (h : vcD P G (fun i => maskFor i (ps.zip (closeB [] bs)) tm) (ps.zip (closeB [] bs)) [] [] σ (fun dn s => Q .normal (fin dn tm) s)) : PGood P G ro (.drawn ps bs) tm σ Q := by
  intro mo code hc
  obtain ⟨id, ops, rfl, hp, hbs⟩ := inv_drawn hc
  intro A w β a hs0
  obtain ⟨hs, hext0⟩ := hs0.drew
  refine wpIn_region_any hm ?_
  generalize hBs : closeB [] bs = Bs at *
  obtain ⟨dn, sg, cur, htr, hR, hzero, hmap⟩ := vcD_tr (dn := []) (sg := []) (cur := σ) ⟨by simp, by simp, by simp, by simp, by simp, by simp, by simp⟩ h
  simp only [planOk, Bool.and_eq_true, beq_iff_eq, List.all_eq_true, List.mem_range, decide_eq_true_eq, Bool.or_eq_true, List.any_eq_true, List.contains_iff_mem] at hplan
  obtain ⟨⟨⟨hl1, hl2⟩, hnd⟩, hpl⟩ := hplan
  simp only [List.map_nil, List.nil_append] at hmap
  have hn : ops.size = ps.length := by rw [prepPOs_len hp]; simp
  have hdn : dn.length = ps.length := by
    have := congrArg List.length hmap
    simp at this
    omega
  have hdo : ∀ (i : Nat) d, dn[i]? = some d → ps[i]? = some d.o ∧ Bs.getD i [] = d.b := by
    intro i d hd
    have h1 : (dn.map (fun d => (d.o, d.b)))[i]? = some (d.o, d.b) := by simp [hd]
    rw [hmap] at h1
    have h2 := List.getElem?_zip_eq_some.1 h1
    exact ⟨h2.1, by simp [List.getD, h2.2]⟩
  have hget : ∀ i : Nat, i < ops.size → ∃ o d, ops[i]? = some o ∧ dn[i]? = some d ∧ prepPO mo P ops o = some d.o := by
    intro i hi
    obtain ⟨p, q1, q2⟩ := prepPOs_get hp i ops[i] (by simp [hi])
    have hlt : i < dn.length := by omega
    refine ⟨ops[i], dn[i], by simp [hi], by simp [hlt], ?_⟩
    have := (hdo i dn[i] (by simp [hlt])).1
    rw [q1] at this
    injection this with this
    rw [← this]
    exact q2
  have hdst : ∀ (i j s : Nat) d e, dn[i]? = some d → dn[j]? = some e → d.o.dst = some s → e.o.dst = some s → i = j := by
    intro i j s d e hd he h1 h2
    exact nodupD_spec hnd i j s (by simp [(hdo i d hd).1, h1]) (by simp [(hdo j e he).1, h2])
  have hbB : ∀ (i : Nat) d, dn[i]? = some d → ∀ j ∈ d.b, j < i ∧ (j ∈ bs.getD i [] ∨ ∃ k ∈ bs.getD i [], ∃ e, dn[k]? = some e ∧ j ∈ e.b) := by
    intro i d hd j hj
    have hi : i < ps.length := by have := get_lt hd; omega
    induction i using Nat.strongRecOn generalizing d j with
    | _ i ih =>
    obtain ⟨p1, p2⟩ := hpl i hi
    rw [← (hdo i d hd).2] at hj
    rcases p2 j hj with q | ⟨k, k1, k2⟩
    · exact ⟨p1 j q, .inl q⟩
    · have hki := p1 k k1
      have hk : k < dn.length := by omega
      have hek : dn[k]? = some dn[k] := by simp [hk]
      rw [(hdo k _ hek).2] at k2
      have := (ih k hki dn[k] hek j k2 (by omega)).1
      exact ⟨by omega, .inr ⟨k, k1, dn[k], hek, k2⟩⟩
  have hsg0 : (sg ++ [cur])[0]? = some σ := by rw [← hzero]; simp
  -- the state, in the middle
  suffices key : ∀ (fuel : Nat) (listed : Array Bool) (a' : Act) (w' : World) (β' : Beta) (t : Nat) (s : List Cell), listed.size = ops.size → listed.toList.count false ≤ fuel →
      (∀ (i : Nat) d, dn[i]? = some d → listed[i]? = some true → ∀ j ∈ bs.getD i [], listed[j]? = some true) → (sg ++ [cur])[t]? = some s →
      (∀ (h : Nat) d, dn[h]? = some d → d.o.k.heavy = true → (listed[h]? = some true ↔ d.lvl < t)) →
      Half G A w' β' s tm dn (fun i => listed[i]? = some true) a' → Ext w β σ w' β' s →
      wpAnyIn (FW ro) 0 P .any ops (fun e a' w' => ∃ tm' σ' β', Q e tm' σ' ∧ St G A w' β' σ' tm' a' ∧ Ext w β σ w' β' σ') fuel listed a' w' by
    refine key ops.size _ a _ β 0 σ (by simp) ?_ ?_ hsg0 ?_ ⟨hs.sr, hs.calm, hs.tmps.1, ?_, ?_⟩ hext0
    · have := List.count_le_length (a := false) (l := (Array.replicate ops.size false).toList)
      simpa using this
    · intro i d _ hl
      simp [Array.getElem?_replicate] at hl
    · intro h d _ _
      constructor
      · intro hl; simp [Array.getElem?_replicate] at hl
      · intro hl; omega
    · intro i s d x hl
      simp [Array.getElem?_replicate] at hl
    · intro s v x _ hv hx
      have hlt := get_lt hv
      have := hs.tmps.2 s hlt x hx
      rw [List.getElem?_eq_getElem hlt] at hv
      injection hv with hv
      rw [← hv]
      exact this
  have hset : ∀ (listed : Array Bool) (i j : Nat), i < listed.size → ((listed.setIfInBounds i true)[j]? = some true ↔ j = i ∨ listed[j]? = some true) := by
    intro listed i j hi
    rw [Array.getElem?_setIfInBounds]
    by_cases e : i = j
    · subst e; simp [hi]
    · rw [if_neg e]
      constructor
      · exact .inr
      · rintro (rfl | h)
        · exact absurd rfl e
        · exact h
  have hafter : ∀ (i : Nat) o, ops[i]? = some o → bs.getD i [] = (o.after.toList.filter (Region.binds .any)).map (·.on) := by
    intro i o ho
    subst hbs
    have : ops.toList[i]? = some o := by simpa using ho
    simp [afters, List.getD, this]
  have hfinal : ∀ (listed : Array Bool) (a' : Act) (w' : World) (β' : Beta) (t : Nat) (s : List Cell), (∀ i : Nat, i < ops.size → listed[i]? = some true) → (sg ++ [cur])[t]? = some s →
      (∀ (h : Nat) d, dn[h]? = some d → d.o.k.heavy = true → (listed[h]? = some true ↔ d.lvl < t)) → Half G A w' β' s tm dn (fun i => listed[i]? = some true) a' → Ext w β σ w' β' s →
      ∃ tm' σ' β', Q .normal tm' σ' ∧ St G A w' β' σ' tm' a' ∧ Ext w β σ w' β' σ' := by
    intro listed a' w' β' t s hall hts hlv hh he
    have hts' : s = cur := by
      have hlt := get_lt hts
      simp at hlt
      rcases Nat.lt_or_ge t sg.length with hl | hl
      · obtain ⟨k, e, q1, q2, q3⟩ := htr.onto t (by simp; omega)
        have := (hlv k e q1 q2).1 (hall k (by have := get_lt q1; omega))
        omega
      · have : t = sg.length := by omega
        subst this
        simpa using hts.symm
    subst hts'
    refine ⟨_, _, β', hR, ⟨hh.sr, ⟨by rw [fin_len]; exact hh.len, fun j hj x hx => ?_⟩, hh.calm⟩, he⟩
    have hj' : (fin dn tm)[j]? = some (fin dn tm)[j] := by simp [hj]
    rcases fin_get hj' with ⟨i, d, q1, q2, q3⟩ | ⟨q1, q2⟩
    · rw [← q3]
      exact hh.got i j d x (hall i (by have := get_lt q1; omega)) q1 q2 hx
    · exact hh.rest j _ x (fun i d hd hdd _ => q2 d (List.mem_of_getElem? hd) hdd) q1 hx
  intro fuel
  induction fuel with
  | zero =>
    intro listed a' w' β' t s hsz hcnt hdc hts hlv hh he
    have hall : ∀ i : Nat, i < ops.size → listed[i]? = some true := by
      intro i hi
      have h0 : listed.toList.count false = 0 := by omega
      rw [List.count_eq_zero] at h0
      have hlt : i < listed.size := by omega
      rw [Array.getElem?_eq_getElem hlt]
      cases hv : listed[i] with
      | true => rfl
      | false => exact absurd (by rw [← hv]; simp) h0
    refine ⟨?_, hfinal listed a' w' β' t s hall hts hlv hh he⟩
    rw [List.eq_nil_iff_forall_not_mem]
    intro i hi
    rw [mem_ready] at hi
    obtain ⟨h1, o, ho, -⟩ := hi
    have hlt : i < ops.size := (Array.getElem?_eq_some_iff.1 ho).1
    have := hall i hlt
    simp [Array.getD_eq_getD_getElem?, this] at h1
  | succ fuel ih =>
    intro listed a' w' β' t s hsz hcnt hdc hts hlv hh he
    refine ⟨fun hr => ?_, fun i hi => ?_⟩
    · refine hfinal listed a' w' β' t s ?_ hts hlv hh he
      intro i
      induction i using Nat.strongRecOn with
      | _ i ihi =>
      intro hi
      obtain ⟨o, d, ho, hd, hpo⟩ := hget i hi
      have hlt : i < listed.size := by omega
      cases hv : listed[i] with
      | true => rw [Array.getElem?_eq_getElem hlt, hv]
      | false =>
        have hmem : i ∈ Region.ready .any ops listed := by
          rw [mem_ready]
          refine ⟨by simp [Array.getD_eq_getD_getElem?, hlt, hv], o, ho, fun e he hb => ?_⟩
          have hin : e.on ∈ bs.getD i [] := by
            rw [hafter i o ho]
            exact List.mem_map_of_mem (List.mem_filter.2 ⟨by simpa using he, hb⟩)
          have h1 := (hpl i (by omega)).1 e.on hin
          have := ihi e.on h1 (by omega)
          simp [Array.getD_eq_getD_getElem?, this]
        rw [hr] at hmem
        cases hmem
    · rw [mem_ready] at hi
      obtain ⟨hun, o, ho, haft⟩ := hi
      have hi : i < ops.size := (Array.getElem?_eq_some_iff.1 ho).1
      obtain ⟨o', d, ho', hd, hpo⟩ := hget i hi
      rw [ho] at ho'
      injection ho' with ho'
      subst ho'
      have hlt : i < listed.size := by omega
      have hnot : ¬ listed[i]? = some true := by
        intro h
        simp [Array.getD_eq_getD_getElem?, h] at hun
      have hfalse : listed[i] = false := by
        cases hv : listed[i] with
        | false => rfl
        | true => exact absurd (by rw [Array.getElem?_eq_getElem hlt, hv]) hnot
      have hbef : ∀ j ∈ bs.getD i [], listed[j]? = some true := by
        intro j hj
        rw [hafter i o ho] at hj
        obtain ⟨e, he1, rfl⟩ := List.mem_map.1 hj
        obtain ⟨he2, he3⟩ := List.mem_filter.1 he1
        have h1 := haft e (by simpa using he2) he3
        rw [Array.getD_eq_getD_getElem?] at h1
        cases hv : listed[e.on]? with
        | none => rw [hv] at h1; cases h1
        | some b => rw [hv] at h1; simp at h1; rw [h1]
      have hdeep : ∀ (k : Nat) e, dn[k]? = some e → listed[k]? = some true → ∀ j ∈ e.b, listed[j]? = some true := by
        intro k
        induction k using Nat.strongRecOn with
        | _ k ihk =>
        intro e hek hlk j hj
        obtain ⟨p1, p2⟩ := hbB k e hek j hj
        rcases p2 with q | ⟨m, m1, e', m2, m3⟩
        · exact hdc k e hek hlk j q
        · have hmk := (hpl k (by have := get_lt hek; omega)).1 m m1
          exact ihk m hmk e' m2 (hdc k e hek hlk m m1) j m3
      have hB : ∀ j ∈ d.b, listed[j]? = some true := by
        intro j hj
        obtain ⟨p1, p2⟩ := hbB i d hd j hj
        rcases p2 with q | ⟨m, m1, e', m2, m3⟩
        · exact hbef j q
        · exact hdeep m e' m2 (hbef m m1) j m3
      -- the state that the operation sees
      have hst : St G A w' β' s d.tm a' := by
        refine ⟨hh.sr, ⟨?_, fun j hj x hx => ?_⟩, hh.calm⟩
        · rw [htr.tm i d hd, seen_len, mask_len]; exact hh.len
        · obtain ⟨u, hu⟩ : ∃ u, d.tm[j] = u := ⟨_, rfl⟩
          rw [hu]
          have hj' : d.tm[j]? = some u := by simp [hj, hu]
          rw [htr.tm i d hd] at hj'
          rcases seen_get hj' with hj' | ⟨k, e, q1, q2, q3, q4⟩
          · rcases mask_get hj' with hj' | ⟨hj', hno⟩
            · rw [hj']
              exact .any _
            · refine hh.rest j _ x (fun k e hk hek hlk => ?_) hj' hx
              have hin : (e.o, e.b) ∈ ps.zip Bs := by
                rw [← hmap]
                exact List.mem_map.2 ⟨e, List.mem_of_getElem? hk, rfl⟩
              exact hnot (hdeep k e hk hlk i (hno _ hin hek))
          · have q1' : dn[k]? = some e := by
              rw [List.getElem?_take] at q1
              split at q1
              · exact q1
              · cases q1
            have := hh.got k j e x (hB k (by simpa using q2)) q1' q3 hx
            rw [q4] at this
            exact this
      -- on with the rest
      have onward : ∀ (t' : Nat) (s' : List Cell) (x : Value) (w2 : World) (β2 : Beta), (sg ++ [cur])[t']? = some s' →
          (∀ (h : Nat) e, dn[h]? = some e → e.o.k.heavy = true → ((listed.setIfInBounds i true)[h]? = some true ↔ e.lvl < t')) →
          Rel w2 (Mav A β2 s') β2 d.v x → SR G w2 A β2 s' → Ext w' β' s w2 β2 s' →
          wpAnyIn (FW ro) 0 P .any ops (fun e a' w' => ∃ tm' σ' β', Q e tm' σ' ∧ St G A w' β' σ' tm' a' ∧ Ext w β σ w' β' σ') fuel (listed.setIfInBounds i true) (a'.put d.o.dst x) w2 := by
        intro t' s' x w2 β2 hts' hlv' hrel hsr hext
        refine ih _ _ w2 β2 t' s' (by simpa using hsz) ?_ ?_ hts' hlv' ?_ (he.trans hext)
        · rw [Array.toList_setIfInBounds]
          have hl : i < listed.toList.length := by simpa using hlt
          have hfl : listed.toList[i] = false := by simpa using hfalse
          rw [List.count_set hl, hfl]
          simp only [beq_self_eq_true, if_true, Bool.true_beq, Bool.false_eq_true, if_false]
          simp
          simp at hcnt
          omega
        · intro k e hk hlk j hj
          rw [hset listed i _ hlt] at hlk ⊢
          rcases hlk with rfl | hlk
          · exact .inr (hbef j hj)
          · exact .inr (hdc k e hk hlk j hj)
        · obtain ⟨cs, hc1, hc2⟩ := hh.calm
          refine ⟨hsr, ⟨cs, by rw [put_defers]; exact hc1.ext hext, hc2⟩, by rw [put_size]; exact hh.len, ?_, ?_⟩
          · intro k sl e y hlk hk hek hy
            rw [hset listed i _ hlt] at hlk
            rcases put_tmps hy with ⟨h1, rfl⟩ | ⟨h1, h2⟩
            · have := hdst k i sl e d hk hd hek h1
              subst this
              rw [hd] at hk
              injection hk with hk
              subst hk
              exact hrel
            · rcases hlk with rfl | hlk
              · rw [hd] at hk
                injection hk with hk
                subst hk
                exact absurd hek h1
              · exact (hh.got k sl e y hlk hk hek h2).ext hext
          · intro sl v y hno hv hy
            rcases put_tmps hy with ⟨h1, rfl⟩ | ⟨h1, h2⟩
            · exact absurd ((hset listed i i hlt).2 (.inl rfl)) (hno i d hd h1)
            · exact (hh.rest sl v y (fun k e hk hek hl => hno k e hk hek ((hset listed i k hlt).2 (.inr hl))) hv h2).ext hext
      cases hhv : d.o.k.heavy with
      | true =>
        have hti : t = d.lvl := by
          have h1 : ¬ d.lvl < t := fun hl => hnot ((hlv i d hd hhv).2 hl)
          rcases Nat.lt_or_ge t d.lvl with hl | hl
          · obtain ⟨k, e, r1, r2, r3, r4⟩ := htr.onto' i d hd t hl
            have := (hlv k e r2 r3).1 (hB k (htr.hord i k d e hd r2 hhv r3 r1).1)
            omega
          · omega
        subst hti
        obtain ⟨s1, s', q1, q2, q3⟩ := htr.heavy i d hd hhv
        rw [hts] at q1
        injection q1 with q1
        subst q1
        refine vcG_ok hpo hst q3 ho _ (fun x w2 β2 r1 r2 r3 => onward (d.lvl + 1) s' x w2 β2 q2 ?_ r1 r2 r3)
        intro k e hk hek
        rw [hset listed i k hlt]
        constructor
        · rintro (rfl | hl)
          · rw [hd] at hk
            injection hk with hk
            subst hk
            omega
          · have := (hlv k e hk hek).1 hl
            omega
        · intro hl
          rcases Nat.lt_trichotomy k i with hki | hki | hki
          · exact .inr (hB k (htr.hord i k d e hd hk hhv hek hki).1)
          · exact .inl hki
          · have := (htr.hord k i e d hk hd hek hhv hki).2
            omega
      | false =>
        have q3 := htr.light i d hd hhv t s hts (lo_le fun k e hk hek hB' => by
            have hk' : dn[k]? = some e := by
              rw [List.getElem?_take] at hk
              split at hk
              · exact hk
              · cases hk
            exact (hlv k e hk' hek).1 (hB k (by simpa using hB'))) (fun k e hk hek hl hin => hnot (hdeep k e hk ((hlv k e hk hek).2 hl) i hin))
        refine vcG_ok hpo hst q3 ho _ (fun x w2 β2 r1 r2 r3 => onward t s x w2 β2 hts ?_ r1 r2 r3)
        intro k e hk hek
        rw [hset listed i k hlt, ← hlv k e hk hek]
        constructor
        · rintro (rfl | hl)
          · rw [hd] at hk
            injection hk with hk
            subst hk
            rw [hhv] at hek
            cases hek
          · exact hl
        · exact .inr

end
end Go.TL
