/-
  Tree land, part X: what is carried out holds of the program.
-/
import Derived.Test.YthhhejockehncaaGreatDoorTlW
set_option linter.all false
namespace Go.TL
open Go

section
variable {P : Program} {G : Globals} {ro : Option Nat}

/-- What the calls' table says is so. -/
structure ClOk (P : Program) (G : Globals) (cl : Cl) : Prop where
  pure : ∀ f vs r, cl.pure f vs = some r → Pure P (G.at 0) f vs r
  body : ∀ f vs σ v σ', cl.inl f = true → cl.body f vs σ = some (v, σ') → CallOk P (G.at 0) f vs σ (fun v' s => v' = v ∧ s = σ')

theorem mapO_mono {f g : V → Option V} (h : ∀ v u, f v = some u → g v = some u) : ∀ {l l' : List V}, mapO f l = some l' → mapO g l = some l'
  | [], l', e => e
  | v :: r, l', e => by
    simp only [mapO] at e ⊢
    split at e <;> try (cases e; done)
    rename_i x l h1 h2
    rw [h v x h1, mapO_mono h h2]
    exact e

theorem flatV_sub {σ σ' : List Cell} (hs : ∀ c p, rowOf σ' c = some p → rowOf σ c = some p) : ∀ {n : Nat} {v u : V}, flatV n σ' v = some u → flatV n σ v = some u
  | 0, v, u, h => by cases h
  | n + 1, v, u, h => by
    have ih : ∀ v u, flatV n σ' v = some u → flatV n σ v = some u := fun v u h => flatV_sub hs h
    have ihl : ∀ {l l' : List V}, mapO (flatV n σ') l = some l' → mapO (flatV n σ) l = some l' := fun h => mapO_mono ih h
    have mo : ∀ {α : Type} {x y : Option α} {g : α → V}, (∀ z, x = some z → y = some z) → x.map g = some u → y.map g = some u := by
      intro α x y g hxy hx
      cases x with
      | none => cases hx
      | some z => rw [hxy z rfl]; exact hx
    cases v <;> first | exact h | skip
    case osl c o k =>
      simp only [flatV] at h ⊢
      split at h <;> try (cases h; done)
      rename_i s xs hr
      rw [hs c _ hr]
      try simp only
      split at h <;> try (cases h; done)
      rename_i hk
      rw [if_pos hk]
      exact mo (fun z hz => ihl hz) h
    case ref c i o =>
      simp only [flatV] at h ⊢
      split at h <;> try (cases h; done)
      rename_i s xs hr
      rw [hs c _ hr]
      try simp only
      split at h <;> try (cases h; done)
      rename_i w hw
      try simp only [hw]
      exact mo (fun z hz => ih _ _ hz) h
    case fn f as bs =>
      simp only [flatV] at h ⊢
      split at h <;> try (cases h; done)
      rename_i x y h1 h2
      rw [ihl h1, ihl h2]
      exact h
    case ifc t w =>
      simp only [flatV] at h ⊢
      exact mo (fun z hz => ih _ _ hz) h
    case agg xs =>
      simp only [flatV] at h ⊢
      exact mo (fun z hz => ihl hz) h
    case tup xs =>
      simp only [flatV] at h ⊢
      exact mo (fun z hz => ihl hz) h

theorem rowOf_sealAt {σ : List Cell} {k c : Nat} {p : Nat × List V} (h : rowOf (sealAt σ k) c = some p) : rowOf σ c = some p := by
  unfold sealAt at h
  split at h
  · rename_i s xs hk
    by_cases e : k = c
    · subst e
      unfold rowOf at h ⊢
      rw [List.getElem?_set_self (get_lt hk)] at h
      rw [hk]
      exact h
    · unfold rowOf at h ⊢
      rw [List.getElem?_set_ne e] at h
      exact h
  · exact h

theorem rowOf_sealVs {c : Nat} {p : Nat × List V} : ∀ {n : Nat} {vs : List V} {σ : List Cell}, rowOf (sealVs n vs σ) c = some p → rowOf σ c = some p
  | 0, vs, σ, h => h
  | n + 1, [], σ, h => h
  | n + 1, v :: r, σ, h => by
    cases v <;> simp only [sealVs] at h <;> have h' := rowOf_sealVs h <;> first | exact h' | exact rowOf_sealAt h' | exact rowOf_sealVs h'

theorem rowOf_held {σ : List Cell} {c : Nat} {p : Nat × List V} (h : rowOf (heldOnly σ) c = some p) : rowOf σ c = some p := by
  obtain ⟨s, xs⟩ := p
  rcases rowOf_spec h with h1 | h1
  · rcases heldOnly_get h1 with h2 | ⟨_, _, h2, _⟩ <;> cases h2
  · rcases heldOnly_get h1 with h2 | ⟨_, _, h2, h3⟩
    · cases h2
    · cases h2
      unfold rowOf
      rw [h3]

theorem rowOf_nil {σ : List Cell} : ∀ (c : Nat) p, rowOf [] c = some p → rowOf σ c = some p := fun c p h => by simp [rowOf] at h

theorem callL_ok {cl : Cl} (hcl : ClOk P G cl) {d : Nat} {σ : List Cell} {f : FuncId} {vs : List V} {r : V} (h : callL cl d σ f vs = some r) : CallOk P (G.at 0) f vs σ (fun v s => v = r ∧ s = σ) := by
  unfold callL at h
  split at h <;> try (cases h; done)
  split at h <;> try (cases h; done)
  rename_i vs' hf
  split at h <;> try (cases h; done)
  rename_i r' hr
  have hp := hcl.pure _ _ _ hr
  split at h
  · rename_i hsc
    injection h with h
    subst h
    exact .scalar hp (flatL_ok hf) (scalB_ok hsc)
  · split at h <;> try (cases h; done)
    rename_i hcl'
    injection h with h
    subst h
    obtain ⟨u, hu⟩ := Option.isSome_iff_exists.1 hcl'
    have := mapO_mono (fun v w hw => flatV_sub (σ := σ) rowOf_nil hw) hu
    rw [hf] at this
    injection this with this
    subst this
    exact .closed hp (flatL_ok hu)

theorem callM_ok {cl : Cl} (hcl : ClOk P G cl) {d : Nat} {σ σ' : List Cell} {f : FuncId} {vs : List V} {r : V} (h : callM cl d σ f vs = some (r, σ')) : CallOk P (G.at 0) f vs σ (fun v s => v = r ∧ s = σ') := by
  unfold callM at h
  split at h
  · exact hcl.body _ _ _ _ _ ‹_› h
  split at h <;> try (cases h; done)
  rename_i vs' hf
  split at h <;> try (cases h; done)
  rename_i r' hr
  have hp := hcl.pure _ _ _ hr
  split at h
  · rename_i hsc
    injection h with h
    injection h with h1 h2
    subst h1; subst h2
    exact .scalar hp (flatL_ok hf) (scalB_ok hsc)
  split at h
  · rename_i hcl'
    injection h with h
    injection h with h1 h2
    subst h1; subst h2
    obtain ⟨u, hu⟩ := Option.isSome_iff_exists.1 hcl'
    have := mapO_mono (fun v w hw => flatV_sub (σ := σ) rowOf_nil hw) hu
    rw [hf] at this
    injection this with this
    subst this
    exact .closed hp (flatL_ok hu)
  split at h <;> try (cases h; done)
  rename_i hcl'
  injection h with h
  injection h with h1 h2
  subst h1; subst h2
  obtain ⟨u, hu⟩ := Option.isSome_iff_exists.1 hcl'
  have := mapO_mono (fun v w hw => flatV_sub (σ := σ) (fun c p hc => rowOf_sealVs (rowOf_held hc)) hw) hu
  rw [hf] at this
  injection this with this
  subst this
  exact .sealed d hp (flatL_ok hu)

theorem runK_ok {cl : Cl} (hcl : ClOk P G cl) {d : Nat} {tm : List V} {σ σ' : List Cell} {k : K} {v : V} (h : runK cl d G tm σ k = some (v, σ')) : vcK P G k tm σ (fun v' s => v' = v ∧ s = σ') := by
  cases k with
  | op q => exact ⟨v, σ', h, rfl, rfl⟩
  | call f args => exact callM_ok hcl h
  | dyn fv args =>
    simp only [runK] at h
    split at h <;> try (cases h; done)
    rename_i f as bs hfv
    exact ⟨f, as, bs, hfv, callM_ok hcl h⟩
  | bad => cases h

theorem vcK_mono {k : K} {tm : List V} {σ : List Cell} {R R' : V → List Cell → Prop} (h : vcK P G k tm σ R) (hr : ∀ v s, R v s → R' v s) : vcK P G k tm σ R' := by
  cases k with
  | op q => obtain ⟨v, s, h1, h2⟩ := h; exact ⟨v, s, h1, hr _ _ h2⟩
  | call f args => exact CallOk.mono h hr
  | dyn fv args => obtain ⟨f, as, bs, h1, h2⟩ := h; exact ⟨f, as, bs, h1, h2.mono hr⟩
  | bad => exact h

theorem runOps_ok {cl : Cl} (hcl : ClOk P G cl) {d : Nat} {t' : List V} {s' : List Cell} : ∀ {ps : List PO} {tm : List V} {σ : List Cell}, runOps cl d G ps tm σ = some (t', s') → vcOps P G ps tm σ (fun t s => t = t' ∧ s = s')
  | [], tm, σ, h => by
    simp only [runOps, Option.some.injEq, Prod.mk.injEq] at h
    exact h
  | o :: r, tm, σ, h => by
    simp only [runOps, fOn_eq] at h
    simp only [vcOps]
    split at h
    · rename_i hon
      split at h <;> try (cases h; done)
      rename_i v s2 hk
      rw [hon]
      have := runK_ok hcl hk
      refine vcK_mono this fun v' s'' hv => ?_
      obtain ⟨rfl, rfl⟩ := hv
      exact runOps_ok hcl h
    · rename_i hon
      rw [hon]
      exact runOps_ok hcl h
    · cases h

/-! ### regions whose order is drawn -/

/-- The operation, at the rows s. -/
def LRun (cl : Cl) (d : Nat) (G : Globals) (o : PO) (tm : List V) (v : V) (s : List Cell) : Prop :=
  match onG tm o.guard with
  | some true => runL cl d G tm s o.k = some v
  | some false => v = .tup []
  | none => False

theorem callL_grow {cl : Cl} {d : Nat} {σ : List Cell} {f : FuncId} {vs : List V} {r : V} (h : callL cl d σ f vs = some r) (l : List Cell) : callL cl d (σ ++ l) f vs = some r := by
  unfold callL at h ⊢
  split at h <;> try (cases h; done)
  rename_i hi
  rw [if_neg hi]
  split at h <;> try (cases h; done)
  rename_i vs' hf
  rw [mapO_mono (fun v w hw => flatV_sub (σ := σ ++ l) (fun c p hc => rowOf_grow hc l) hw) hf]
  exact h

theorem LRun.grow {cl : Cl} {d : Nat} {o : PO} (hl : o.k.heavy = false) {tm : List V} {v : V} {s : List Cell} (h : LRun cl d G o tm v s) (l : List Cell) : LRun cl d G o tm v (s ++ l) := by
  unfold LRun at h ⊢
  split at h
  · rename_i hon
    try simp only [hon]
    cases hk : o.k with
    | op q =>
      rw [hk] at h hl
      simp only [runL] at h ⊢
      cases he : evO G tm s q with
      | none => rw [he] at h; cases h
      | some p =>
        rw [he] at h
        obtain ⟨u, s'⟩ := p
        rw [(evO_light hl he).2 l]
        exact h
    | call f args => rw [hk] at h; exact callL_grow h l
    | dyn fv args =>
      rw [hk] at h
      simp only [runL] at h ⊢
      split at h <;> try (cases h; done)
      rename_i hfv
      try simp only [hfv]
      exact callL_grow h l
    | bad => rw [hk] at h; cases h
  · rename_i hon
    try simp only [hon]
    exact h
  · exact h.elim

theorem LRun.free {cl : Cl} {d : Nat} {o : PO} (hl : o.k.free = true) {tm : List V} {v : V} {s : List Cell} (h : LRun cl d G o tm v s) (s' : List Cell) : LRun cl d G o tm v s' := by
  unfold LRun at h ⊢
  split at h
  · rename_i hon
    try simp only [hon]
    cases hk : o.k with
    | op q =>
      rw [hk] at h hl
      simp only [runL] at h ⊢
      cases he : evO G tm s q with
      | none => rw [he] at h; cases h
      | some p =>
        rw [he] at h
        obtain ⟨u, s''⟩ := p
        rw [evO_free hl he s']
        exact h
    | call f args => rw [hk] at hl; cases hl
    | dyn fv args => rw [hk] at hl; cases hl
    | bad => rw [hk] at hl; cases hl
  · rename_i hon
    try simp only [hon]
    exact h
  · exact h.elim

theorem LRun.vcG {cl : Cl} (hcl : ClOk P G cl) {d : Nat} {o : PO} (hl : o.k.heavy = false) {tm : List V} {v : V} {s : List Cell} (h : LRun cl d G o tm v s) : vcG P G o tm s v s := by
  unfold LRun at h
  unfold TL.vcG
  split at h
  · rename_i hon
    try simp only [hon]
    cases hk : o.k with
    | op q =>
      rw [hk] at h hl
      simp only [runL] at h
      cases he : evO G tm s q with
      | none => rw [he] at h; cases h
      | some p =>
        rw [he] at h
        obtain ⟨u, s'⟩ := p
        simp only [Option.map_some, Option.some.injEq] at h
        subst h
        exact ⟨u, s', he, rfl, (evO_light hl he).1⟩
    | call f args => rw [hk] at h; exact callL_ok hcl h
    | dyn fv args =>
      rw [hk] at h
      simp only [runL] at h
      split at h <;> try (cases h; done)
      rename_i f as bs hfv
      exact ⟨f, as, bs, hfv, callL_ok hcl h⟩
    | bad => rw [hk] at h; cases h
  · rename_i hon
    try simp only [hon]
    exact ⟨h, trivial⟩
  · exact h.elim

theorem recheck_of {s : List Cell} {B : List Nat} : ∀ {dn : List Don} {n : Nat}, (∀ (i : Nat) d, dn[i]? = some d → d.o.k.heavy = false → n + i ∉ B → vcG P G d.o d.tm s d.v s) → recheck P G s B n dn
  | [], n, h => trivial
  | d :: r, n, h => by
    refine ⟨?_, recheck_of fun i e he hv hB => h (i + 1) e (by simpa using he) hv (by rwa [show n + (i + 1) = n + 1 + i by omega])⟩
    split
    · trivial
    · rename_i hc
      simp only [Bool.or_eq_true, List.contains_iff_mem, not_or] at hc
      exact h 0 d (by simp) (by simpa using hc.1) (by simpa using hc.2)

theorem lightAll_of {o : PO} {tm : List V} {v : V} : ∀ {l : List (List Cell)}, (∀ s ∈ l, vcG P G o tm s v s) → lightAll P G o tm v l
  | [], h => trivial
  | s :: r, h => ⟨h s (by simp), lightAll_of fun s hs => h s (by simp [hs])⟩

theorem allIn_get {B : List Nat} : ∀ {l : List Don} {n : Nat}, allIn n l B = true → ∀ (i : Nat) d, l[i]? = some d → n + i ∈ B ∨ d.o.k.free = true
  | [], n, _, i, d, h => by simp at h
  | x :: l, n, hr, i, d, h => by
    simp only [allIn, Bool.and_eq_true, Bool.or_eq_true, List.contains_iff_mem] at hr
    obtain ⟨h1, h2⟩ := hr
    cases i with
    | zero =>
      simp at h
      subst h
      simpa using h1
    | succ i => rw [show n + (i + 1) = n + 1 + i by omega]; exact allIn_get h2 i d (by simpa using h)

/-- What is so in the middle of such a region. -/
structure Mid (cl : Cl) (d : Nat) (G : Globals) (dn : List Don) (sg : List (List Cell)) (cur : List Cell) : Prop where
  some' : ∀ e ∈ dn, e.o.k.heavy = false → ∃ s, LRun cl d G e.o e.tm e.v s
  chain : onlyGrow dn = true → ∀ s ∈ sg ++ [cur], ∃ l, cur = s ++ l
  pre : onlyGrow dn = true → ∀ (t t' : Nat) s s', t ≤ t' → (sg ++ [cur])[t]? = some s → (sg ++ [cur])[t']? = some s' → ∃ l, s' = s ++ l
  now : onlyGrow dn = true → ∀ e ∈ dn, e.o.k.heavy = false → LRun cl d G e.o e.tm e.v cur

theorem onlyGrow_snoc {dn : List Don} {e : Don} : onlyGrow (dn ++ [e]) = true ↔ onlyGrow dn = true ∧ (e.o.k.heavy = false ∨ e.o.k.grows = true) := by
  simp only [onlyGrow, List.all_append, Bool.and_eq_true, List.all_cons, List.all_nil, Bool.and_true, Bool.or_eq_true, Bool.not_eq_true']

theorem Mid.heavy {cl : Cl} {d : Nat} {dn : List Don} {sg : List (List Cell)} {cur s' : List Cell} (h : Mid cl d G dn sg cur) {e : Don} (he : e.o.k.heavy = true) (hg : e.o.k.grows = true → ∃ l, s' = cur ++ l) : Mid cl d G (dn ++ [e]) (sg ++ [cur]) s' := by
  have hin : ∀ x ∈ dn ++ [e], x.o.k.heavy = false → x ∈ dn := by
    intro x hx hh
    rcases List.mem_append.1 hx with h1 | h1
    · exact h1
    · simp at h1
      subst h1
      rw [he] at hh
      cases hh
  have gr : onlyGrow (dn ++ [e]) = true → onlyGrow dn = true ∧ ∃ l, s' = cur ++ l := by
    intro h1
    obtain ⟨h2, h3⟩ := onlyGrow_snoc.1 h1
    refine ⟨h2, hg (h3.resolve_left ?_)⟩
    rw [he]
    simp
  refine ⟨fun x hx hh => h.some' x (hin x hx hh) hh, ?_, ?_, ?_⟩
  · intro h1 s hs
    obtain ⟨h2, l, rfl⟩ := gr h1
    rcases List.mem_append.1 hs with h3 | h3
    · obtain ⟨l', hl'⟩ := h.chain h2 s h3
      exact ⟨l' ++ l, by rw [← List.append_assoc, ← hl']⟩
    · simp at h3
      subst h3
      exact ⟨[], by simp⟩
  · intro h1 t t' s u htt hs hu
    obtain ⟨h2, l, rfl⟩ := gr h1
    rcases get_snoc hu with ⟨hu1, hu2⟩ | ⟨rfl, rfl⟩
    · rcases get_snoc hs with ⟨hs1, hs2⟩ | ⟨rfl, rfl⟩
      · exact h.pre h2 t t' s u htt hs1 hu1
      · omega
    · rcases get_snoc hs with ⟨hs1, hs2⟩ | ⟨rfl, rfl⟩
      · obtain ⟨l', hl'⟩ := h.chain h2 s (List.mem_of_getElem? hs1)
        exact ⟨l' ++ l, by rw [← List.append_assoc, ← hl']⟩
      · exact ⟨[], by simp⟩
  · intro h1 x hx hh
    obtain ⟨h2, l, rfl⟩ := gr h1
    exact (h.now h2 x (hin x hx hh) hh).grow hh l

theorem Mid.light {cl : Cl} {d : Nat} {dn : List Don} {sg : List (List Cell)} {cur : List Cell} (h : Mid cl d G dn sg cur) {e : Don} (he : e.o.k.heavy = false) (hr : LRun cl d G e.o e.tm e.v cur) : Mid cl d G (dn ++ [e]) sg cur := by
  have hin : ∀ x ∈ dn ++ [e], x ∈ dn ∨ x = e := by
    intro x hx
    rcases List.mem_append.1 hx with h1 | h1
    · exact .inl h1
    · simp at h1
      exact .inr h1
  refine ⟨?_, fun h1 => h.chain (onlyGrow_snoc.1 h1).1, fun h1 => h.pre (onlyGrow_snoc.1 h1).1, ?_⟩
  · intro x hx hh
    rcases hin x hx with h1 | rfl
    · exact h.some' x h1 hh
    · exact ⟨cur, hr⟩
  · intro h1 x hx hh
    rcases hin x hx with h2 | rfl
    · exact h.now (onlyGrow_snoc.1 h1).1 x h2 hh
    · exact hr

theorem heavy_not_free {k : K} (h : k.heavy = true) : k.free = false := by
  cases k with
  | op q => cases q <;> first | rfl | cases h
  | call f a => cases h
  | dyn f a => cases h
  | bad => cases h

theorem runD_ok {cl : Cl} (hcl : ClOk P G cl) {d : Nat} {tmM : Nat → List V} {dn' : List Don} {s' : List Cell} : ∀ {l : List (PO × List Nat)} {dn : List Don} {sg : List (List Cell)} {cur : List Cell}, Mid cl d G dn sg cur →
    runD cl d G tmM l dn sg cur = some (dn', s') → vcD P G tmM l dn sg cur (fun a b => a = dn' ∧ b = s')
  | [], dn, sg, cur, hm, h => by
    simp only [runD, Option.some.injEq, Prod.mk.injEq] at h
    exact h
  | (o, B) :: r, dn, sg, cur, hm, h => by
    simp only [runD, fSpine_eq, fV2_eq, fRows_eq] at h
    simp only [vcD]
    by_cases hv : o.k.heavy = true
    · rw [if_pos hv] at h ⊢
      split at h <;> try (cases h; done)
      rename_i hc
      simp only [Bool.and_eq_true, Bool.or_eq_true] at hc
      obtain ⟨hall, hc⟩ := hc
      have re : ∀ s2, (o.k.grows = true → ∃ l, s2 = cur ++ l) → recheck P G s2 B 0 dn := by
        intro s2 hg
        refine recheck_of fun i e he hl hB => ?_
        rcases hc with hc | ⟨hc1, hc2⟩
        · rcases allIn_get hc i e he with h1 | h1
          · exact absurd h1 hB
          · obtain ⟨s0, hs0⟩ := hm.some' e (List.mem_of_getElem? he) hl
            exact (hs0.free h1 s2).vcG hcl hl
        · obtain ⟨l, rfl⟩ := hg hc1
          exact ((hm.now hc2 e (List.mem_of_getElem? he) hl).grow hl l).vcG hcl hl
      split at h
      · rename_i hon
        split at h <;> try (cases h; done)
        rename_i v s2 hk
        have hg : o.k.grows = true → ∃ l, s2 = cur ++ l := by
          intro hg
          cases hko : o.k with
          | op q =>
            rw [hko] at hk hg
            exact evO_grows hg hk
          | call f a => rw [hko] at hg; cases hg
          | dyn f a => rw [hko] at hg; cases hg
          | bad => rw [hko] at hg; cases hg
        refine ⟨hall, v, s2, ?_, re s2 hg, runD_ok hcl (hm.heavy hv hg) h⟩
        simp only [vcG, hon]
        exact runK_ok hcl hk
      · rename_i hon
        refine ⟨hall, .tup [], cur, ?_, re cur (fun _ => ⟨[], by simp⟩), runD_ok hcl (hm.heavy hv (fun _ => ⟨[], by simp⟩)) h⟩
        simp only [vcG, hon]
        exact ⟨trivial, trivial⟩
      · cases h
    · have hv' : o.k.heavy = false := by simpa using hv
      rw [if_neg hv] at h ⊢
      split at h <;> try (cases h; done)
      rename_i hc
      simp only [Bool.or_eq_true, beq_iff_eq] at hc
      have fin : ∀ v, LRun cl d G o (seen 0 dn B (tmM dn.length)) v ((sg ++ [cur]).getD (lo 0 dn B) []) → LRun cl d G o (seen 0 dn B (tmM dn.length)) v cur ∧ lightAll P G o (seen 0 dn B (tmM dn.length)) v (sg.drop (lo 0 dn B)) := by
        intro v hr
        rcases hc with (hc | hc) | hc
        · rw [hc] at hr ⊢
          refine ⟨?_, by rw [List.drop_length]; trivial⟩
          simpa [List.getD] using hr
        · have base : ∀ s, (∃ t, lo 0 dn B ≤ t ∧ (sg ++ [cur])[t]? = some s) → LRun cl d G o (seen 0 dn B (tmM dn.length)) v s := by
            rintro s ⟨t, ht, hs⟩
            have hlt : lo 0 dn B < (sg ++ [cur]).length := Nat.lt_of_le_of_lt ht (get_lt hs)
            have h0 : (sg ++ [cur])[lo 0 dn B]? = some (sg ++ [cur])[lo 0 dn B] := List.getElem?_eq_getElem hlt
            obtain ⟨l, hl⟩ := hm.pre hc _ t _ s ht h0 hs
            have e : (sg ++ [cur]).getD (lo 0 dn B) [] = (sg ++ [cur])[lo 0 dn B] := by simp only [List.getD, h0, Option.getD_some]
            rw [e] at hr
            rw [hl]
            exact hr.grow hv' l
          refine ⟨?_, lightAll_of fun s hs => (base s ?_).vcG hcl hv'⟩
          · rcases Nat.lt_or_ge sg.length (lo 0 dn B) with hlt | hge
            · have e : (sg ++ [cur]).getD (lo 0 dn B) [] = [] := by simp only [List.getD]; rw [List.getElem?_eq_none (by simp; omega)]; rfl
              rw [e] at hr
              simpa using hr.grow hv' cur
            · exact base cur ⟨sg.length, hge, by simp⟩
          · obtain ⟨i, hi, hi2⟩ := List.mem_iff_getElem.1 hs
            simp at hi hi2
            refine ⟨lo 0 dn B + i, by omega, ?_⟩
            rw [List.getElem?_append_left (by omega), List.getElem?_eq_getElem (by omega), hi2]
        · exact ⟨hr.free hc cur, lightAll_of fun s _ => (hr.free hc s).vcG hcl hv'⟩
      split at h
      · rename_i hon
        split at h <;> try (cases h; done)
        rename_i v hk
        obtain ⟨f1, f2⟩ := fin v (by simp only [LRun, hon]; exact hk)
        exact ⟨v, f1.vcG hcl hv', f2, runD_ok hcl (hm.light hv' f1) h⟩
      · rename_i hon
        obtain ⟨f1, f2⟩ := fin (.tup []) (by simp only [LRun, hon])
        exact ⟨.tup [], f1.vcG hcl hv', f2, runD_ok hcl (hm.light hv' f1) h⟩
      · cases h

end
end Go.TL
