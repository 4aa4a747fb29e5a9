/-
  Tree land, part AE: many steps at once, where some answers are told and shown apart.
-/
import Derived.Test.YthhhejockehncaaGreatDoorTlAD
set_option linter.all false
namespace Go.TL
open Go

section
variable {P : Program} {G : Globals} {ro : Option Nat}

def subX (G : Globals) (t : List V) (x : Opd) : Opd := .c (ev G t x)

/-- The operation with its operands' values in their places. -/
def subO (G : Globals) (t : List V) : O → O
  | .mv x => .mv (subX G t x)
  | .pick c a b => .pick (subX G t c) (subX G t a) (subX G t b)
  | .box x => .box (subX G t x)
  | .new z => .new z
  | .build z ps => .build z (ps.map fun p => (p.1, p.2.1, subX G t p.2.2))
  | .row z n ps => .row z n (ps.map fun p => (p.1, subX G t p.2))
  | .lit z n ps => .lit z n (ps.map fun p => (p.1, subX G t p.2))
  | .ldA n a => .ldA n (subX G t a)
  | .ld1 a => .ld1 (subX G t a)
  | .st n a x => .st n (subX G t a) (subX G t x)
  | .nilck x => .nilck (subX G t x)
  | .bin op tk kc x y => .bin op tk kc (subX G t x) (subX G t y)
  | .un op x => .un op (subX G t x)
  | .cvI k x => .cvI k (subX G t x)
  | .cvS x => .cvS (subX G t x)
  | .ifc y x => .ifc y (subX G t x)
  | .fn f as bs => .fn f (as.map (subX G t)) (bs.map (subX G t))
  | .make z b l c => .make z b (subX G t l) (subX G t c)
  | .slc k x lo hi => .slc k (subX G t x) (lo.map (subX G t)) (hi.map (subX G t))
  | .clip x => .clip (subX G t x)
  | .fa o x => .fa o (subX G t x)
  | .fld n o x => .fld n o (subX G t x)
  | .ia s x i => .ia s (subX G t x) (subX G t i)
  | .iaa l s x i => .iaa l s (subX G t x) (subX G t i)
  | .ix x i => .ix (subX G t x) (subX G t i)
  | .ixA l n s x i => .ixA l n s (subX G t x) (subX G t i)
  | .ext i x => .ext i (subX G t x)
  | .len k x => .len k (subX G t x)
  | .app s b x y => .app s b (subX G t x) (subX G t y)
  | .ta y z ok x => .ta y z ok (subX G t x)
  | .max xs => .max (xs.map (subX G t))
  | .min xs => .min (xs.map (subX G t))

theorem evO_sub (t : List V) (s : List Cell) (q : O) : evO G [] s (subO G t q) = evO G t s q := by
  have e : ∀ x, ev G [] (subX G t x) = ev G t x := fun _ => rfl
  cases q
  case slc k x lo hi => cases lo <;> cases hi <;> simp only [subO, evO, e, Option.map_some, Option.map_none]
  all_goals simp only [subO, evO, e, List.map_map, Function.comp_def]

def subK (G : Globals) (t : List V) : K → K
  | .op q => .op (subO G t q)
  | .call f args => .call f (args.map (subX G t))
  | .dyn fv args => .dyn (subX G t fv) (args.map (subX G t))
  | .bad => .bad

theorem vcK_sub {t : List V} {s : List Cell} {k : K} {R : V → List Cell → Prop} (h : vcK P G (subK G t k) [] s R) : vcK P G k t s R := by
  cases k with
  | op q => simpa [subK, vcK, evO_sub] using h
  | call f args =>
    have e : (args.map (subX G t)).map (ev G []) = args.map (ev G t) := by rw [List.map_map]; rfl
    simp only [subK, vcK, e] at h
    exact h
  | dyn fv args =>
    have e : (args.map (subX G t)).map (ev G []) = args.map (ev G t) := by rw [List.map_map]; rfl
    simp only [subK, vcK, e] at h
    exact h
  | bad => exact h

theorem heavy_sub {t : List V} {k : K} : (subK G t k).heavy = k.heavy := by
  cases k with
  | op q => cases q <;> rfl
  | _ => rfl

/-- What is to be shown apart: 'w': from these rows it gives v and those rows; 'g': it gives v, and leaves the rows, also where there are more. -/
inductive Ob where
  | w (k : K) (s : List Cell) (v : V) (s' : List Cell)
  | g (k : K) (s : List Cell) (v : V)

def ObOk (P : Program) (G : Globals) : Ob → Prop
  | .w k s v s' => vcK P G k [] s (fun v' s2 => v' = v ∧ s2 = s')
  | .g k s v => ∀ l, vcK P G k [] (s ++ l) (fun v' s2 => v' = v ∧ s2 = s ++ l)

def ObsOk (P : Program) (G : Globals) : List Ob → Prop
  | [] => True
  | o :: r => ObOk P G o ∧ ObsOk P G r

theorem ObsOk.mem {o : Ob} : ∀ {l : List Ob}, ObsOk P G l → o ∈ l → ObOk P G o
  | _ :: _, h, hm => by
    rcases List.mem_cons.1 hm with rfl | hm
    · exact h.1
    · exact ObsOk.mem h.2 hm

abbrev Orc := List (Nat × V × Option (List Cell))

def hit (i : Nat) : Orc → Option (V × Option (List Cell))
  | [] => none
  | (j, p) :: _ => match j == i with
    | true => some p
    | false => none
def rest (i : Nat) : Orc → Orc
  | [] => []
  | (j, p) :: l => match j == i with
    | true => l
    | false => (j, p) :: l

/-! ### regions whose order is drawn -/

structure DX where
  acc : List Ob
  dn : List Don
  fr : List Bool
  cur : List Cell
  orc : Orc
  i : Nat

def allIn' : Nat → List Don → List Bool → List Nat → Bool
  | _, [], _, _ => true
  | i, d :: r, f, B => (d.o.k.heavy || B.contains i || f.headD false) && allIn' (i + 1) r f.tail B

/-- The value of an operation that is not heavy, and what is to be shown. -/
def litX (G : Globals) (tm : List V) (cur : List Cell) (k : K) (h : Option (V × Option (List Cell))) : Option (V × Option Ob) :=
  match h with
  | some (v, _) => some (v, some (.g (subK G tm k) cur v))
  | none => match k with
    | .op q => match evO G tm cur q with
      | some (v, _) => some (v, none)
      | none => none
    | _ => none

def hvyX (G : Globals) (tm : List V) (cur : List Cell) (k : K) (h : Option (V × Option (List Cell))) : Option (V × List Cell × Option Ob) :=
  match h with
  | some (v, s) => some (v, s.getD cur, some (.w (subK G tm k) cur v (s.getD cur)))
  | none => match k with
    | .op q => match evO G tm cur q with
      | some (v, s) => some (v, s, none)
      | none => none
    | _ => none

def pushO (o : Option Ob) (acc : List Ob) : List Ob := match o with
  | some o => o :: acc
  | none => acc

def runDX (G : Globals) (tmM : Nat → List V) : List (PO × List Nat) → Bool → List (List Cell) → DX → Option DX
  | [], _, _, x => some x
  | (o, B) :: r, fl, sg, x =>
    fSpine (seen 0 x.dn B (tmM x.dn.length)) fun tm =>
    if o.k.heavy then
      if allHv 0 x.dn B then
        match onG tm o.guard with
        | some true => match hvyX G tm x.cur o.k (hit x.i x.orc) with
          | some (v, s', ob) => match allIn' 0 x.dn x.fr B with
            | true => fHd v fun v => fList fRow s' fun s' => runDX G tmM r false (sg ++ [x.cur]) ⟨pushO ob x.acc, x.dn ++ [⟨o, B, tm, v, sg.length⟩], x.fr ++ [false], s', rest x.i x.orc, x.i + 1⟩
            | false => match fl && o.k.grows && (hit x.i x.orc).isNone with
              | true => fHd v fun v => fList fRow s' fun s' => runDX G tmM r true (sg ++ [x.cur]) ⟨pushO ob x.acc, x.dn ++ [⟨o, B, tm, v, sg.length⟩], x.fr ++ [false], s', rest x.i x.orc, x.i + 1⟩
              | false => none
          | none => none
        | some false => match allIn' 0 x.dn x.fr B with
          | true => runDX G tmM r false (sg ++ [x.cur]) ⟨x.acc, x.dn ++ [⟨o, B, tm, .tup [], sg.length⟩], x.fr ++ [false], x.cur, x.orc, x.i + 1⟩
          | false => none
        | none => none
      else none
    else
      if lo 0 x.dn B == sg.length || o.k.free || sg.isEmpty then
        match onG tm o.guard with
        | some true => match litX G tm x.cur o.k (hit x.i x.orc) with
          | some (v, ob) => match o.k.free && ob.isSome && !(lo 0 x.dn B == sg.length) with
            | true => none
            | false => fHd v fun v => runDX G tmM r fl sg ⟨pushO ob x.acc, x.dn ++ [⟨o, B, tm, v, sg.length⟩], x.fr ++ [o.k.free && ob.isNone], x.cur, rest x.i x.orc, x.i + 1⟩
          | none => none
        | some false => runDX G tmM r fl sg ⟨x.acc, x.dn ++ [⟨o, B, tm, .tup [], sg.length⟩], x.fr ++ [true], x.cur, x.orc, x.i + 1⟩
        | none => none
      else none

def LS (P : Program) (G : Globals) (o : PO) (tm : List V) (v : V) (s : List Cell) : Prop := ∀ l, vcG P G o tm (s ++ l) v (s ++ l)

theorem vcG_on {o : PO} {tm : List V} {s s' : List Cell} {v : V} (hg : onG tm o.guard = some true) (h : vcK P G o.k tm s (fun v' s2 => v' = v ∧ s2 = s')) : vcG P G o tm s v s' := by
  unfold vcG; rw [hg]; exact h
theorem vcG_off {o : PO} {tm : List V} {s : List Cell} (hg : onG tm o.guard = some false) : vcG P G o tm s (.tup []) s := by
  unfold vcG; rw [hg]; exact ⟨rfl, rfl⟩

theorem litX_ok {o : PO} {tm : List V} {cur : List Cell} {h : Option (V × Option (List Cell))} {v : V} {ob : Option Ob} (hx : litX G tm cur o.k h = some (v, ob)) (hl : o.k.heavy = false) (hg : onG tm o.guard = some true) (hob : ∀ x, ob = some x → ObOk P G x) :
    LS P G o tm v cur ∧ (o.k.free = true → ob = none → ∀ s, vcG P G o tm s v s) := by
  unfold litX at hx
  split at hx
  · injection hx with hx
    injection hx with h1 h2
    subst h1; subst h2
    refine ⟨fun l => vcG_on hg (vcK_sub (hob _ rfl l)), fun _ h => by cases h⟩
  · split at hx <;> try (cases hx; done)
    rename_i q hk
    split at hx <;> try (cases hx; done)
    rename_i v0 s0 he
    injection hx with hx
    injection hx with h1 h2
    subst h1; subst h2
    rw [hk] at hl
    obtain ⟨e1, e2⟩ := evO_light hl he
    refine ⟨fun l => vcG_on hg (by rw [hk]; exact ⟨_, _, e2 l, rfl, rfl⟩), fun hf _ s => vcG_on hg (by rw [hk]; rw [hk] at hf; exact ⟨_, _, evO_free hf he s, rfl, rfl⟩)⟩

theorem hvyX_ok {o : PO} {tm : List V} {cur : List Cell} {h : Option (V × Option (List Cell))} {v : V} {s' : List Cell} {ob : Option Ob} (hx : hvyX G tm cur o.k h = some (v, s', ob)) (hg : onG tm o.guard = some true) (hob : ∀ x, ob = some x → ObOk P G x) :
    vcG P G o tm cur v s' ∧ (h = none → o.k.grows = true → ∃ l, s' = cur ++ l) := by
  unfold hvyX at hx
  split at hx
  · injection hx with hx
    injection hx with h1 h2
    injection h2 with h2 h3
    subst h1; subst h2; subst h3
    exact ⟨vcG_on hg (vcK_sub (hob _ rfl)), fun h => by cases h⟩
  · split at hx <;> try (cases hx; done)
    rename_i q hk
    split at hx <;> try (cases hx; done)
    rename_i v0 s0 he
    injection hx with hx
    injection hx with h1 h2
    injection h2 with h2 h3
    subst h1; subst h2; subst h3
    refine ⟨vcG_on hg (by rw [hk]; exact ⟨_, _, he, rfl, rfl⟩), fun _ hgr => ?_⟩
    rw [hk] at hgr
    exact evO_grows hgr he

theorem runDX_acc {tmM : Nat → List V} : ∀ {l : List (PO × List Nat)} {fl : Bool} {sg : List (List Cell)} {x y : DX}, runDX G tmM l fl sg x = some y → ∀ o ∈ x.acc, o ∈ y.acc := by
  intro l
  induction l with
  | nil => intro fl sg x y h o ho; simp only [runDX, Option.some.injEq] at h; subst h; exact ho
  | cons p r ih =>
    intro fl sg x y h o ho
    obtain ⟨po, B⟩ := p
    have hp : ∀ ob : Option Ob, o ∈ pushO ob x.acc := fun ob => by cases ob <;> simp [pushO, ho]
    simp only [runDX, fSpine_eq] at h
    split at h
    · split at h <;> try (cases h; done)
      split at h <;> try (cases h; done)
      · split at h <;> try (cases h; done)
        split at h
        · rw [fHd_eq, fList_eq _ fRow_eq] at h; exact ih h o (hp _)
        · split at h <;> try (cases h; done)
          rw [fHd_eq, fList_eq _ fRow_eq] at h; exact ih h o (hp _)
      · split at h <;> try (cases h; done)
        exact ih h o ho
    · split at h <;> try (cases h; done)
      split at h <;> try (cases h; done)
      · split at h <;> try (cases h; done)
        split at h <;> try (cases h; done)
        rw [fHd_eq] at h; exact ih h o (hp _)
      · exact ih h o ho

/-- Those marked keep their values on any rows. -/
def FrOk (P : Program) (G : Globals) : List Don → List Bool → Prop
  | [], _ => True
  | d :: r, f => (f.headD false = true → ∀ s, vcG P G d.o d.tm s d.v s) ∧ FrOk P G r f.tail

theorem FrOk.snoc {d : Don} {b : Bool} (hb : b = true → ∀ s, vcG P G d.o d.tm s d.v s) : ∀ {dn : List Don} {f : List Bool}, f.length = dn.length → FrOk P G dn f → FrOk P G (dn ++ [d]) (f ++ [b])
  | [], [], _, _ => ⟨hb, trivial⟩
  | [], _ :: _, hl, _ => by simp at hl
  | _ :: _, [], hl, _ => by simp at hl
  | e :: r, c :: f, hl, h => ⟨h.1, FrOk.snoc hb (by simpa using hl) h.2⟩

theorem recheck_all {s : List Cell} {B : List Nat} : ∀ {dn : List Don} {f : List Bool} {n : Nat}, allIn' n dn f B = true → FrOk P G dn f → recheck P G s B n dn
  | [], _, _, _, _ => trivial
  | d :: r, f, n, h, hf => by
    simp only [allIn', Bool.and_eq_true, Bool.or_eq_true] at h
    refine ⟨?_, recheck_all h.2 hf.2⟩
    split
    · trivial
    · rename_i hn
      simp only [Bool.or_eq_true, not_or] at hn
      rcases h.1 with (h1 | h1) | h1
      · exact absurd h1 hn.1
      · exact absurd h1 hn.2
      · exact hf.1 h1 s

theorem recheck_grow {s l : List Cell} {B : List Nat} : ∀ {dn : List Don} {n : Nat}, (∀ d ∈ dn, d.o.k.heavy = false → LS P G d.o d.tm d.v s) → recheck P G (s ++ l) B n dn
  | [], _, _ => trivial
  | d :: r, n, h => by
    refine ⟨?_, recheck_grow (fun d hd => h d (List.mem_cons_of_mem _ hd))⟩
    split
    · trivial
    · rename_i hn
      simp only [Bool.or_eq_true, not_or] at hn
      exact h d (by simp) (by simpa using hn.1) l

theorem lightAll_nil {o : PO} {tm : List V} {v : V} {n : Nat} {sg : List (List Cell)} (h : n = sg.length ∨ sg = []) : lightAll P G o tm v (sg.drop n) := by
  rcases h with rfl | rfl
  · rw [List.drop_length]; trivial
  · simp [lightAll]
theorem lightAll_free {o : PO} {tm : List V} {v : V} (h : ∀ s, vcG P G o tm s v s) : ∀ {l : List (List Cell)}, lightAll P G o tm v l
  | [] => trivial
  | _ :: _ => ⟨h _, lightAll_free h⟩

theorem runDX_ok {tmM : Nat → List V} {R : List Don → List Cell → Prop} : ∀ {l : List (PO × List Nat)} {fl : Bool} {sg : List (List Cell)} {x y : DX}, runDX G tmM l fl sg x = some y → (∀ o ∈ y.acc, ObOk P G o) →
    (fl = true → ∀ d ∈ x.dn, d.o.k.heavy = false → LS P G d.o d.tm d.v x.cur) → x.fr.length = x.dn.length → FrOk P G x.dn x.fr → R y.dn y.cur → vcD P G tmM l x.dn sg x.cur R := by
  intro l
  induction l with
  | nil => intro fl sg x y h _ _ _ _ hr; simp only [runDX, Option.some.injEq] at h; subst h; exact hr
  | cons p r ih =>
    intro fl sg x y h hob hls hfl hfr hr
    have hlen : ∀ {d : Don} {b : Bool}, (x.fr ++ [b]).length = (x.dn ++ [d]).length := fun {d b} => by simp [hfl]
    have nof : ∀ {d : Don}, FrOk P G (x.dn ++ [d]) (x.fr ++ [false]) := fun {d} => FrOk.snoc (fun h => by cases h) hfl hfr
    obtain ⟨o, B⟩ := p
    have hsome : ∀ {ob : Option Ob}, (∀ a ∈ pushO ob x.acc, a ∈ y.acc) → ∀ a, ob = some a → ObOk P G a := fun hm a e => hob a (hm a (by subst e; simp [pushO]))
    have snoc : ∀ {d : Don} {s : List Cell}, (∀ d ∈ x.dn, d.o.k.heavy = false → LS P G d.o d.tm d.v s) → (d.o.k.heavy = false → LS P G d.o d.tm d.v s) → ∀ e ∈ x.dn ++ [d], e.o.k.heavy = false → LS P G e.o e.tm e.v s := fun h1 h2 e he hh => by
      rcases List.mem_append.1 he with he | he
      · exact h1 e he hh
      · simp only [List.mem_singleton] at he; subst he; exact h2 hh
    simp only [runDX, fSpine_eq] at h
    simp only [vcD]
    split at h
    · rename_i hv
      rw [if_pos hv]
      split at h <;> try (cases h; done)
      rename_i hall
      refine ⟨hall, ?_⟩
      split at h <;> try (cases h; done)
      · rename_i hg
        split at h <;> try (cases h; done)
        rename_i v s' ob hx
        split at h
        · rename_i hin
          rw [fHd_eq, fList_eq _ fRow_eq] at h
          obtain ⟨k1, -⟩ := hvyX_ok hx hg (hsome (runDX_acc h))
          exact ⟨v, s', k1, recheck_all hin hfr, ih h hob (fun e => by cases e) hlen nof hr⟩
        · split at h <;> try (cases h; done)
          rename_i hgr
          simp only [Bool.and_eq_true] at hgr
          rw [fHd_eq, fList_eq _ fRow_eq] at h
          obtain ⟨k1, k2⟩ := hvyX_ok hx hg (hsome (runDX_acc h))
          obtain ⟨l, rfl⟩ := k2 (by simpa using hgr.2) hgr.1.2
          have hls := hls hgr.1.1
          refine ⟨v, _, k1, recheck_grow hls, ih h hob (fun _ => snoc (fun d hd hh l' => ?_) (fun hh => by rw [hv] at hh; cases hh)) hlen nof hr⟩
          have := hls d hd hh (l ++ l')
          rw [← List.append_assoc] at this
          exact this
      · rename_i hg
        split at h <;> try (cases h; done)
        rename_i hin
        exact ⟨.tup [], x.cur, vcG_off hg, recheck_all hin hfr, ih h hob (fun e => by cases e) hlen nof hr⟩
    · rename_i hv
      rw [if_neg hv]
      have hv : o.k.heavy = false := by simpa using hv
      split at h <;> try (cases h; done)
      rename_i hcond
      simp only [Bool.or_eq_true, beq_iff_eq, List.isEmpty_iff] at hcond
      split at h <;> try (cases h; done)
      · rename_i hg
        split at h <;> try (cases h; done)
        rename_i v ob hx
        split at h <;> try (cases h; done)
        rename_i hfree
        rw [fHd_eq] at h
        obtain ⟨k1, k2⟩ := litX_ok hx hv hg (hsome (runDX_acc h))
        refine ⟨v, by simpa using k1 [], ?_, ih h hob (fun e => snoc (hls e) (fun _ => k1)) hlen (FrOk.snoc (fun hb => ?_) hfl hfr) hr⟩
        by_cases hl : lo 0 x.dn B = sg.length
        · exact lightAll_nil (.inl hl)
        · by_cases hs : sg = []
          · exact lightAll_nil (.inr hs)
          · have hf : o.k.free = true := by
              rcases hcond with (h1 | h1) | h1
              · exact absurd h1 hl
              · exact h1
              · exact absurd h1 hs
            have hn : ob = none := by
              cases ob with
              | none => rfl
              | some ob => simp [hf, hl] at hfree
            exact lightAll_free (k2 hf hn)
        · simp only [Bool.and_eq_true, Option.isNone_iff_eq_none] at hb
          exact k2 hb.1 hb.2
      · rename_i hg
        refine ⟨.tup [], vcG_off hg, lightAll_free (fun s => vcG_off hg), ih h hob (fun e => snoc (hls e) (fun _ l => vcG_off hg)) hlen (FrOk.snoc (fun _ s => vcG_off hg) hfl hfr) hr⟩

/-! ### from point to point -/

structure Pt where
  acc : List Ob
  k : List T
  t : List V
  s : List Cell
  orc : Orc

def runX (G : Globals) : Nat → Nat → Orc → List Ob → List T → List V → List Cell → Pt
  | 0, _, orc, acc, k, t, s => ⟨acc, k, t, s, orc⟩
  | f + 1, i, orc, acc, k, t, s => match k with
    | .ops [] :: k => runX G f i orc acc k t s
    | .ops (o :: r) :: k' => match onG t o.guard with
      | some true => match hvyX G t s o.k (hit i orc) with
        | some (v, s', ob) => fHd v fun v => fSpine (putV t o.dst v) fun t => fList fRow s' fun s' => runX G f (i + 1) (rest i orc) (pushO ob acc) (.ops r :: k') t s'
        | none => ⟨acc, k, t, s, orc⟩
      | some false => fSpine (putV t o.dst (.tup [])) fun t => runX G f (i + 1) orc acc (.ops r :: k') t s
      | none => ⟨acc, k, t, s, orc⟩
    | .pc c :: k' => match c with
      | .skip => runX G f i orc acc k' t s
      | .reg ps => runX G f i orc acc (.ops ps :: k') t s
      | .drawn ps bs => match planOk ps bs (closeB [] bs) with
        | true => match runDX G (fun i => maskFor i (ps.zip (closeB [] bs)) t) (ps.zip (closeB [] bs)) true [] ⟨acc, [], [], s, orc, i⟩ with
          | some y => fSpine (fin y.dn t) fun t => runX G f y.i y.orc y.acc k' t y.cur
          | none => ⟨acc, k, t, s, orc⟩
        | false => ⟨acc, k, t, s, orc⟩
      | .seq a b => runX G f i orc acc (.pc a :: .pc b :: k') t s
      | .block id b => runX G f i orc acc (.pc b :: .blk id :: k') t s
      | .cond c a b => match hit i orc with
        | some (.bool true, _) => runX G f (i + 1) (rest i orc) (.w (.op (.mv (subX G t c))) s (.bool true) s :: acc) (.pc a :: k') t s
        | some (.bool false, _) => runX G f (i + 1) (rest i orc) (.w (.op (.mv (subX G t c))) s (.bool false) s :: acc) (.pc b :: k') t s
        | some _ => ⟨acc, k, t, s, orc⟩
        | none => match ev G t c with
          | .bool true => runX G f (i + 1) orc acc (.pc a :: k') t s
          | .bool false => runX G f (i + 1) orc acc (.pc b :: k') t s
          | _ => ⟨acc, k, t, s, orc⟩
      | .exit id => match unwind id k' with
        | some k2 => runX G f i orc acc k2 t s
        | none => ⟨acc, k, t, s, orc⟩
      | _ => ⟨acc, k, t, s, orc⟩
    | .blk _ :: k => runX G f i orc acc k t s
    | k => ⟨acc, k, t, s, orc⟩

theorem runX_acc : ∀ (f : Nat) {i : Nat} {orc : Orc} {acc : List Ob} {k : List T} {t : List V} {s : List Cell}, ∀ o ∈ acc, o ∈ (runX G f i orc acc k t s).acc := by
  intro f
  induction f with
  | zero => intro i orc acc k t s o ho; exact ho
  | succ f ih =>
    intro i orc acc k t s o ho
    have hp : ∀ ob : Option Ob, o ∈ pushO ob acc := fun ob => by cases ob <;> simp [pushO, ho]
    match k with
    | [] => exact ho
    | .jp J :: k => exact ho
    | .blk id :: k => exact ih o ho
    | .ops [] :: k => exact ih o ho
    | .ops (p :: r) :: k =>
      simp only [runX]
      split
      · split
        · rw [fHd_eq, fSpine_eq, fList_eq _ fRow_eq]; exact ih o (hp _)
        · exact ho
      · rw [fSpine_eq]; exact ih o ho
      · exact ho
    | .pc .skip :: k => exact ih o ho
    | .pc (.reg ps) :: k => exact ih o ho
    | .pc (.seq a b) :: k => exact ih o ho
    | .pc (.block id b) :: k => exact ih o ho
    | .pc (.drawn ps bs) :: k =>
      simp only [runX]
      split
      · split
        · rename_i y hy
          rw [fSpine_eq]
          exact ih o (runDX_acc hy o ho)
        · exact ho
      · exact ho
    | .pc (.cond c a b) :: k =>
      simp only [runX]
      split
      · exact ih o (by simp [ho])
      · exact ih o (by simp [ho])
      · exact ho
      · split
        · exact ih o ho
        · exact ih o ho
        · exact ho
    | .pc (.exit id) :: k =>
      simp only [runX]
      split
      · exact ih o ho
      · exact ho
    | .pc (.loop _) :: k => exact ho
    | .pc .bad :: k => exact ho
    | .pc .ret :: k => exact ho

theorem go_drawn {n : Nat} {R : Post} {k : List T} {t : List V} {s : List Cell} (hm : P.follows .mixedOrders = true) {ps : List PO} {bs : List (List Nat)} (hplan : planOk ps bs (closeB [] bs) = true)
    (h : vcD P G (fun i => maskFor i (ps.zip (closeB [] bs)) t) (ps.zip (closeB [] bs)) [] [] s (fun dn s => Run P G ro n R k (fin dn t) s)) : Run P G ro n R (.pc (.drawn ps bs) :: k) t s := BGood.of (PGood.drawn hm hplan h)

theorem ob_mv {s : List Cell} {v : V} {z : V} (h : ObOk P G (.w (.op (.mv (.c v))) s z s)) : v = z := by
  obtain ⟨v', s', h1, h2, -⟩ := h
  simp only [evO, ev, Option.some.injEq, Prod.mk.injEq] at h1
  rw [h1.1, h2]

theorem runX_ok (hm : P.follows .mixedOrders = true) {n : Nat} {R : Post} : ∀ (f : Nat) {i : Nat} {orc : Orc} {acc : List Ob} {k : List T} {t : List V} {s : List Cell}, (∀ o ∈ (runX G f i orc acc k t s).acc, ObOk P G o) →
    Run P G ro n R (runX G f i orc acc k t s).k (runX G f i orc acc k t s).t (runX G f i orc acc k t s).s → Run P G ro n R k t s := by
  intro f
  induction f with
  | zero => intro i orc acc k t s _ h; exact h
  | succ f ih =>
    intro i orc acc k t s
    match k with
    | [] => intro _ h; exact h
    | .jp J :: k => intro _ h; exact h
    | .blk id :: k => intro ho h; exact go_blk (ih ho h)
    | .ops [] :: k => intro ho h; exact go_nil (ih ho h)
    | .ops (p :: r) :: k =>
      simp only [runX]
      intro ho h
      split at h
      · rename_i hg
        rw [hg] at ho
        simp only at ho
        split at h
        · rename_i v s' ob hx
          rw [hx] at ho
          simp only [fHd_eq, fSpine_eq, fList_eq _ fRow_eq] at ho h
          obtain ⟨k1, -⟩ := hvyX_ok hx hg (fun a e => ho a (runX_acc f a (by subst e; simp [pushO])))
          have k1 : vcK P G p.k t s (fun v' s2 => v' = v ∧ s2 = s') := by
            unfold vcG at k1; rw [hg] at k1; exact k1
          refine BOps.cons hg (vcK_mono k1 ?_)
          rintro v' s2 ⟨rfl, rfl⟩
          exact ih ho h
        · exact h
      · rename_i hg
        rw [hg] at ho
        simp only [fSpine_eq] at ho h
        obtain ⟨d, q, g⟩ := p
        exact go_off hg (ih ho h)
      · exact h
    | .pc .skip :: k => intro ho h; exact go_skip (ih ho h)
    | .pc (.reg ps) :: k => intro ho h; exact go_reg (ih ho h)
    | .pc (.seq a b) :: k => intro ho h; exact go_seq (ih ho h)
    | .pc (.block id b) :: k => intro ho h; exact go_block (ih ho h)
    | .pc (.drawn ps bs) :: k =>
      simp only [runX]
      intro ho h
      split at h
      · rename_i hp
        rw [hp] at ho
        simp only at ho
        split at h
        · rename_i y hy
          rw [hy] at ho
          simp only [fSpine_eq] at ho h
          exact go_drawn hm hp (runDX_ok (x := ⟨acc, [], [], s, orc, i⟩) hy (fun o hoy => ho o (runX_acc f o hoy)) (fun _ d hd => by simp at hd) rfl trivial (ih ho h))
        · exact h
      · exact h
    | .pc (.cond c a b) :: k =>
      simp only [runX]
      intro ho h
      split at h
      · rename_i hh
        simp only [hh] at ho
        have := ob_mv (v := ev G t c) (ho (.w (.op (.mv (.c (ev G t c)))) s (.bool true) s) (runX_acc f _ (List.mem_cons_self ..)))
        exact go_cond true this (fun _ => ih ho h) (fun e => by cases e)
      · rename_i hh
        simp only [hh] at ho
        have := ob_mv (v := ev G t c) (ho (.w (.op (.mv (.c (ev G t c)))) s (.bool false) s) (runX_acc f _ (List.mem_cons_self ..)))
        exact go_cond false this (fun e => by cases e) (fun _ => ih ho h)
      · exact h
      · rename_i hh
        rw [hh] at ho
        simp only at ho
        split at h
        · rename_i hb
          rw [hb] at ho
          exact go_cond true hb (fun _ => ih ho h) (fun e => by cases e)
        · rename_i hb
          rw [hb] at ho
          exact go_cond false hb (fun e => by cases e) (fun _ => ih ho h)
        · exact h
    | .pc (.exit id) :: k =>
      simp only [runX]
      intro ho h
      split at h
      · rename_i hu
        rw [hu] at ho
        exact go_exit hu (ih ho h)
      · exact h
    | .pc (.loop _) :: k => intro _ h; exact h
    | .pc .bad :: k => intro _ h; exact h
    | .pc .ret :: k => intro _ h; exact h

/-- Many steps: the slots m stay. -/
def runW (G : Globals) (f : Nat) (orc : Orc) (m : List (Nat × Nat)) (k : List T) (t : List V) (s : List Cell) : List Ob × List T × List V × List Cell :=
  match runX G f 0 orc [] k t s with
  | ⟨acc, k', t', s', _⟩ => (acc, k', maskZ m 0 t', s')

theorem go_x (hm : P.follows .mixedOrders = true) {n : Nat} {R : Post} {k k' : List T} {t t' : List V} {s s' : List Cell} {obs : List Ob} (f : Nat) (orc : Orc) (m : List (Nat × Nat)) (h : runW G f orc m k t s = (obs, k', t', s')) (hn : Nat.ble n s'.length = true)
    (ho : ObsOk P G obs) (hr : Run P G ro n R k' t' s') : Run P G ro n R k t s := by
  unfold runW at h
  have key := @runX_ok P G ro hm n R f 0 orc [] k t s
  revert h key
  generalize runX G f 0 orc [] k t s = z
  obtain ⟨acc, k2, t2, s2, orc2⟩ := z
  intro h key
  simp only [Prod.mk.injEq] at h
  obtain ⟨rfl, rfl, rfl, rfl⟩ := h
  exact key (fun o hin => ho.mem hin) (go_weak (weak_mask (Nat.le_of_ble_eq_true hn)) hr)

end
end Go.TL
