/-
  Tree land, part O: operations with their types resolved; what each does; that the model does the same.
-/
import Derived.Test.YthhhejockehncaaGreatDoorTlN
set_option linter.all false
namespace Go.TL
open Go

section
variable {P : Program} {G : Globals}

inductive O where
  | mv (x : Opd)
  | pick (c a b : Opd)
  | box (x : Opd)
  | new (z : V)
  | build (zero : List V) (ps : List (Nat × Nat × Opd))
  | row (z : V) (n : Nat) (ps : List (Nat × Opd))
  | lit (z : V) (n : Nat) (ps : List (Nat × Opd))
  | ldA (n : Nat) (a : Opd)
  | ld1 (a : Opd)
  | st (n : Nat) (a x : Opd)
  | nilck (x : Opd)
  | bin (op : BinOp) (tk : TK) (kc : Bool) (x y : Opd)
  | un (op : UnOp) (x : Opd)
  | cvI (k : IntKind) (x : Opd)
  | cvS (x : Opd)
  | ifc (t : TypeId) (x : Opd)
  | fn (f : Fn) (first captured : List Opd)
  | make (z : V) (bytes : Nat) (l c : Opd)
  | slc (k : SK) (x : Opd) (lo hi : Option Opd)
  | clip (x : Opd)
  | fa (off : Nat) (x : Opd)
  | fld (n : Option Nat) (off : Nat) (x : Opd)
  | ia (s : Nat) (x i : Opd)
  | iaa (len s : Nat) (x i : Opd)
  | ix (x i : Opd)
  | ixA (len : Nat) (n : Option Nat) (size : Nat) (x i : Opd)
  | ext (i : Nat) (x : Opd)
  | len (k : LK) (x : Opd)
  | app (s bytes : Nat) (x y : Opd)
  | ta (t : TypeId) (z : V) (ok : Bool) (x : Opd)
  | max (xs : List Opd)
  | min (xs : List Opd)
  deriving Inhabited

def isK : Operand → Bool
  | .const _ => true
  | _ => false

def zeroK : Option Operand → Bool
  | none => true
  | some (.const (.int _ 0)) => true
  | _ => false

def prepParts (P : Program) (t : TypeId) : List (Nat × Operand) → Option (List (Nat × Nat × Opd))
  | [] => some []
  | (i, x) :: r => match placeOf P t i, prepParts P t r with
    | some (o, s), some l => some ((o, s, prepOpd x) :: l)
    | _, _ => none

def prepBuiltin (P : Program) (b : Builtin) (xs : List Operand) (ts : List TypeId) : Option O :=
  match b, xs, ts with
  | .len, [x], [t] => (prepLen P t).map fun k => .len k (prepOpd x)
  | .append, [x, y], [t, u] => (prepApp P t u).map fun p => .app p.1 p.2 (prepOpd x) (prepOpd y)
  | .max, xs, _ => some (.max (xs.map prepOpd))
  | .min, xs, _ => some (.min (xs.map prepOpd))
  | _, _, _ => none

/-- 'mo': may the function write its slice literals? -/
def prepOp (mo : Bool) (P : Program) : Op → Option O
  | .move x | .assign x => some (.mv (prepOpd x))
  | .pick c a b => some (.pick (prepOpd c) (prepOpd a) (prepOpd b))
  | .alloc t => (zeroV P t).map .new
  | .box _ x => some (.box (prepOpd x))
  | .build t parts => match zeroV P t, prepParts P t parts.toList with
    | some z, some ps => if allPlaces P t then some (.build z.cells ps) else none
    | _, _ => none
  | .buildSlice t n parts => (prepRow P t n).map fun z => if mo then .row z n (parts.toList.map fun p => (p.1, prepOpd p.2)) else .lit z n (parts.toList.map fun p => (p.1, prepOpd p.2))
  | .load t a => match aggP P t, sizeP P t with
    | some true, some n => some (.ldA n (prepOpd a))
    | some false, _ => some (.ld1 (prepOpd a))
    | _, _ => none
  | .store t a x => (sizeP P t).map fun n => .st n (prepOpd a) (prepOpd x)
  | .nilCheck x => some (.nilck (prepOpd x))
  | .binOp op t x y _ => some (.bin op (tkOf P t) (isK x || isK y) (prepOpd x) (prepOpd y))
  | .unOp op _ x => some (.un op (prepOpd x))
  | .convert s d x => match prepConv P s d with
    | some (.int k) => some (.cvI k (prepOpd x))
    | some .str => some (.cvS (prepOpd x))
    | _ => none
  | .makeInterface t x => if prepIfc P t then some (.ifc t (prepOpd x)) else none
  | .makeFunc f as bs => some (.fn f (as.toList.map prepOpd) (bs.toList.map prepOpd))
  | .makeSlice t l c => (prepMake P t).map fun p => .make p.1 p.2 (prepOpd l) (prepOpd c)
  | .slice t x lo hi none => (prepSlice P t).map fun k => .slc k (prepOpd x) (lo.map prepOpd) (hi.map prepOpd)
  | .slice t x lo hi mx => match P.underlying t with
    | some (.slice e) => if zeroK lo && hi.isSome && mx.isSome && zeroK hi && zeroK mx && (sizeP P e).isSome then some (.clip (prepOpd x)) else none
    | _ => none
  | .fieldAddr t x f => (prepFA P t f).map fun o => .fa o (prepOpd x)
  | .field t x f => (prepField P t f).map fun p => .fld p.1 p.2 (prepOpd x)
  | .indexAddr t x i => match prepIA P t with
    | some (none, s) => some (.ia s (prepOpd x) (prepOpd i))
    | some (some len, s) => some (.iaa len s (prepOpd x) (prepOpd i))
    | none => none
  | .index t x i => match P.underlying t with
    | some .string => some (.ix (prepOpd x) (prepOpd i))
    | some (.array len e) => match sizeP P e, prepPart P e with
      | some s, some n => some (.ixA len n s (prepOpd x) (prepOpd i))
      | _, _ => none
    | _ => none
  | .extract x i => some (.ext i (prepOpd x))
  | .call c => match c.callee with
    | .builtin b => prepBuiltin P b c.args.toList c.argTypes.toList
    | _ => none
  | .typeAssert x _ t ok => (prepTA P t).map fun z => .ta t z ok (prepOpd x)
  | _ => none

def evBin (op : BinOp) (tk : TK) (kc : Bool) (x y : V) : Option V :=
  match op, x, y with
  | .shl, .int k a, .int _ b => evShift .shl k a b
  | .shr, .int k a, .int _ b => evShift .shr k a b
  | op, .int k a, .int k' b => if k = k' then evArith op k a b else none
  | op, .str a, .str b => evStr op a b
  | .eql, x, y => (evEq1 tk kc x y).map .bool
  | .neq, x, y => (evEq1 tk kc x y).map fun r => .bool (!r)
  | _, _, _ => none

def evNil : V → Option V
  | .ref c i o => some (.ref c i o)
  | .imm xs o => some (.imm xs o)
  | .obj c => some (.obj c)
  | .fn f as bs => match f with | .method _ => none | _ => some (.fn f as bs)
  | _ => none

/-- All elements of one size. -/
def sized (s : Nat) (xs : List V) : Bool := xs.all fun v => v.stores && decide (v.cells.length = s)

def evClip : V → Option V
  | .nils => some .nils
  | .sl _ | .osl .. | .cap0 => some .cap0
  | _ => none

def evSlc (σ : List Cell) (k : SK) (x : V) (lo hi : Option V) : Option V :=
  match k, x with
  | .str, .str s => evSlice (.str s) lo hi
  | .slice _, .nils => evSlice .nils lo hi
  | .slice n, .sl xs => if xs.all (fun v => decide (v.cells.length = n)) then evSlice (.sl xs) lo hi else none
  | .slice n, .osl c o m => match rowOf σ c with
    | some (s, _) => if s = n then evSlice (.osl c o m) lo hi else none
    | none => none
  | _, _ => none

def evO (G : Globals) (tm : List V) (σ : List Cell) : O → Option (V × List Cell)
  | .mv x => some (ev G tm x, σ)
  | .pick c a b => match ev G tm c with
    | .bool true => some (ev G tm a, σ)
    | .bool false => some (ev G tm b, σ)
    | _ => none
  | .box x => if (ev G tm x).stores then some (.ref σ.length 0 0, σ ++ [.row (ev G tm x).cells.length [ev G tm x]]) else none
  | .new z => some (.ref σ.length 0 0, σ ++ [.row z.cells.length [z]])
  | .build zero ps => (evFill zero (ps.map fun p => (p.1, p.2.1, ev G tm p.2.2))).map fun cs => (.agg cs, σ)
  | .row z n ps => evRow σ z n (ps.map fun p => (p.1, ev G tm p.2))
  | .lit z n ps => (evLit z n (ps.map fun p => (p.1, ev G tm p.2))).map fun v => (v, σ)
  | .ldA n a => (evCells σ n (ev G tm a)).map fun cs => (.agg cs, σ)
  | .ld1 a => match evCells σ 1 (ev G tm a) with
    | some [v] => some (v, σ)
    | _ => none
  | .st n a x => (evStore σ n (ev G tm a) (ev G tm x)).map fun s => (.any, s)
  | .nilck x => (evNil (ev G tm x)).map fun v => (v, σ)
  | .bin op tk kc x y => (evBin op tk kc (ev G tm x) (ev G tm y)).map fun v => (v, σ)
  | .un op x => (evUn op (ev G tm x)).map fun v => (v, σ)
  | .cvI k x => (evConvI k (ev G tm x)).map fun v => (v, σ)
  | .cvS x => (evConvS (ev G tm x)).map fun v => (v, σ)
  | .ifc t x => if (ev G tm x).stores then some (.ifc t (ev G tm x), σ) else none
  | .fn f as bs => some (.fn f (as.map (ev G tm)) (bs.map (ev G tm)), σ)
  | .make z bytes l c => evMake σ z bytes (ev G tm l) (ev G tm c)
  | .slc k x lo hi => (evSlc σ k (ev G tm x) (lo.map (ev G tm)) (hi.map (ev G tm))).map fun v => (v, σ)
  | .clip x => (evClip (ev G tm x)).map fun v => (v, σ)
  | .fa off x => (evFA off (ev G tm x)).map fun v => (v, σ)
  | .fld n off x => (evField n off (ev G tm x)).map fun v => (v, σ)
  | .ia s x i => (evIA σ s (ev G tm x) (ev G tm i)).map fun v => (v, σ)
  | .iaa len s x i => (evIAa len s (ev G tm x) (ev G tm i)).map fun v => (v, σ)
  | .ix x i => (evIx (ev G tm x) (ev G tm i)).map fun v => (v, σ)
  | .ixA len n s x i => (evIxA len n s (ev G tm x) (ev G tm i)).map fun v => (v, σ)
  | .ext i x => (evExt i (ev G tm x)).map fun v => (v, σ)
  | .len k x => (evLen k (ev G tm x)).map fun v => (v, σ)
  | .app s bytes x y => match elemsOf σ (ev G tm y) with
    | some ys => if sized s ys then evApp σ s bytes (ev G tm x) ys else none
    | none => none
  | .ta t z ok x => (evTA t z ok (ev G tm x)).map fun v => (v, σ)
  | .max xs => (evFold evMax2 (xs.map (ev G tm))).map fun v => (v, σ)
  | .min xs => (evFold evMin2 (xs.map (ev G tm))).map fun v => (v, σ)

/-- The model's operation, from slots a in the world w, gives v (or nothing, where v is 'any'), and the rows are then σ'. -/
def OkOp (P : Program) (G : Globals) (A : Nat → Prop) (w : World) (β : Beta) (σ : List Cell) (s : Sem Next) (v : V) (σ' : List Cell) : Prop :=
  ∃ nx x w' β', s.run P w = .ok nx w' ∧ (nx = .value x ∨ (nx = .skip ∧ x = undef)) ∧ Rel w' (Mav A β' σ') β' v x ∧ SR G w' A β' σ' ∧ Ext w β σ w' β' σ'

theorem OkOp.val {A : Nat → Prop} {w : World} {β : Beta} {σ : List Cell} {s : Sem Value} {v : V} {σ' : List Cell} (h : OkV P G A w β σ s v σ') :
    OkOp P G A w β σ (do pure (.value (← s))) v σ' := by
  obtain ⟨x, w', β', h1, h2, h3, h4⟩ := h
  exact ⟨.value x, x, w', β', by simp only [Sem.run_bind, h1, Result.andThen_ok, Sem.run_pure], .inl rfl, h2, h3, h4⟩

theorem OkOp.same {A : Nat → Prop} {w : World} {β : Beta} {σ : List Cell} (hs : SR G w A β σ) {s : Sem Value} {v : V} (h : ∃ x, s.run P w = .ok x w ∧ Rel w (Mav A β σ) β v x) :
    OkOp P G A w β σ (do pure (.value (← s))) v σ := by
  obtain ⟨x, h1, h2⟩ := h
  exact .val ⟨x, w, β, h1, h2, hs, .refl _ _ _⟩

theorem evs_rel {A : Nat → Prop} {w : World} {β : Beta} {σ : List Cell} {tm : List V} {a : Act} (h : St G A w β σ tm a) (xs : Array Operand) :
    RelL w (Mav A β σ) β ((xs.toList.map prepOpd).map (ev G tm)) (xs.map a.eval).toList := by
  refine ⟨by simp, fun j hj x hx => ?_⟩
  have hj' : j < xs.size := by simpa using hj
  simp [hj'] at hx
  subst hx
  simpa using ev_rel h xs[j]

theorem evb_rel {A : Nat → Prop} {w : World} {β : Beta} {σ : List Cell} {tm : List V} {a : Act} (h : St G A w β σ tm a) (x : Option Operand) :
    RelB w (Mav A β σ) β ((x.map prepOpd).map (ev G tm)) (x.map a.eval) := by
  cases x with
  | none => trivial
  | some x => exact ev_rel h x

theorem bin_plain {t : TypeId} {a b : Value} (ha : ∀ k n, a ≠ .int k n) (hf : ∀ k n, a ≠ .float k n) (hc : ∀ k n m, a ≠ .complex k n m) (hs : ∀ s, a ≠ .string s) :
    binOp .eql t a b = (do pure (.bool (← Op.equal t a b))) ∧ binOp .neq t a b = (do pure (.bool (!(← Op.equal t a b)))) := by
  cases a <;> first | exact ⟨rfl, rfl⟩ | exact absurd rfl (ha _ _) | exact absurd rfl (hf _ _) | exact absurd rfl (hc _ _ _) | exact absurd rfl (hs _)

theorem bin_ok {op : BinOp} {t : TypeId} {kc : Bool} {x y : V} {v : V} (h : evBin op (tkOf P t) kc x y = some v) {ox oy : Operand} (hk : kc = true → isK ox = true ∨ isK oy = true) {w : World} {M : Nat → Prop} {β : Beta} {a b : Value}
    (ha : Rel w M β x a) (hb : Rel w M β y b) :
    ∃ z, (do eqGuard op t ox oy a b; binOp op t a b).run P w = .ok z w ∧ Rel w M β v z := by
  have hguard : (eqGuard op t ox oy a b).run P w = .ok () w → (∃ z, (binOp op t a b).run P w = .ok z w ∧ Rel w M β v z) →
      ∃ z, (do eqGuard op t ox oy a b; binOp op t a b).run P w = .ok z w ∧ Rel w M β v z := fun h1 ⟨z, h2, h3⟩ =>
    ⟨z, by simp only [Sem.run_bind, h1, Result.andThen_ok, h2], h3⟩
  have hcases : (∃ k m k' n, x = .int k m ∧ y = .int k' n) ∨ (∃ s s', x = .str s ∧ y = .str s') ∨
      (∃ r, evEq1 (tkOf P t) kc x y = some r ∧ ((op = .eql ∧ v = .bool r) ∨ (op = .neq ∧ v = .bool (!r)))) := by
    unfold evBin at h
    split at h
    · exact .inl ⟨_, _, _, _, rfl, rfl⟩
    · exact .inl ⟨_, _, _, _, rfl, rfl⟩
    · exact .inl ⟨_, _, _, _, rfl, rfl⟩
    · exact .inr (.inl ⟨_, _, rfl, rfl⟩)
    · cases hr : evEq1 (tkOf P t) kc x y with
      | none => rw [hr] at h; cases h
      | some r => rw [hr] at h; injection h with h; exact .inr (.inr ⟨r, rfl, .inl ⟨rfl, h.symm⟩⟩)
    · cases hr : evEq1 (tkOf P t) kc x y with
      | none => rw [hr] at h; cases h
      | some r => rw [hr] at h; injection h with h; exact .inr (.inr ⟨r, rfl, .inr ⟨rfl, h.symm⟩⟩)
    · cases h
  rcases hcases with ⟨k, m, k', n, rfl, rfl⟩ | ⟨s, s', rfl, rfl⟩ | ⟨r, hr, hop⟩
  · cases ha; cases hb
    refine hguard (guard_plain (by simp) (by simp)) ?_
    by_cases hsh : op = .shl ∨ op = .shr
    · rcases hsh with rfl | rfl
      · exact shift_ok (by simpa [evBin] using h)
      · exact shift_ok (by simpa [evBin] using h)
    · have : evBin op (tkOf P t) kc (.int k m) (.int k' n) = if k = k' then evArith op k m n else none := by
        cases op <;> first | rfl | exact absurd (.inl rfl) hsh | exact absurd (.inr rfl) hsh
      rw [this] at h
      split at h <;> try (cases h; done)
      rename_i hkk
      subst hkk
      exact arith_ok h
  · cases ha; cases hb
    refine hguard (guard_plain (by simp) (by simp)) ?_
    have : evBin op (tkOf P t) kc (.str s) (.str s') = evStr op s s' := by cases op <;> rfl
    rw [this] at h
    exact str_ok h
  · have heq := eq1_ok (P := P) hr rfl ha hb
    have hna : (∀ k n, a ≠ .int k n) ∧ (∀ k n, a ≠ .float k n) ∧ (∀ k n m, a ≠ .complex k n m) ∧ (∀ s, a ≠ .string s) := by
      unfold evEq1 at hr
      split at hr <;> first | (cases hr; done) | skip
      all_goals (cases ha <;> simp)
    have hg : (eqGuard op t ox oy a b).run P w = .ok () w := by
      by_cases hnil : a = .nilIface ∧ b = .nilIface
      · obtain ⟨rfl, rfl⟩ := hnil
        refine guard_nil ?_
        have hkc : kc = true := by
          unfold evEq1 at hr
          split at hr <;> first | (cases hr; done) | skip
          all_goals first | (cases ha; done) | (cases hb; done) | skip
          split at hr
          · assumption
          · cases hr
        rcases hk hkc with h1 | h1
        · cases ox <;> simp [isK] at h1
          exact .inl ⟨_, rfl⟩
        · cases oy <;> simp [isK] at h1
          exact .inr ⟨_, rfl⟩
      · by_cases hagg : ∃ c d, a = .agg c ∧ b = .agg d
        · obtain ⟨c, d, rfl, rfl⟩ := hagg
          have hk : ∃ l, tkOf P t = .agg l := by
            unfold evEq1 at hr
            split at hr <;> first | (cases hr; done) | (cases ha; done) | (cases hb; done) | skip
            rename_i hl
            exact ⟨_, hl⟩
          obtain ⟨l, hl⟩ := hk
          have hs := tkOf_spec hl
          obtain ⟨fs, -, -, hg, -⟩ := hs
          exact run_eqGuard_agg w op t ox oy c d hg
        · exact guard_plain hnil (fun c d hcd => hagg ⟨c, d, hcd⟩)
    obtain ⟨b1, b2⟩ := bin_plain (t := t) (b := b) hna.1 hna.2.1 hna.2.2.1 hna.2.2.2
    refine hguard hg ?_
    rcases hop with ⟨rfl, rfl⟩ | ⟨rfl, rfl⟩
    · exact ⟨.bool r, by rw [b1]; simp only [Sem.run_bind, heq, Result.andThen_ok, Sem.run_pure], .bool _⟩
    · exact ⟨.bool (!r), by rw [b2]; simp only [Sem.run_bind, heq, Result.andThen_ok, Sem.run_pure], .bool _⟩

end
end Go.TL
