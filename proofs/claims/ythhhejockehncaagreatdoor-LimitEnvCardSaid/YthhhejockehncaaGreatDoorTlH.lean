/-
  Tree land, part H: more operations on values: nil, bools, conversions of whole numbers, interfaces, parts of structs and texts.
-/
import Derived.Test.YthhhejockehncaaGreatDoorTlF
import Derived.Laws.StructEq
set_option linter.all false
namespace Go.TL
open Go

section
variable {P : Program} {G : Globals}

/-- What of a type '==' asks. -/
inductive TK where
  | bool | ptr | slice | map | func | iface | other
  | agg (fs : List (Nat × Nat))
  deriving DecidableEq, Inhabited

/-- A field of a struct that '==' compares: where it lies; 0: a whole number, 1: a text, 2: a bool. -/
def fieldK (P : Program) (f : Field) : Option (Nat × Nat) :=
  if f.name = "_" then none else
  match P.underlying f.type with
  | some (.int _) => some (f.offset, 0)
  | some .string => some (f.offset, 1)
  | some .bool => some (f.offset, 2)
  | _ => none

def fieldsK (P : Program) : List Field → Option (List (Nat × Nat))
  | [] => some []
  | f :: r => match fieldK P f, fieldsK P r with
    | some x, some l => some (x :: l)
    | _, _ => none

def tkOf (P : Program) (t : TypeId) : TK :=
  match P.underlying t with
  | some .bool => .bool
  | some (.pointer _) => .ptr
  | some (.slice _) => .slice
  | some (.map _ _) => .map
  | some (.func _ _ _) => .func
  | some (.interface _) => .iface
  | some (.struct fs) => if P.stoodInHeld t = false ∧ P.eqGuardType P.depth t = false then (match fieldsK P fs.toList with | some l => .agg l | none => .other) else .other
  | _ => .other

def eqScal (k : Nat) (x y : V) : Option Bool :=
  match k, x, y with
  | 0, .int k a, .int k' b => if k = k' then some (a == b) else none
  | 1, .str a, .str b => some (a == b)
  | 2, .bool a, .bool b => some (a == b)
  | _, _, _ => none

def evEqs (xs ys : List V) : List (Nat × Nat) → Option Bool
  | [] => some true
  | p :: r => match xs[p.1]?, ys[p.1]? with
    | some x, some y => match eqScal p.2 x y with
      | some true => evEqs xs ys r
      | some false => some false
      | none => none
    | _, _ => none

/-- '==' where one side is nil, and of bools. kc: one side is a constant. -/
def evEq1 (tk : TK) (kc : Bool) (x y : V) : Option Bool :=
  match tk, x, y with
  | .bool, .bool a, .bool b => some (a == b)
  | .ptr, .nilp, .nilp => some true
  | .ptr, .nilp, .ref .. | .ptr, .ref .., .nilp | .ptr, .nilp, .imm .. | .ptr, .imm .., .nilp | .ptr, .nilp, .obj .. | .ptr, .obj .., .nilp => some false
  | .slice, .nils, .nils => some true
  | .slice, .nils, .sl (_ :: _) | .slice, .sl (_ :: _), .nils | .slice, .nils, .osl .. | .slice, .osl .., .nils => some false
  | .func, .nilf, .nilf => some true
  | .func, .nilf, .fn .. | .func, .fn .., .nilf => some false
  | .map, .nilm, .nilm => some true
  | .map, .nilm, .mp .. | .map, .mp .., .nilm => some false
  | .iface, .nili, .nili => if kc then some true else none
  | .iface, .nili, .ifc .. | .iface, .ifc .., .nili => some false
  | .agg l, .agg xs, .agg ys => evEqs xs ys l
  | _, _, _ => none

def TKSpec (P : Program) (t : TypeId) (d : Option TypeDesc) : TK → Prop
  | .bool => d = some .bool
  | .ptr => ∃ e, d = some (.pointer e)
  | .slice => ∃ e, d = some (.slice e)
  | .map => ∃ a b, d = some (.map a b)
  | .func => ∃ a b c, d = some (.func a b c)
  | .iface => ∃ ms, d = some (.interface ms)
  | .agg l => ∃ fs, d = some (.struct fs) ∧ P.stoodInHeld t = false ∧ P.eqGuardType P.depth t = false ∧ fieldsK P fs.toList = some l
  | .other => True

theorem tkOf_spec {t : TypeId} {k : TK} (h : tkOf P t = k) : TKSpec P t (P.underlying t) k := by
  unfold tkOf at h
  generalize P.underlying t = d at *
  split at h <;> first | (subst h; simp [TKSpec]; done) | skip
  split at h
  · rename_i hc
    split at h
    · subst h; exact ⟨_, rfl, hc.1, hc.2, ‹_›⟩
    · subst h; trivial
  · subst h; trivial

theorem run_underlying {t : TypeId} {d : TypeDesc} (h : P.underlying t = some d) {w : World} : (underlying t).run P w = .ok d w := by
  simp [underlying, h]

theorem eqScal_ok {f : Field} {p : Nat × Nat} (hf : fieldK P f = some p) {x y : V} {r : Bool} (h : eqScal p.2 x y = some r) {w : World} {M : Nat → Prop} {β : Beta} {a b : Value} (ha : Rel w M β x a) (hb : Rel w M β y b) (n : Nat) :
    (Op.equalIn (n + 1) f.type a b).run P w = .ok r w := by
  unfold fieldK at hf
  split at hf <;> try (cases hf; done)
  split at hf <;> try (cases hf; done)
  all_goals
    rename_i hu
    injection hf with hf
    subst hf
    simp only [eqScal] at h
    split at h <;> first | (cases h; done) | skip
  all_goals first
    | (rename_i hk; cases hk; done)
    | skip
  · split at h <;> try (cases h; done)
    rename_i hk
    subst hk
    injection h with h
    subst h
    cases ha; cases hb
    exact run_equalIn_int w n _ _ _ _ _ hu
  · injection h with h
    subst h
    cases ha; cases hb
    rw [run_equalIn_string w n _ _ _ hu]
    simp [ByteArray.toList_mk]
  · injection h with h
    subst h
    cases ha; cases hb
    exact run_equalIn_bool' w n _ _ _ hu

theorem fieldK_part {f : Field} {p : Nat × Nat} (hf : fieldK P f = some p) {cs : Array Value} {v : Value} (hv : cs[p.1]? = some v) {w : World} : f.name ≠ "_" ∧ (part f.type cs f.offset).run P w = .ok v w := by
  unfold fieldK at hf
  split at hf <;> try (cases hf; done)
  rename_i hn
  refine ⟨hn, ?_⟩
  split at hf <;> try (cases hf; done)
  all_goals
    rename_i hu
    injection hf with hf
    subst hf
    simp only [part, isAgg, Sem.run_bind, run_underlying hu, Result.andThen_ok, Sem.run_pure, Bool.false_eq_true, if_false, hv]

theorem eqs_ok {xs ys : List V} {ca cb : Array Value} {w : World} {M : Nat → Prop} {β : Beta} (ha : Rel w M β (.agg xs) (.agg ca)) (hb : Rel w M β (.agg ys) (.agg cb)) (n : Nat) : ∀ (fs : List Field) (l : List (Nat × Nat)) (r : Bool),
    fieldsK P fs = some l → evEqs xs ys l = some r → (Op.eqFields (n + 1) ca cb fs).run P w = .ok r w := by
  have get : ∀ {zs : List V} {c : Array Value}, Rel w M β (.agg zs) (.agg c) → ∀ (i : Nat) z, zs[i]? = some z → ∃ v, c[i]? = some v ∧ Rel w M β z v := by
    intro zs c h i z hz
    cases h with
    | agg h1 hl r1 =>
    have hi : i < zs.length := by
      rcases Nat.lt_or_ge i zs.length with hlt | hge
      · exact hlt
      · rw [List.getElem?_eq_none hge] at hz; cases hz
    have := r1 i hi
    rw [List.getElem?_eq_getElem hi] at hz
    injection hz with hz
    rw [hz] at this
    have hc : i < c.size := by omega
    refine ⟨c[i], by simp [hc], ?_⟩
    simpa [Array.getD, hc] using this
  intro fs
  induction fs with
  | nil =>
    intro l r h1 h2
    simp only [fieldsK, Option.some.injEq] at h1
    subst h1
    simp only [evEqs, Option.some.injEq] at h2
    subst h2
    simp only [Op.eqFields, Sem.run_pure]
  | cons f fs ih =>
    intro l r h1 h2
    simp only [fieldsK] at h1
    split at h1 <;> try (cases h1; done)
    rename_i p l' q1 q2
    injection h1 with h1
    subst h1
    simp only [evEqs] at h2
    split at h2 <;> try (cases h2; done)
    rename_i x y hx hy
    obtain ⟨a, a1, a2⟩ := get ha _ _ hx
    obtain ⟨b, b1, b2⟩ := get hb _ _ hy
    obtain ⟨hn, pa⟩ := fieldK_part (w := w) q1 a1
    obtain ⟨-, pb⟩ := fieldK_part (w := w) q1 b1
    simp only [Op.eqFields, ne_eq, hn, not_false_eq_true, if_true, Sem.run_bind, pa, pb, Result.andThen_ok]
    split at h2
    · rename_i he
      rw [eqScal_ok q1 he a2 b2 n]
      simp only [Result.andThen_ok, Bool.not_true, Bool.false_eq_true, if_false]
      exact ih l' r q2 h2
    · rename_i he
      injection h2 with h2
      subst h2
      rw [eqScal_ok q1 he a2 b2 n]
      simp only [Result.andThen_ok, Bool.not_false, if_true, Sem.run_pure]
    · cases h2

set_option maxHeartbeats 1000000 in
theorem eq1_in {tk : TK} {kc : Bool} {x y : V} {r : Bool} (h : evEq1 tk kc x y = some r) {t : TypeId} (ht : tkOf P t = tk) {w : World} {M : Nat → Prop} {β : Beta} {a b : Value}
    (ha : Rel w M β x a) (hb : Rel w M β y b) (n : Nat) : (Op.equalIn (n + 2) t a b).run P w = .ok r w := by
  have hs := tkOf_spec ht
  by_cases hag : ∃ l, tk = .agg l
  · obtain ⟨l, rfl⟩ := hag
    unfold evEq1 at h
    split at h <;> first | (cases h; done) | (rename_i hl; cases hl; done) | skip
    rename_i xs ys hl
    injection hl with hl
    subst hl
    obtain ⟨fs, h1, h2, -, h3⟩ := hs
    cases ha with
    | agg p1 p2 p3 =>
    cases hb with
    | agg q1 q2 q3 =>
    have hfo : P.fieldsOf t = fs := by simp only [Program.fieldsOf, h1]
    rw [run_equalIn_struct w (n + 1) t _ _ (by rw [hfo]; exact h1) h2, hfo]
    exact eqs_ok (.agg p1 p2 p3) (.agg q1 q2 q3) n _ _ _ h3 h
  unfold evEq1 at h
  split at h <;> first | (cases h; done) | (exact absurd ⟨_, rfl⟩ hag) | skip
  all_goals (first | (split at h <;> first | (cases h; done) | skip) | skip)
  all_goals (injection h with h; subst h)
  all_goals simp only [TKSpec] at hs
  all_goals (first | (obtain ⟨e1, e2, e3, hs⟩ := hs) | (obtain ⟨e1, e2, hs⟩ := hs) | (obtain ⟨e1, hs⟩ := hs) | skip)
  all_goals (cases ha <;> cases hb)
  all_goals (simp only [Op.equalIn, Sem.run_bind, run_underlying hs, Result.andThen_ok]; rfl)

theorem eq1_ok {tk : TK} {kc : Bool} {x y : V} {r : Bool} (h : evEq1 tk kc x y = some r) {t : TypeId} (ht : tkOf P t = tk) {w : World} {M : Nat → Prop} {β : Beta} {a b : Value}
    (ha : Rel w M β x a) (hb : Rel w M β y b) : (Op.equal t a b).run P w = .ok r w := eq1_in h ht ha hb 9998

theorem guard_op {op : BinOp} {t : TypeId} {x y : Operand} {a b : Value} (h : op ≠ .eql ∧ op ≠ .neq) {w : World} : (eqGuard op t x y a b).run P w = .ok () w := by
  obtain ⟨h1, h2⟩ := h
  cases op <;> first | exact absurd rfl h1 | exact absurd rfl h2 | rfl

theorem guard_plain {op : BinOp} {t : TypeId} {x y : Operand} {a b : Value} (h1 : ¬ (a = .nilIface ∧ b = .nilIface)) (h2 : ∀ c d, ¬ (a = .agg c ∧ b = .agg d)) {w : World} :
    (eqGuard op t x y a b).run P w = .ok () w := by
  by_cases hop : op ≠ .eql ∧ op ≠ .neq
  · exact guard_op hop
  · unfold eqGuard
    cases op <;> first | (refine absurd ?_ hop; constructor <;> (intro h; cases h); done) | skip
    all_goals
      simp only [Bool.not_true, Bool.false_eq_true, if_false]
      split
      · exact absurd ⟨rfl, rfl⟩ h1
      · exact absurd ⟨rfl, rfl⟩ (h2 _ _)
      · rfl

theorem guard_nil {op : BinOp} {t : TypeId} {x y : Operand} (h : (∃ c, x = .const c) ∨ ∃ c, y = .const c) {w : World} :
    (eqGuard op t x y .nilIface .nilIface).run P w = .ok () w := by
  by_cases hop : op ≠ .eql ∧ op ≠ .neq
  · exact guard_op hop
  · unfold eqGuard
    cases op <;> first | (refine absurd ?_ hop; constructor <;> (intro h; cases h); done) | skip
    all_goals
      rcases h with ⟨c, rfl⟩ | ⟨c, rfl⟩
      · rfl
      · cases x <;> rfl

end
end Go.TL
