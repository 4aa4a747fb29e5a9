/-
  Tree land, part F: operations that give a value and leave the rows as they are.
-/
import Derived.Test.YthhhejockehncaaGreatDoorTlE
import Derived.Laws.Strings
set_option linter.all false
namespace Go.TL
open Go

section
variable {P : Program} {G : Globals}

/-- The computation s gives v, and the rows are then σ'. -/
def OkV (P : Program) (G : Globals) (A : Nat → Prop) (w : World) (β : Beta) (σ : List Cell) (s : Sem Value) (v : V) (σ' : List Cell) : Prop :=
  ∃ x w' β', s.run P w = .ok x w' ∧ Rel w' (Mav A β' σ') β' v x ∧ SR G w' A β' σ' ∧ Ext w β σ w' β' σ'

theorem OkV.same {A : Nat → Prop} {w : World} {β : Beta} {σ : List Cell} {s : Sem Value} {v : V} {x : Value} (h : SR G w A β σ) (hs : s.run P w = .ok x w) (hr : Rel w (Mav A β σ) β v x) :
    OkV P G A w β σ s v σ := ⟨x, w, β, hs, hr, h, .refl _ _ _⟩

/-! ### whole numbers, texts, bools -/

def evArith (op : BinOp) (k : IntKind) (a b : Int) : Option V :=
  match op with
  | .add => some (.int k (k.wrap (a + b)))
  | .sub => some (.int k (k.wrap (a - b)))
  | .mul => some (.int k (k.wrap (a * b)))
  | .quo => if b = 0 then none else some (.int k (k.wrap (a.tdiv b)))
  | .rem => if b = 0 then none else some (.int k (a.tmod b))
  | .and => some (.int k (k.wrap (BitVec.ofInt k.bits a &&& BitVec.ofInt k.bits b).toNat))
  | .or => some (.int k (k.wrap (BitVec.ofInt k.bits a ||| BitVec.ofInt k.bits b).toNat))
  | .xor => some (.int k (k.wrap (BitVec.ofInt k.bits a ^^^ BitVec.ofInt k.bits b).toNat))
  | .andNot => some (.int k (k.wrap (BitVec.ofInt k.bits a &&& ~~~ BitVec.ofInt k.bits b).toNat))
  | .eql => some (.bool (decide (a = b)))
  | .neq => some (.bool (!decide (a = b)))
  | .lss => some (.bool (decide (a < b)))
  | .leq => some (.bool (decide (a ≤ b)))
  | .gtr => some (.bool (decide (b < a)))
  | .geq => some (.bool (decide (b ≤ a)))
  | _ => none

def evShift (op : BinOp) (k : IntKind) (a b : Int) : Option V :=
  if b < 0 then none else
  match op with
  | .shl => some (.int k (k.wrap (a * 2 ^ (min b.toNat k.bits))))
  | .shr => some (.int k (a.fdiv (2 ^ (min b.toNat k.bits))))
  | _ => none

def evStr (op : BinOp) (a b : List UInt8) : Option V :=
  match op with
  | .add => if a.length + b.length ≤ 4611686018427387904 then some (.str (a ++ b)) else none
  | .eql => some (.bool (a == b))
  | .neq => some (.bool (!(a == b)))
  | .lss => some (.bool (Op.bytesLess a b))
  | .leq => some (.bool (Op.bytesLess a b || a == b))
  | .gtr => some (.bool (!(Op.bytesLess a b || a == b)))
  | .geq => some (.bool (!Op.bytesLess a b))
  | _ => none

/-- '==' of two values of one cell, or of structs cell by cell. -/
def eqLeaf : V → V → Option Bool
  | .int k a, .int k' b => if k = k' then some (decide (a = b)) else none
  | .str a, .str b => some (a == b)
  | .bool a, .bool b => some (a == b)
  | _, _ => none

def nilEq (x y : V) : Option Bool :=
  match x, y with
  | .nilp, .nilp | .nils, .nils | .nilf, .nilf | .nilm, .nilm => some true
  | .nilp, .ref .. | .ref .., .nilp | .nilp, .imm .. | .imm .., .nilp | .nilp, .obj .. | .obj .., .nilp => some false
  | .nils, .sl .. | .sl .., .nils | .nils, .osl .. | .osl .., .nils => some false
  | .nilf, .fn .. | .fn .., .nilf => some false
  | .nilm, .mp .. | .mp .., .nilm => some false
  | .nili, .ifc .. | .ifc .., .nili => some false
  | _, _ => none

theorem ofInt_eq {a b : Int} : decide (a = b) = (a == b) := by
  by_cases h : a = b <;> simp [h]

theorem arith_ok {op : BinOp} {t : TypeId} {k : IntKind} {a b : Int} {v : V} (h : evArith op k a b = some v) {w : World} {M : Nat → Prop} {β : Beta} :
    ∃ x, (binOp op t (.int k a) (.int k b)).run P w = .ok x w ∧ Rel w M β v x := by
  unfold evArith at h
  cases op <;> simp only [Option.some.injEq, reduceCtorEq] at h <;>
    first
      | (subst h; exact ⟨_, by simp only [binOp, ne_eq, not_true_eq_false, if_false, Op.intArith, Op.intBits, Op.intCmp]; rfl, .int _ _⟩)
      | (subst h; exact ⟨_, by simp only [binOp, ne_eq, not_true_eq_false, if_false, Op.intCmp]; rfl, .bool _⟩)
      | (subst h; refine ⟨_, by simp only [binOp, ne_eq, not_true_eq_false, if_false, Op.intCmp]; rfl, ?_⟩; simp only [ofInt_eq]; exact .bool _)
      | skip
  all_goals
    split at h
    · cases h
    · rename_i h0
      injection h with h
      subst h
      refine ⟨_, ?_, .int _ _⟩
      simp only [binOp, ne_eq, not_true_eq_false, if_false, Op.intDiv, if_neg h0]
      rfl

theorem shift_ok {op : BinOp} {t : TypeId} {k k' : IntKind} {a b : Int} {v : V} (h : evShift op k a b = some v) {w : World} {M : Nat → Prop} {β : Beta} :
    ∃ x, (binOp op t (.int k a) (.int k' b)).run P w = .ok x w ∧ Rel w M β v x := by
  unfold evShift at h
  split at h
  · cases h
  · rename_i h0
    cases op <;> simp only [Option.some.injEq, reduceCtorEq] at h <;> subst h <;>
      exact ⟨_, by simp only [binOp, Op.shift, if_neg h0]; rfl, .int _ _⟩

theorem str_ok {op : BinOp} {t : TypeId} {a b : List UInt8} {v : V} (h : evStr op a b = some v) {w : World} {M : Nat → Prop} {β : Beta} :
    ∃ x, (binOp op t (.string ⟨a.toArray⟩) (.string ⟨b.toArray⟩)).run P w = .ok x w ∧ Rel w M β v x := by
  have e1 : ∀ l : List UInt8, (⟨l.toArray⟩ : ByteArray).toList = l := ByteArray.toList_mk
  have e2 : ∀ l : List UInt8, (⟨l.toArray⟩ : ByteArray).size = l.length := fun l => by simp [ByteArray.size]
  unfold evStr at h
  cases op <;> simp only [Option.some.injEq, reduceCtorEq] at h
  case add =>
    split at h
    · rename_i hl
      injection h with h
      subst h
      refine ⟨.string ⟨(a ++ b).toArray⟩, ?_, .str _⟩
      simp only [binOp, Op.stringOp, e2]
      have hmax : IntKind.i64.max = 9223372036854775807 := by decide
      rw [if_neg (by rw [hmax]; omega)]
      have : (⟨a.toArray⟩ : ByteArray) ++ ⟨b.toArray⟩ = ⟨(a ++ b).toArray⟩ := by
        apply ByteArray.ext
        simp
      rw [this]
      rfl
    · cases h
  all_goals
    subst h
    refine ⟨_, by simp only [binOp, Op.stringOp, e1]; rfl, .bool _⟩

end
end Go.TL
