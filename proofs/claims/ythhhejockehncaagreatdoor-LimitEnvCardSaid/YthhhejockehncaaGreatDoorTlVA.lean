/-
  Tree land, part VA: values, worked out before they are handed on (for the kernel, which is lazy).
-/
import Derived.Test.YthhhejockehncaaGreatDoorTlV
set_option linter.all false
namespace Go.TL
open Go

section
variable {α β : Type}

def fNat (n : Nat) (k : Nat → α) : α := match n with
  | 0 => k 0
  | m + 1 => k (Nat.succ m)
theorem fNat_eq (n : Nat) (k : Nat → α) : fNat n k = k n := by cases n <;> rfl

def fInt (n : Int) (k : Int → α) : α := match n with
  | .ofNat m => fNat m fun m => k (.ofNat m)
  | .negSucc m => fNat m fun m => k (.negSucc m)
theorem fInt_eq (n : Int) (k : Int → α) : fInt n k = k n := by cases n <;> simp [fInt, fNat_eq]

def fBool (b : Bool) (k : Bool → α) : α := match b with
  | true => k true
  | false => k false
theorem fBool_eq (b : Bool) (k : Bool → α) : fBool b k = k b := by cases b <;> rfl

def fList (f : β → (β → α) → α) : List β → (List β → α) → α
  | [], k => k []
  | a :: l, k => f a fun a => fList f l fun r => k (a :: r)
theorem fList_eq (f : β → (β → α) → α) (hf : ∀ a k, f a k = k a) : ∀ (l : List β) (k : List β → α), fList f l k = k l
  | [], k => rfl
  | a :: l, k => by
    show f a (fun a => fList f l fun r => k (a :: r)) = _
    rw [hf, fList_eq f hf]

/-- The value's own constructor and numbers. -/
def fV1 (v : V) (k : V → α) : α := match v with
  | .bool b => fBool b fun b => k (.bool b)
  | .int kd n => fInt n fun n => k (.int kd n)
  | .ref c i o => fNat c fun c => fNat i fun i => fNat o fun o => k (.ref c i o)
  | .osl c o n => fNat c fun c => fNat o fun o => fNat n fun n => k (.osl c o n)
  | .imm xs o => fNat o fun o => k (.imm xs o)
  | v => k v
theorem fV1_eq (v : V) (k : V → α) : fV1 v k = k v := by cases v <;> simp [fV1, fBool_eq, fInt_eq, fNat_eq]

/-- And the parts of structs, tuples, slices and texts. -/
def fV2 (v : V) (k : V → α) : α := match v with
  | .agg xs => fList fV1 xs fun xs => k (.agg xs)
  | .tup xs => fList fV1 xs fun xs => k (.tup xs)
  | .sl xs => fList fV1 xs fun xs => k (.sl xs)
  | .str s => fList (fun b k => k b) s fun s => k (.str s)
  | .ifc t v => fV1 v fun v => k (.ifc t v)
  | v => fV1 v k
theorem fV2_eq (v : V) (k : V → α) : fV2 v k = k v := by
  cases v <;> simp [fV2, fV1_eq, fList_eq _ fV1_eq, fList_eq (fun b k => k b) (fun _ _ => rfl)]

def fCell (c : Cell) (k : Cell → α) : α := match c with
  | .row s xs => fNat s fun s => fList fV2 xs fun xs => k (.row s xs)
  | .held s xs => fNat s fun s => fList fV2 xs fun xs => k (.held s xs)
  | c => k c
theorem fCell_eq (c : Cell) (k : Cell → α) : fCell c k = k c := by
  cases c <;> simp [fCell, fNat_eq, fList_eq _ fV2_eq]

end
end Go.TL
