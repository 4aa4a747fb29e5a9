/-
  Tree land, part E: what code does to a state of trees; the rules of control.
-/
import Derived.Test.YthhhejockehncaaGreatDoorTlD
import Derived.LoopNIn
set_option linter.all false
namespace Go.TL
open Go

/-- No fence; the round that the frame is of, if any. -/
abbrev FW (ro : Option Nat) : Fence := { Fence.wide with round := ro }

/-- The deferred calls of a frame are the marks of the ranges over functions that it has begun. -/
def Calm (β : Beta) (σ : List Cell) : List Deferred → List Nat → Prop
  | [], [] => True
  | d :: ds, c :: cs => (∃ r q, d.target = .collected r ∧ σ[c]? = some Cell.mark ∧ β[c]? = some (r, q)) ∧ c ∉ cs ∧ Calm β σ ds cs
  | _, _ => False

theorem Calm.ext {w w' : World} {β β' : Beta} {σ σ' : List Cell} (he : Ext w β σ w' β' σ') : ∀ {ds : List Deferred} {cs : List Nat}, Calm β σ ds cs → Calm β' σ' ds cs
  | [], [], _ => trivial
  | _ :: _, _ :: _, ⟨⟨r, q, h1, h2, h3⟩, h4, h5⟩ => ⟨⟨r, q, h1, he.marks _ h2, he.beta h3⟩, h4, h5.ext he⟩

/-- A frame's slots and the world, as trees. -/
structure St (G : Globals) (A : Nat → Prop) (w : World) (β : Beta) (σ : List Cell) (tm : List V) (a : Act) : Prop where
  sr : SR G w A β σ
  tmps : RelL w (Mav A β σ) β tm a.tmps.toList
  calm : ∃ cs, Calm β σ a.defers cs ∧ ∀ c ∈ cs, G.base ≤ c

abbrev Post := Exit → List V → List Cell → Prop

/-- From the trees tm, σ the code ends, without a panic of its own unless Q says so, in trees of which Q holds. -/
def Good (P : Program) (G : Globals) (ro : Option Nat) (c : Code) (tm : List V) (σ : List Cell) (Q : Post) : Prop :=
  ∀ A w β a, St G A w β σ tm a → c.wpIn (FW ro) 0 P (fun e a' w' => ∃ tm' σ' β', Q e tm' σ' ∧ St G A w' β' σ' tm' a' ∧ Ext w β σ w' β' σ') a w

section
variable {P : Program} {G : Globals} {ro : Option Nat}

theorem Good.mono {c : Code} {tm : List V} {σ : List Cell} {Q Q' : Post} (h : Good P G ro c tm σ Q) (hq : ∀ e t s, Q e t s → Q' e t s) : Good P G ro c tm σ Q' :=
  fun A w β a hs => wpIn_mono (h A w β a hs) fun _ _ _ ⟨t, s, b, h1, h2⟩ => ⟨t, s, b, hq _ _ _ h1, h2⟩

theorem Good.skip {tm : List V} {σ : List Cell} {Q : Post} (h : Q .normal tm σ) : Good P G ro .skip tm σ Q :=
  fun _ _ _ _ hs => wpIn_skip ⟨_, _, _, h, hs, .refl _ _ _⟩
theorem Good.label {l : Nat} {tm : List V} {σ : List Cell} {Q : Post} (h : Q .normal tm σ) : Good P G ro (.label l) tm σ Q :=
  fun _ _ _ _ hs => wpIn_label ⟨_, _, _, h, hs, .refl _ _ _⟩
theorem Good.exit {id : Nat} {tm : List V} {σ : List Cell} {Q : Post} (h : Q (.exit id) tm σ) : Good P G ro (.exit id) tm σ Q :=
  fun _ _ _ _ hs => wpIn_exit ⟨_, _, _, h, hs, .refl _ _ _⟩
theorem Good.ret {tm : List V} {σ : List Cell} {Q : Post} (h : Q .ret tm σ) : Good P G ro .ret tm σ Q :=
  fun _ _ _ _ hs => wpIn_ret ⟨_, _, _, h, hs, .refl _ _ _⟩

/-- Normally on to R, else Q. -/
def thenQ (R : List V → List Cell → Prop) (Q : Post) : Post
  | .normal, t, s => R t s
  | e, t, s => Q e t s
/-- Out of the block id. -/
def inBlockQ (id : Nat) (Q : Post) : Post
  | .exit id', t, s => if id' = id then Q .normal t s else Q (.exit id') t s
  | e, t, s => Q e t s

theorem Good.seq {x y : Code} {tm : List V} {σ : List Cell} {Q : Post} (h : Good P G ro x tm σ (thenQ (fun t s => Good P G ro y t s Q) Q)) : Good P G ro (.seq x y) tm σ Q := by
  intro A w β a hs
  refine wpIn_seq (wpIn_mono (h A w β a hs) ?_)
  rintro e a' w' ⟨t, s, b, hq, hst, he⟩
  cases e <;> first
    | exact wpIn_mono (hq A w' b a' hst) fun _ _ _ ⟨t', s', b', h1, h2, h3⟩ => ⟨t', s', b', h1, h2, he.trans h3⟩
    | exact ⟨t, s, b, hq, hst, he⟩

theorem Good.block {id : Nat} {c : Code} {tm : List V} {σ : List Cell} {Q : Post} (h : Good P G ro c tm σ (inBlockQ id Q)) : Good P G ro (.block id c) tm σ Q := by
  intro A w β a hs
  refine wpIn_block (wpIn_mono (h A w β a hs) ?_)
  rintro e a' w' ⟨t, s, b, hq, hst, he⟩
  cases e with
  | exit id' =>
    simp only [Exit.inBlock, inBlockQ] at *
    split
    · rename_i hid
      rw [if_pos hid] at hq
      exact ⟨t, s, b, hq, hst, he⟩
    · rename_i hid
      rw [if_neg hid] at hq
      exact ⟨t, s, b, hq, hst, he⟩
  | normal => exact ⟨t, s, b, hq, hst, he⟩
  | goto l => exact ⟨t, s, b, hq, hst, he⟩
  | ret => exact ⟨t, s, b, hq, hst, he⟩
  | panic c => exact ⟨t, s, b, hq, hst, he⟩
  | outgrown => exact ⟨t, s, b, hq, hst, he⟩

theorem roundsIn_more {F : Fence} {n : Nat} {c : Code} {Q : Exit → Act → World → Prop} : ∀ {m m' : Nat} {a : Act} {w : World}, m ≤ m' → Code.roundsIn F n P c Q m a w → Code.roundsIn F n P c Q m' a w
  | 0, _, _, _, _, h => h.elim
  | m + 1, 0, _, _, hle, _ => by omega
  | m + 1, m' + 1, a, w, hle, h => by
    rw [roundsIn_succ] at h ⊢
    refine wpIn_mono h fun e a w hq => ?_
    cases e <;> first | exact roundsIn_more (by omega) hq | exact hq

/-- A loop: what holds at a round's head with so much left to do. -/
theorem Good.loop {c : Code} {Q : Post} (I : Nat → List V → List Cell → Prop) (round : ∀ m tm σ, I m tm σ → Good P G ro c tm σ (thenQ (fun t s => ∃ m', m' < m ∧ I m' t s) Q))
    {m : Nat} {tm : List V} {σ : List Cell} (h0 : I m tm σ) : Good P G ro (.loop c) tm σ Q := by
  intro A w β a hs
  refine wpIn_loop_rounds (m + 1) ?_
  suffices key : ∀ m tm σ, I m tm σ → ∀ w' β' a', St G A w' β' σ tm a' → ∀ (w0 : World) (β0 : Beta) (σ0 : List Cell), Ext w0 β0 σ0 w' β' σ →
      Code.roundsIn (FW ro) 0 P c (fun e a' w' => ∃ tm' σ' β', Q e tm' σ' ∧ St G A w' β' σ' tm' a' ∧ Ext w0 β0 σ0 w' β' σ') (m + 1) a' w' from key m tm σ h0 w β a hs w β σ (.refl _ _ _)
  intro m
  induction m using Nat.strongRecOn with
  | _ m ih =>
    intro tm σ hI w' β' a' hst w0 β0 σ0 he0
    rw [roundsIn_succ]
    refine wpIn_mono (round m tm σ hI A w' β' a' hst) ?_
    rintro e a2 w2 ⟨t, s, b, hq, hst2, he2⟩
    cases e with
    | normal =>
      obtain ⟨m', hlt, hI'⟩ := hq
      exact roundsIn_more (by omega) (ih m' hlt t s hI' w2 b a2 hst2 w0 β0 σ0 (he0.trans he2))
    | exit id => exact ⟨t, s, b, hq, hst2, he0.trans he2⟩
    | goto l => exact ⟨t, s, b, hq, hst2, he0.trans he2⟩
    | ret => exact ⟨t, s, b, hq, hst2, he0.trans he2⟩
    | panic c => exact ⟨t, s, b, hq, hst2, he0.trans he2⟩
    | outgrown => exact ⟨t, s, b, hq, hst2, he0.trans he2⟩

/-! ### operands -/

def constLeaf : Value → V
  | .bool b => .bool b
  | .int k n => .int k n
  | .string s => .str s.data.toList
  | .pointer none => .nilp
  | .slice none 0 0 => .nils
  | .nilFunc => .nilf
  | .nilIface => .nili
  | .map none => .nilm
  | _ => .any
def constV : Value → V
  | .agg cs => if cs.toList.all (fun c => (constLeaf c).leaf) then .agg (cs.toList.map constLeaf) else .any
  | v => constLeaf v

inductive Opd where
  | t (n : Nat)
  | c (v : V)
  | g (n : Nat)
  deriving Inhabited

def prepOpd : Operand → Opd
  | .tmp t => .t t
  | .const v => .c (constV v)
  | .global g => .g g
  | .func f => .c (.fn (.func f) [] [])

def gval (G : Globals) (g : Nat) : V := match G.vars.find? (fun p => p.1 == g) with | some p => p.2 | none => .any
def ev (G : Globals) (tm : List V) : Opd → V
  | .t n => tm.getD n .any
  | .c v => v
  | .g n => gval G n

theorem constLeaf_rel {w : World} {M : Nat → Prop} {β : Beta} (v : Value) : Rel w M β (constLeaf v) v := by
  unfold constLeaf
  split <;> first | exact .any _ | exact .bool _ | exact .int _ _ | exact .nilp | exact .nils | exact .nilf | exact .nili | exact .nilm | skip
  exact .str _

theorem constV_rel {w : World} {M : Nat → Prop} {β : Beta} (v : Value) : Rel w M β (constV v) v := by
  unfold constV
  split
  · rename_i cs
    split
    · rename_i hall
      refine .agg (by simp) (fun x hx => ?_) (fun j hj => ?_)
      · obtain ⟨y, hy, rfl⟩ := List.mem_map.1 hx
        exact List.all_eq_true.1 hall y hy
      · have hj' : j < cs.size := by simpa using hj
        simp only [List.getElem_map, Array.getElem_toList]
        have : cs.getD j default = cs[j] := by simp [Array.getD, hj']
        rw [this]
        exact constLeaf_rel _
    · exact .any _
  · exact constLeaf_rel _

theorem ev_rel {A : Nat → Prop} {w : World} {β : Beta} {σ : List Cell} {tm : List V} {a : Act} (h : St G A w β σ tm a) (x : Operand) :
    Rel w (Mav A β σ) β (ev G tm (prepOpd x)) (a.eval x) := by
  cases x with
  | tmp t =>
    simp only [prepOpd, ev, Act.eval]
    by_cases ht : t < tm.length
    · have hl := h.tmps.1
      have hlt : t < a.tmps.size := by simpa using (by rw [hl]; exact ht : t < a.tmps.toList.length)
      have := h.tmps.2 t ht (a.tmps[t]) (by simp [hlt])
      simpa [List.getD, ht, Array.getD, hlt] using this
    · have : tm.getD t V.any = .any := by simp [List.getD, Nat.le_of_not_lt ht]
      rw [this]
      exact .any _
  | const v => exact constV_rel v
  | global g =>
    simp only [prepOpd, ev, Act.eval, gval]
    split
    · rename_i p hp
      have hm := List.mem_of_find?_eq_some hp
      have hg : p.1 = g := by simpa using List.find?_some hp
      have := h.sr.glob p hm
      rw [hg] at this
      exact this.weaken (fun b _ hb => ⟨rfl, hb⟩) (fun _ arr _ fr hh => ⟨arr, fr, hh, rfl⟩) (fun _ _ hq => by simp at hq)
    · exact .any _
  | func f =>
    exact .fn (by simp) (by simp) (fun j hj => by simp at hj) (fun j hj => by simp at hj)

theorem Good.cond {c : Operand} {x y : Code} {tm : List V} {σ : List Cell} {Q : Post} {b : Bool} (hc : ev G tm (prepOpd c) = .bool b) (h : Good P G ro (if b then x else y) tm σ Q) :
    Good P G ro (.cond c x y) tm σ Q := by
  intro A w β a hs
  have := ev_rel hs c
  rw [hc] at this
  generalize hv : a.eval c = v at this
  cases this
  exact wpIn_cond hv (h A w β a hs)

theorem RelL.set {w : World} {M : Nat → Prop} {β : Beta} {tm : List V} {xs : Array Value} (h : RelL w M β tm xs.toList) (d : Nat) {v : V} {x : Value} (hv : Rel w M β v x) :
    RelL w M β (tm.set d v) (xs.setIfInBounds d x).toList := by
  refine ⟨by simpa using h.1, fun j hj y hy => ?_⟩
  have hj' : j < tm.length := by simpa using hj
  rw [Array.toList_setIfInBounds] at hy
  by_cases e : d = j
  · subst e
    have hx : d < xs.toList.length := by rw [h.1]; exact hj'
    rw [List.getElem?_set_self hx] at hy
    injection hy with hy
    subst hy
    simpa using hv
  · rw [List.getElem?_set_ne e] at hy
    simp only [List.getElem_set_ne e]
    exact h.2 j hj' y hy

end
end Go.TL
