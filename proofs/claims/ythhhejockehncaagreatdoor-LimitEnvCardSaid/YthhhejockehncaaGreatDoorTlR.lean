/-
  Tree land, part R: calls and regions.
-/
import Derived.Test.YthhhejockehncaaGreatDoorTlQ
set_option linter.all false
namespace Go.TL
open Go

section
variable {P : Program} {G : Globals}

/-- A call of f at the trees vs, rows σ: R of the result and the rows then. -/
def CallOk (P : Program) (G : Globals) (f : FuncId) (vs : List V) (σ : List Cell) (R : V → List Cell → Prop) : Prop :=
  ∀ A w β (xs : Array Value), SR G w A β σ → RelL w (Mav A β σ) β vs xs.toList →
    ∃ nx w1, (callFunc f xs).run P w = .ok nx w1 ∧
      ((∃ x v σ' β', nx = .value x ∧ R v σ' ∧ Rel w1 (Mav A β' σ') β' v x ∧ SR G w1 A β' σ' ∧ Ext w β σ w1 β' σ') ∨
       (nx = .enter f xs ∧ w1 = w ∧ Calls P f xs w (fun e w' => ∃ x v σ' β', e = .returned x ∧ R v σ' ∧ Rel w' (Mav A β' σ') β' v x ∧ SR G w' A β' σ' ∧ Ext w β σ w' β' σ')))

/-- f at vs gives r, and no more: nothing that was there is changed. -/
def Pure (P : Program) (G : Globals) (f : FuncId) (vs : List V) (r : V) : Prop :=
  ∀ A w (xs : Array Value), (∀ b, A b → b < w.heap.size) → Glob G A w → RelL w A [] vs xs.toList →
    ∃ nx w1, (callFunc f xs).run P w = .ok nx w1 ∧
      ((∃ x, nx = .value x ∧ Rel w1 A [] r x ∧ RowKit.Below w.heap.size w w1) ∨
       (nx = .enter f xs ∧ w1 = w ∧ Calls P f xs w (fun e w' => ∃ x, e = .returned x ∧ Rel w' A [] r x ∧ RowKit.Below w.heap.size w w')))

/-- vs' is vs as it reads now. -/
def FlatL (σ : List Cell) (vs vs' : List V) : Prop := vs'.length = vs.length ∧ ∀ i (h : i < vs.length) (h' : i < vs'.length), FlatR σ vs[i] vs'[i]

theorem FlatL.ok {w : World} {A : Nat → Prop} {β : Beta} {σ : List Cell} (h : SR G w A β σ) {vs vs' : List V} (hf : FlatL σ vs vs') {xs : List Value} (hr : RelL w (Mav A β σ) β vs xs) : RelL w A [] vs' xs :=
  ⟨by rw [hf.1]; exact hr.1, fun j hj x hx => (hf.2 j (by rw [← hf.1]; exact hj) hj).ok h (hr.2 j (by rw [← hf.1]; exact hj) x hx)⟩

theorem FlatL.closed {w : World} {M : Nat → Prop} {β : Beta} {vs vs' : List V} (hf : FlatL [] vs vs') {xs : List Value} (hr : RelL w M β vs xs) : RelL w M [] vs' xs :=
  ⟨by rw [hf.1]; exact hr.1, fun j hj x hx => closed_rel (hf.2 j (by rw [← hf.1]; exact hj) hj) (hr.2 j (by rw [← hf.1]; exact hj) x hx)⟩

theorem SR.after {w w' : World} {A : Nat → Prop} {β : Beta} {σ : List Cell} (h : SR G w A β σ) (hb : RowKit.Below w.heap.size w w') : SR G w' A β σ ∧ Ext w β σ w' β σ := h.grow hb

/-- A pure function whose arguments lead to rows of the caller's own, and whose result leads nowhere. -/
theorem CallOk.scalar {f : FuncId} {vs vs' : List V} {r : V} {σ : List Cell} (hp : Pure P G f vs' r) (hf : FlatL σ vs vs') (hs : Scal r) : CallOk P G f vs σ (fun v s => v = r ∧ s = σ) := by
  intro A w β xs h hr
  obtain ⟨nx, w1, h1, h2⟩ := hp A w xs h.low (h.glob.weaken fun b hb hA => hb (.inl hA)) (hf.ok h hr)
  refine ⟨nx, w1, h1, h2.imp ?_ ?_⟩
  · rintro ⟨x, rfl, hx, hb⟩
    obtain ⟨g1, g2⟩ := h.after hb
    exact ⟨x, r, σ, β, rfl, ⟨rfl, rfl⟩, hs.rel hx, g1, g2⟩
  · rintro ⟨rfl, rfl, hc⟩
    refine ⟨rfl, rfl, hc.mono ?_⟩
    rintro e w' ⟨x, rfl, hx, hb⟩
    obtain ⟨g1, g2⟩ := h.after hb
    exact ⟨x, r, σ, β, rfl, ⟨rfl, rfl⟩, hs.rel hx, g1, g2⟩

/-- A pure function whose arguments lead to no row of the caller's own. -/
theorem CallOk.closed {f : FuncId} {vs vs' : List V} {r : V} {σ : List Cell} (hp : Pure P G f vs' r) (hf : FlatL [] vs vs') : CallOk P G f vs σ (fun v s => v = r ∧ s = σ) := by
  intro A w β xs h hr
  have hlow : ∀ b, Mav A β σ b → b < w.heap.size := fun b hb => hb.elim (h.low b) (fun ⟨c, cl, q, h1, h2, h3⟩ => ((h.ok c cl _ h1 h3).free h2).2)
  obtain ⟨nx, w1, h1, h2⟩ := hp (Mav A β σ) w xs hlow h.glob (hf.closed hr)
  refine ⟨nx, w1, h1, h2.imp ?_ ?_⟩
  · rintro ⟨x, rfl, hx, hb⟩
    obtain ⟨g1, g2⟩ := h.after hb
    exact ⟨x, r, σ, β, rfl, ⟨rfl, rfl⟩, hx.up, g1, g2⟩
  · rintro ⟨rfl, rfl, hc⟩
    refine ⟨rfl, rfl, hc.mono ?_⟩
    rintro e w' ⟨x, rfl, hx, hb⟩
    obtain ⟨g1, g2⟩ := h.after hb
    exact ⟨x, r, σ, β, rfl, ⟨rfl, rfl⟩, hx.up, g1, g2⟩

theorem CallOk.mono {f : FuncId} {vs : List V} {σ : List Cell} {R R' : V → List Cell → Prop} (h : CallOk P G f vs σ R) (hr : ∀ v s, R v s → R' v s) : CallOk P G f vs σ R' := by
  intro A w β xs hs hx
  obtain ⟨nx, w1, h1, h2⟩ := h A w β xs hs hx
  refine ⟨nx, w1, h1, h2.imp ?_ ?_⟩
  · rintro ⟨x, v, σ', β', e, q, rest⟩
    exact ⟨x, v, σ', β', e, hr _ _ q, rest⟩
  · rintro ⟨e1, e2, hc⟩
    exact ⟨e1, e2, hc.mono fun e w' ⟨x, v, σ', β', e, q, rest⟩ => ⟨x, v, σ', β', e, hr _ _ q, rest⟩⟩

/-! ### prepared code -/

inductive K where
  | op (q : O)
  | call (f : FuncId) (args : List Opd)
  | dyn (fv : Opd) (args : List Opd)
  /-- Not covered: must not be carried out. -/
  | bad
  deriving Inhabited

structure PO where
  dst : Option Nat
  k : K
  guard : Option (Nat × Bool)
  deriving Inhabited

inductive PC where
  | skip
  | reg (ops : List PO)
  | drawn (ops : List PO) (before : List (List Nat))
  | seq (a b : PC)
  | cond (c : Opd) (a b : PC)
  | block (id : Nat) (b : PC)
  | loop (b : PC)
  /-- Not covered: must not be reached. -/
  | bad
  | exit (id : Nat)
  | ret
  deriving Inhabited

def prepK (mo : Bool) (P : Program) (op : Op) : Option K :=
  match op with
  | .call c => match c.callee with
    | .value (.func f) => some (.call f (c.args.toList.map prepOpd))
    | .value x => some (.dyn (prepOpd x) (c.args.toList.map prepOpd))
    | .builtin _ => (prepOp mo P op).map .op
    | _ => none
  | op => (prepOp mo P op).map .op

def prepGuard (ops : Array Oper) : Option (Nat × Bool) → Option (Option (Nat × Bool))
  | none => some none
  | some (j, b) => match (ops[j]?).bind (·.dst) with
    | some s => some (some (s, b))
    | none => none

def prepPO (mo : Bool) (P : Program) (ops : Array Oper) (o : Oper) : Option PO :=
  match prepGuard ops o.guard with
  | some g => some ⟨o.dst, (prepK mo P o.op).getD .bad, g⟩
  | none => none

def prepPOs (mo : Bool) (P : Program) (ops : Array Oper) : List Oper → Option (List PO)
  | [] => some []
  | o :: r => match prepPO mo P ops o, prepPOs mo P ops r with
    | some x, some l => some (x :: l)
    | _, _ => none

/-- Of each operation: which must come before it. -/
def afters (ops : Array Oper) : List (List Nat) := ops.toList.map fun o => (o.after.toList.filter (Region.binds .any)).map (·.on)

def prepC (mo : Bool) (P : Program) : Code → Option PC
  | .skip => some .skip
  | .region _ ops false => (prepPOs mo P ops ops.toList).map .reg
  | .region _ ops true => (prepPOs mo P ops ops.toList).map fun l => .drawn l (afters ops)
  | .seq a b => match prepC mo P a, prepC mo P b with
    | some x, some y => some (.seq x y)
    | _, _ => none
  | .cond c a b => match prepC mo P a, prepC mo P b with
    | some x, some y => some (.cond (prepOpd c) x y)
    | _, _ => none
  | .block id b => (prepC mo P b).map (.block id)
  | .loop b => (prepC mo P b).map .loop
  | .exit id => some (.exit id)
  | .ret => some .ret
  | _ => some .bad

def putV (tm : List V) (d : Option Nat) (v : V) : List V :=
  match d with
  | some d => tm.set d v
  | none => tm

theorem St.put {A : Nat → Prop} {w : World} {β : Beta} {σ : List Cell} {tm : List V} {a : Act} (h : St G A w β σ tm a) (d : Option Nat) {v : V} {x : Value} (hv : Rel w (Mav A β σ) β v x) :
    St G A w β σ (putV tm d v) (a.put d x) := by
  cases d with
  | none => exact h
  | some d => exact ⟨h.sr, h.tmps.set d hv, h.calm⟩

theorem St.ext {A : Nat → Prop} {w w' : World} {β β' : Beta} {σ σ' : List Cell} {tm : List V} {a : Act} (h : St G A w β σ tm a) (he : Ext w β σ w' β' σ') (hs : SR G w' A β' σ') : St G A w' β' σ' tm a := by
  obtain ⟨cs, hc, hb⟩ := h.calm
  exact ⟨hs, h.tmps.ext he, cs, hc.ext he, hb⟩

/-- One operation: R of its value and the rows behind it. -/
def vcK (P : Program) (G : Globals) (k : K) (tm : List V) (σ : List Cell) (R : V → List Cell → Prop) : Prop :=
  match k with
  | .op q => ∃ v σ', evO G tm σ q = some (v, σ') ∧ R v σ'
  | .call f args => CallOk P (G.at 0) f (args.map (ev G tm)) σ R
  | .dyn fv args => ∃ f as bs, ev G tm fv = .fn (.func f) as bs ∧ CallOk P (G.at 0) f (as ++ args.map (ev G tm) ++ bs) σ R
  | .bad => False

/-- Is the operation carried out? -/
def onG (tm : List V) : Option (Nat × Bool) → Option Bool
  | none => some true
  | some (s, b) => match tm.getD s .any with
    | .bool b' => some (b' == b)
    | .tup [] => some false
    | _ => none

theorem undef_rel {w : World} {M : Nat → Prop} {β : Beta} : Rel w M β (.tup []) undef := .tup rfl (fun j h => by simp at h)

def vcOps (P : Program) (G : Globals) : List PO → List V → List Cell → (List V → List Cell → Prop) → Prop
  | [], tm, σ, R => R tm σ
  | o :: r, tm, σ, R => match onG tm o.guard with
    | some true => vcK P G o.k tm σ (fun v s => vcOps P G r (putV tm o.dst v) s R)
    | some false => vcOps P G r (putV tm o.dst (.tup [])) σ R
    | none => False

end
end Go.TL
