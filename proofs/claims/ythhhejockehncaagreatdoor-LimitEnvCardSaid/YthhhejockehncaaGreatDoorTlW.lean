/-
  Tree land, part W: prepared code, carried out.
-/
import Derived.Test.YthhhejockehncaaGreatDoorTlVA
set_option linter.all false
namespace Go.TL
open Go

section
variable {P : Program} {G : Globals}

inductive E where
  | n | x (id : Nat) | r
  deriving Inhabited
def E.exit : E → Exit
  | .n => .normal
  | .x id => .exit id
  | .r => .ret

/-- How calls are carried out: 'pure' at trees that lead nowhere; 'inl': in place, on the caller's rows. -/
structure Cl where
  pure : FuncId → List V → Option V
  inl : FuncId → Bool
  body : FuncId → List V → List Cell → Option (V × List Cell)

/-- A call that leaves the rows. -/
def callL (cl : Cl) (d : Nat) (σ : List Cell) (f : FuncId) (vs : List V) : Option V :=
  if cl.inl f then none else
  match mapO (flatV d σ) vs with
  | some vs' => match cl.pure f vs' with
    | some r => if scalB d r then some r else if (mapO (flatV d []) vs).isSome then some r else none
    | none => none
  | none => none

/-- A call; if need be, the rows that it is handed are sealed. -/
def callM (cl : Cl) (d : Nat) (σ : List Cell) (f : FuncId) (vs : List V) : Option (V × List Cell) :=
  if cl.inl f then cl.body f vs σ else
  match mapO (flatV d σ) vs with
  | some vs' => match cl.pure f vs' with
    | some r => if scalB d r then some (r, σ) else if (mapO (flatV d []) vs).isSome then some (r, σ) else
      if (mapO (flatV d (heldOnly (sealVs d vs σ))) vs).isSome then some (r, sealVs d vs σ) else none
    | none => none
  | none => none

def runK (cl : Cl) (d : Nat) (G : Globals) (tm : List V) (σ : List Cell) : K → Option (V × List Cell)
  | .op q => evO G tm σ q
  | .call f args => callM cl d σ f (args.map (ev G tm))
  | .dyn fv args => match ev G tm fv with
    | .fn (.func f) as bs => callM cl d σ f (as ++ args.map (ev G tm) ++ bs)
    | _ => none
  | .bad => none

/-- An operation that is not heavy. -/
def runL (cl : Cl) (d : Nat) (G : Globals) (tm : List V) (σ : List Cell) : K → Option V
  | .op q => (evO G tm σ q).map (·.1)
  | .call f args => callL cl d σ f (args.map (ev G tm))
  | .dyn fv args => match ev G tm fv with
    | .fn (.func f) as bs => callL cl d σ f (as ++ args.map (ev G tm) ++ bs)
    | _ => none
  | .bad => none

def fSpine {α : Type} (l : List V) (k : List V → α) : α := fList (fun v k => k v) l k
theorem fSpine_eq {α : Type} (l : List V) (k : List V → α) : fSpine l k = k l := fList_eq _ (fun _ _ => rfl) l k
def fRows {α : Type} (heavy : Bool) (σ : List Cell) (k : List Cell → α) : α := if heavy then fList fCell σ k else k σ
theorem fRows_eq {α : Type} (heavy : Bool) (σ : List Cell) (k : List Cell → α) : fRows heavy σ k = k σ := by
  unfold fRows
  split
  · exact fList_eq _ fCell_eq σ k
  · rfl

/-- Go on with the value v and the rows σ, worked out. -/
def fOn {α : Type} (tm : List V) (d : Option Nat) (heavy : Bool) (v : V) (σ : List Cell) (k : V → List V → List Cell → α) : α :=
  fV2 v fun v => fList (fun v k => k v) (putV tm d v) fun tm => if heavy then fList fCell σ fun σ => k v tm σ else k v tm σ

theorem fOn_eq {α : Type} (tm : List V) (d : Option Nat) (heavy : Bool) (v : V) (σ : List Cell) (k : V → List V → List Cell → α) : fOn tm d heavy v σ k = k v (putV tm d v) σ := by
  unfold fOn
  rw [fV2_eq, fList_eq _ (fun _ _ => rfl)]
  split
  · rw [fList_eq _ fCell_eq]
  · rfl

def runOps (cl : Cl) (d : Nat) (G : Globals) : List PO → List V → List Cell → Option (List V × List Cell)
  | [], tm, σ => some (tm, σ)
  | o :: r, tm, σ => match onG tm o.guard with
    | some true => match runK cl d G tm σ o.k with
      | some (v, σ') => fOn tm o.dst o.k.heavy v σ' fun _ tm σ => runOps cl d G r tm σ
      | none => none
    | some false => runOps cl d G r (putV tm o.dst (.tup [])) σ
    | none => none

def allIn : Nat → List Don → List Nat → Bool
  | _, [], _ => true
  | i, d :: r, B => (B.contains i || d.o.k.free) && allIn (i + 1) r B

def onlyGrow (dn : List Don) : Bool := dn.all fun d => !d.o.k.heavy || d.o.k.grows

def runD (cl : Cl) (d : Nat) (G : Globals) (tmM : Nat → List V) : List (PO × List Nat) → List Don → List (List Cell) → List Cell → Option (List Don × List Cell)
  | [], dn, _, cur => some (dn, cur)
  | (o, B) :: r, dn, sg, cur =>
    fSpine (seen 0 dn B (tmM dn.length)) fun tm =>
    if o.k.heavy then
      if allHv 0 dn B && (allIn 0 dn B || (o.k.grows && onlyGrow dn)) then
        match onG tm o.guard with
        | some true => match runK cl d G tm cur o.k with
          | some (v, s') => fV2 v fun v => fRows true s' fun s' => runD cl d G tmM r (dn ++ [⟨o, B, tm, v, sg.length⟩]) (sg ++ [cur]) s'
          | none => none
        | some false => runD cl d G tmM r (dn ++ [⟨o, B, tm, .tup [], sg.length⟩]) (sg ++ [cur]) cur
        | none => none
      else none
    else
      if lo 0 dn B == sg.length || onlyGrow dn || o.k.free then
        match onG tm o.guard with
        | some true => match runL cl d G tm ((sg ++ [cur]).getD (lo 0 dn B) []) o.k with
          | some v => fV2 v fun v => runD cl d G tmM r (dn ++ [⟨o, B, tm, v, sg.length⟩]) sg cur
          | none => none
        | some false => runD cl d G tmM r (dn ++ [⟨o, B, tm, .tup [], sg.length⟩]) sg cur
        | none => none
      else none

def runC (cl : Cl) (d : Nat) (G : Globals) : Nat → PC → List V → List Cell → Option (E × List V × List Cell)
  | 0, _, _, _ => none
  | n + 1, pc, tm, σ => match pc with
    | .skip => some (.n, tm, σ)
    | .reg ps => (runOps cl d G ps tm σ).map fun r => (.n, r)
    | .drawn ps bs => if planOk ps bs (closeB [] bs) then (runD cl d G (fun i => maskFor i (ps.zip (closeB [] bs)) tm) (ps.zip (closeB [] bs)) [] [] σ).bind fun r => fSpine (fin r.1 tm) fun t => some (.n, t, r.2) else none
    | .seq a b => match runC cl d G n a tm σ with
      | some (.n, t, s) => runC cl d G n b t s
      | r => r
    | .cond c a b => match ev G tm c with
      | .bool true => runC cl d G n a tm σ
      | .bool false => runC cl d G n b tm σ
      | _ => none
    | .block id b => match runC cl d G n b tm σ with
      | some (.x id', t, s) => if id' = id then some (.n, t, s) else some (.x id', t, s)
      | r => r
    | .loop b => match runC cl d G n b tm σ with
      | some (.n, t, s) => runC cl d G n (.loop b) t s
      | r => r
    | .exit id => some (.x id, tm, σ)
    | .ret => some (.r, tm, σ)
    | .bad => none

/-- What is known of functions: some by law ('place': on the caller's rows), the others by their code ('inl': in place). -/
structure Env where
  prim : FuncId → List V → Option (Option V)
  place : FuncId → List V → List Cell → Option (Option (V × List Cell))
  inl : FuncId → Bool
  fn : FuncId → Option (PC × Nat × List RS)

def noMarkB (σ : List Cell) : Bool := σ.all fun c => match c with | .mark => false | _ => true

def clOf (X : Env) (d : Nat) (b : FuncId → List V → List Cell → Option (V × List Cell)) : Cl where
  pure f vs := match X.prim f vs with
    | some r => r
    | none => match b f vs [] with
      | some (v, s) => flatV d s v
      | none => none
  inl := X.inl
  body f vs σ := match X.place f vs σ with
    | some r => r
    | none => b f vs σ

/-- A function's body, carried out on the rows σ. -/
def runB (X : Env) (d m : Nat) (G : Globals) : Nat → FuncId → List V → List Cell → Option (V × List Cell)
  | 0, _, _, _ => none
  | n + 1, f, vs, σ => match X.fn f with
    | some (pc, nt, res) => match runC (clOf X d (runB X d m G n)) d (G.at σ.length) m pc (vs ++ List.replicate (nt - vs.length) .any) σ with
      | some (.r, tm, s) | some (.n, tm, s) => if noMarkB (s.drop σ.length) then (retV tm s res).map fun v => (v, s) else none
      | _ => none
    | none => none

/-- A function at trees that lead nowhere. -/
def run (X : Env) (d m : Nat) (G : Globals) (n : Nat) (f : FuncId) (vs : List V) : Option V := (clOf X d (runB X d m G n)).pure f vs

end
end Go.TL
