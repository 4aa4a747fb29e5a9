/-
  Tree land, part AC: prepared code, walked from point to point; less may be told at any point.
-/
import Derived.Test.YthhhejockehncaaGreatDoorTlAB
set_option linter.all false
namespace Go.TL
open Go

section
variable {P : Program} {G : Globals} {ro : Option Nat}

/-- Where the call's rows began. -/
structure Bs where
  A : Nat → Prop
  w : World
  β : Beta
  σ : List Cell

def At (G : Globals) (B : Bs) (t : List V) (s : List Cell) (a : Act) (w : World) : Prop := ∃ β, St G B.A w β s t a ∧ Ext B.w B.β B.σ w β s
def Ok (G : Globals) (B : Bs) (Q : Post) (e : Exit) (a : Act) (w : World) : Prop := ∃ t s, Q e t s ∧ At G B t s a w

def BGood (P : Program) (G : Globals) (ro : Option Nat) (n : Nat) (pc : PC) (t : List V) (s : List Cell) (Q : Post) : Prop :=
  ∀ mo code, prepC mo P code = some pc → ∀ B : Bs, B.σ.length = n → B.β.length = n → ∀ a w, At G B t s a w → code.wpIn (FW ro) 0 P (Ok G B Q) a w

def BOps (P : Program) (G : Globals) (ro : Option Nat) (n : Nat) (ps : List PO) (t : List V) (s : List Cell) (R : List V → List Cell → Prop) : Prop :=
  ∀ mo (ops : Array Oper) (os : List Oper) (l : List Nat), prepPOs mo P ops os = some ps → l.map (ops[·]?) = os.map some → ∀ B : Bs, B.σ.length = n → B.β.length = n → ∀ a w, At G B t s a w →
    ∀ Q : Exit → Act → World → Prop, (∀ a' w', (∃ t' s', R t' s' ∧ At G B t' s' a' w') → Q .normal a' w') → wpOpsIn (FW ro) 0 P ops Q l a w

theorem At.weak {B : Bs} {n : Nat} {t u : List V} {s s' : List Cell} {a : Act} {w : World} (hw : Weak G n t s u s') (h1 : B.σ.length = n) (h2 : B.β.length = n) (h : At G B t s a w) : At G B u s' a w := by
  obtain ⟨β, hs, he⟩ := h
  subst h1
  obtain ⟨β1, g1, g2, g3, g4, g5⟩ := hw B.A w β a hs
  exact ⟨β1, g1, weak_ext he h2 g1.sr.len g2 g3 g4 g5⟩

/-- Q of something weaker. -/
def wk (G : Globals) (n : Nat) (Q : Post) : Post := fun e t s => ∃ u s', Weak G n t s u s' ∧ Q e u s'

theorem Ok.mono {B : Bs} {Q Q' : Post} {e : Exit} {a : Act} {w : World} (h : Ok G B Q e a w) (hq : ∀ t s, Q e t s → Q' e t s) : Ok G B Q' e a w := by
  obtain ⟨t, s, h1, h2⟩ := h
  exact ⟨t, s, hq _ _ h1, h2⟩

theorem Ok.unwk {B : Bs} {n : Nat} {Q : Post} {e : Exit} {a : Act} {w : World} (h1 : B.σ.length = n) (h2 : B.β.length = n) (h : Ok G B (wk G n Q) e a w) : Ok G B Q e a w := by
  obtain ⟨t, s, ⟨u, s', hw, hq⟩, h3⟩ := h
  exact ⟨u, s', hq, h3.weak hw h1 h2⟩

section rules
variable {n : Nat} {t u : List V} {s s' : List Cell} {Q Q' : Post}

theorem BGood.weak {pc : PC} (hw : Weak G n t s u s') (h : BGood P G ro n pc u s' Q) : BGood P G ro n pc t s Q := fun mo code hc B h1 h2 a w ha => h mo code hc B h1 h2 a w (ha.weak hw h1 h2)
theorem BGood.mono {pc : PC} (h : BGood P G ro n pc t s Q) (hq : ∀ e t s, Q e t s → Q' e t s) : BGood P G ro n pc t s Q' := fun mo code hc B h1 h2 a w ha =>
  wpIn_mono (h mo code hc B h1 h2 a w ha) fun _ _ _ ho => ho.mono (hq _)
theorem BOps.weak {ps : List PO} {R : List V → List Cell → Prop} (hw : Weak G n t s u s') (h : BOps P G ro n ps u s' R) : BOps P G ro n ps t s R := fun mo ops os l e1 e2 B h1 h2 a w ha => h mo ops os l e1 e2 B h1 h2 a w (ha.weak hw h1 h2)

theorem BGood.of {pc : PC} (h : PGood P G ro pc t s Q) : BGood P G ro n pc t s Q := by
  rintro mo code hc B h1 h2 a w ⟨β, hs, he⟩
  refine wpIn_mono (h mo code hc B.A w β a hs) ?_
  rintro e a' w' ⟨t', s', b, hq, hst, he'⟩
  exact ⟨t', s', hq, b, hst, he.trans he'⟩

theorem BGood.seq {x y : PC} (h : BGood P G ro n x t s (thenQ (fun t s => BGood P G ro n y t s Q) Q)) : BGood P G ro n (.seq x y) t s Q := by
  intro mo code hc B h1 h2 a w ha
  obtain ⟨c, d, rfl, e1, e2⟩ := inv_seq hc
  refine wpIn_seq (wpIn_mono (h mo c e1 B h1 h2 a w ha) ?_)
  rintro e a' w' ⟨t', s', hq, hat⟩
  cases e <;> first
    | exact hq mo d e2 B h1 h2 a' w' hat
    | exact ⟨t', s', hq, hat⟩

theorem BGood.block {id : Nat} {x : PC} (h : BGood P G ro n x t s (inBlockQ id Q)) : BGood P G ro n (.block id x) t s Q := by
  intro mo code hc B h1 h2 a w ha
  obtain ⟨c, rfl, e1⟩ := inv_block hc
  refine wpIn_block (wpIn_mono (h mo c e1 B h1 h2 a w ha) ?_)
  rintro e a' w' ⟨t', s', hq, hat⟩
  cases e with
  | exit id' =>
    simp only [Exit.inBlock, inBlockQ] at *
    split
    · rename_i hid
      rw [if_pos hid] at hq
      exact ⟨t', s', hq, hat⟩
    · rename_i hid
      rw [if_neg hid] at hq
      exact ⟨t', s', hq, hat⟩
  | normal => exact ⟨t', s', hq, hat⟩
  | goto l => exact ⟨t', s', hq, hat⟩
  | ret => exact ⟨t', s', hq, hat⟩
  | panic c => exact ⟨t', s', hq, hat⟩
  | outgrown => exact ⟨t', s', hq, hat⟩

theorem BGood.cond {c : Opd} {x y : PC} {b : Bool} (hb : ev G t c = .bool b) (h : BGood P G ro n (if b then x else y) t s Q) : BGood P G ro n (.cond c x y) t s Q := by
  rintro mo code hc B h1 h2 a w ⟨β, hs, he⟩
  obtain ⟨q, ca, cb, rfl, rfl, e1, e2⟩ := inv_cond hc
  have hrel := ev_rel hs q
  rw [hb] at hrel
  have hv : a.eval q = .bool b := by
    revert hrel
    generalize a.eval q = z
    intro hrel
    cases hrel
    rfl
  refine wpIn_cond hv ?_
  cases b
  · exact h mo cb e2 B h1 h2 a w ⟨β, hs, he⟩
  · exact h mo ca e1 B h1 h2 a w ⟨β, hs, he⟩

theorem BGood.loop {x : PC} (I : Nat → List V → List Cell → Prop) (round : ∀ m t s, I m t s → BGood P G ro n x t s (thenQ (fun t' s' => ∃ u s'', Weak G n t' s' u s'' ∧ ∃ m', m' < m ∧ I m' u s'') Q))
    {m : Nat} (h0 : I m t s) : BGood P G ro n (.loop x) t s Q := by
  intro mo code hc B h1 h2 a w ha
  obtain ⟨c, rfl, e1⟩ := inv_loop hc
  refine wpIn_loop_rounds (m + 1) ?_
  suffices key : ∀ m t s, I m t s → ∀ a w, At G B t s a w → Code.roundsIn (FW ro) 0 P c (Ok G B Q) (m + 1) a w from key m t s h0 a w ha
  intro m
  induction m using Nat.strongRecOn with
  | _ m ih =>
    intro t s hI a w ha
    rw [roundsIn_succ]
    refine wpIn_mono (round m t s hI mo c e1 B h1 h2 a w ha) ?_
    rintro e a2 w2 ⟨t2, s2, hq, hat⟩
    cases e with
    | normal =>
      obtain ⟨u, s3, hw, m', hlt, hI'⟩ := hq
      exact roundsIn_more (by omega) (ih m' hlt u s3 hI' a2 w2 (hat.weak hw h1 h2))
    | exit id => exact ⟨t2, s2, hq, hat⟩
    | goto l => exact ⟨t2, s2, hq, hat⟩
    | ret => exact ⟨t2, s2, hq, hat⟩
    | panic c => exact ⟨t2, s2, hq, hat⟩
    | outgrown => exact ⟨t2, s2, hq, hat⟩

theorem BGood.reg {ps : List PO} (h : BOps P G ro n ps t s (fun t s => Q .normal t s)) : BGood P G ro n (.reg ps) t s Q := by
  intro mo code hc B h1 h2 a w ha
  obtain ⟨id, ops, rfl, hp⟩ := inv_reg hc
  refine wpIn_region (h mo ops ops.toList _ hp ?_ B h1 h2 a w ha _ fun a' w' ⟨t', s', hq, hat⟩ => ⟨t', s', hq, hat⟩)
  apply List.ext_getElem?
  intro j
  by_cases hj : j < ops.size
  · simp [hj]
  · simp [hj]

theorem BOps.nil {R : List V → List Cell → Prop} (h : R t s) : BOps P G ro n [] t s R := by
  intro mo ops os l hp hl B h1 h2 a w ha Q hQ
  have ho : os = [] := by
    cases os with
    | nil => rfl
    | cons o os => simp only [prepPOs] at hp; split at hp <;> cases hp
  subst ho
  have : l = [] := by simpa using hl
  subst this
  exact hQ a w ⟨t, s, h, ha⟩

theorem BOps.cons {o : PO} {r : List PO} {R : List V → List Cell → Prop} (hg : onG t o.guard = some true) (h : vcK P G o.k t s (fun v s => BOps P G ro n r (putV t o.dst v) s R)) : BOps P G ro n (o :: r) t s R := by
  rintro mo ops os l hp hl B h1 h2 a w ⟨β, hs, he⟩ Q hQ
  match os, l, hp, hl with
  | [], _, hp, _ => simp [prepPOs] at hp
  | o' :: os, [], _, hl => simp at hl
  | o' :: os, i :: l, hp, hl =>
  simp only [List.map_cons, List.cons.injEq] at hl
  obtain ⟨hi, hl⟩ := hl
  simp only [prepPOs] at hp
  split at hp <;> try (cases hp; done)
  rename_i p r' hpo hr
  injection hp with hp
  injection hp with hp1 hp2
  subst hp1; subst hp2
  unfold prepPO at hpo
  split at hpo <;> try (cases hpo; done)
  rename_i g hgg
  injection hpo with hpo
  subst hpo
  rw [wpOpsIn_cons]
  unfold wpOpIn
  simp only [hi]
  rw [onG_ok hgg hs hg]
  simp only [if_true]
  obtain ⟨k, hk, hk'⟩ : ∃ k, prepK mo P o'.op = some k ∧ vcK P G k t s (fun v s => BOps P G ro n r' (putV t o'.dst v) s R) := by
    cases hk : prepK mo P o'.op with
    | none => rw [hk] at h; exact h.elim
    | some k => rw [hk] at h; exact ⟨k, rfl, h⟩
  refine Oper.wpIn_mono ?_ (vcK_ok hk hs hk' Q)
  intro a' w' hbe
  obtain ⟨v, s2, b, hv, hst, he2⟩ := hbe.st hs
  exact hv mo ops os l hr hl B h1 h2 a' w' ⟨b, hst, he.trans he2⟩ Q hQ

theorem BOps.off {o : PO} {r : List PO} {R : List V → List Cell → Prop} (hg : onG t o.guard = some false) (h : BOps P G ro n r (putV t o.dst (.tup [])) s R) : BOps P G ro n (o :: r) t s R := by
  rintro mo ops os l hp hl B h1 h2 a w ⟨β, hs, he⟩ Q hQ
  match os, l, hp, hl with
  | [], _, hp, _ => simp [prepPOs] at hp
  | o' :: os, [], _, hl => simp at hl
  | o' :: os, i :: l, hp, hl =>
  simp only [List.map_cons, List.cons.injEq] at hl
  obtain ⟨hi, hl⟩ := hl
  simp only [prepPOs] at hp
  split at hp <;> try (cases hp; done)
  rename_i p r' hpo hr
  injection hp with hp
  injection hp with hp1 hp2
  subst hp1; subst hp2
  unfold prepPO at hpo
  split at hpo <;> try (cases hpo; done)
  rename_i g hgg
  injection hpo with hpo
  subst hpo
  rw [wpOpsIn_cons]
  unfold wpOpIn
  simp only [hi]
  rw [onG_ok hgg hs hg]
  simp only [Bool.false_eq_true, if_false]
  exact ⟨fun _ _ => trivial, h mo ops os l hr hl B h1 h2 _ w ⟨β, hs.put o'.dst undef_rel, he⟩ Q hQ⟩

/-- At the beginning. -/
theorem BGood.begin {pc : PC} (h : BGood P G ro s.length pc t s Q) : PGood P G ro pc t s Q := by
  intro mo code hc A w β a hs
  refine wpIn_mono (h mo code hc ⟨A, w, β, s⟩ rfl hs.sr.len a w ⟨β, hs, .refl _ _ _⟩) ?_
  rintro e a' w' ⟨t', s', hq, b, hst, he⟩
  exact ⟨t', s', b, hq, hst, he⟩
end rules

/-! ### what is left to do -/

inductive T where
  | pc (c : PC)
  | ops (l : List PO)
  | blk (id : Nat)
  | jp (J : List V → List Cell → Prop)

def Qof (P : Program) (G : Globals) (ro : Option Nat) (n : Nat) (R : Post) : List T → Post
  | [] => wk G n R
  | .pc b :: k => thenQ (fun t s => BGood P G ro n b t s (Qof P G ro n R k)) (Qof P G ro n R k)
  | .ops l :: k => thenQ (fun t s => BOps P G ro n l t s (fun t s => Qof P G ro n R k .normal t s)) (Qof P G ro n R k)
  | .blk id :: k => inBlockQ id (Qof P G ro n R k)
  | .jp J :: k => thenQ (fun t s => ∃ u s', Weak G n t s u s' ∧ J u s') (Qof P G ro n R k)

/-- With k left to do, from the trees t and the rows s, it ends well. -/
def Run (P : Program) (G : Globals) (ro : Option Nat) (n : Nat) (R : Post) (k : List T) (t : List V) (s : List Cell) : Prop := Qof P G ro n R k .normal t s

theorem Qof.weak {n : Nat} {R : Post} {t u : List V} {s s' : List Cell} (hw : Weak G n t s u s') : ∀ {k : List T} {e : Exit}, Qof P G ro n R k e u s' → Qof P G ro n R k e t s
  | [], e, h => by
    obtain ⟨u2, s2, h1, h2⟩ := h
    exact ⟨u2, s2, hw.trans h1, h2⟩
  | .pc b :: k, e, h => by
    have ih : ∀ {e : Exit}, Qof P G ro n R k e u s' → Qof P G ro n R k e t s := Qof.weak hw
    cases e <;> first | exact BGood.weak hw h | exact ih h
  | .ops l :: k, e, h => by
    have ih : ∀ {e : Exit}, Qof P G ro n R k e u s' → Qof P G ro n R k e t s := Qof.weak hw
    cases e <;> first | exact BOps.weak hw h | exact ih h
  | .blk id :: k, e, h => by
    have ih : ∀ {e : Exit}, Qof P G ro n R k e u s' → Qof P G ro n R k e t s := Qof.weak hw
    cases e with
    | exit id' =>
      simp only [Qof, inBlockQ] at h ⊢
      split at h
      · rename_i hid; rw [if_pos hid]; exact ih h
      · rename_i hid; rw [if_neg hid]; exact ih h
    | normal => exact ih (e := .normal) h
    | goto l => exact ih (e := .goto l) h
    | ret => exact ih (e := .ret) h
    | panic c => exact ih (e := .panic c) h
    | outgrown => exact ih (e := .outgrown) h
  | .jp J :: k, e, h => by
    have ih : ∀ {e : Exit}, Qof P G ro n R k e u s' → Qof P G ro n R k e t s := Qof.weak hw
    cases e with
    | normal => obtain ⟨u2, s2, h1, h2⟩ := h; exact ⟨u2, s2, hw.trans h1, h2⟩
    | exit id => exact ih (e := .exit id) h
    | goto l => exact ih (e := .goto l) h
    | ret => exact ih (e := .ret) h
    | panic c => exact ih (e := .panic c) h
    | outgrown => exact ih (e := .outgrown) h

section go
variable {n : Nat} {R : Post} {k : List T} {t u : List V} {s s' : List Cell}

theorem go_weak (hw : Weak G n t s u s') (h : Run P G ro n R k u s') : Run P G ro n R k t s := Qof.weak hw h
theorem go_skip (h : Run P G ro n R k t s) : Run P G ro n R (.pc .skip :: k) t s := BGood.of (.skip h)
theorem go_reg {ps : List PO} (h : Run P G ro n R (.ops ps :: k) t s) : Run P G ro n R (.pc (.reg ps) :: k) t s := BGood.reg h
theorem go_seq {a b : PC} (h : Run P G ro n R (.pc a :: .pc b :: k) t s) : Run P G ro n R (.pc (.seq a b) :: k) t s := BGood.seq h
theorem go_block {id : Nat} {b : PC} (h : Run P G ro n R (.pc b :: .blk id :: k) t s) : Run P G ro n R (.pc (.block id b) :: k) t s := BGood.block h
theorem go_blk {id : Nat} (h : Run P G ro n R k t s) : Run P G ro n R (.blk id :: k) t s := h
theorem go_nil (h : Run P G ro n R k t s) : Run P G ro n R (.ops [] :: k) t s := BOps.nil h
theorem go_cond {c : Opd} {a b : PC} (z : Bool) (hz : ev G t c = .bool z) (h1 : z = true → Run P G ro n R (.pc a :: k) t s) (h2 : z = false → Run P G ro n R (.pc b :: k) t s) : Run P G ro n R (.pc (.cond c a b) :: k) t s := by
  refine BGood.cond hz ?_
  cases z
  · exact h2 rfl
  · exact h1 rfl

/-- Out of the block id. -/
def unwind (id : Nat) : List T → Option (List T)
  | [] => none
  | .blk id' :: k => if id = id' then some k else unwind id k
  | _ :: k => unwind id k

theorem unwind_ok {id : Nat} : ∀ {k k' : List T}, unwind id k = some k' → Run P G ro n R k' t s → Qof P G ro n R k (.exit id) t s
  | [], _, h, _ => by cases h
  | .blk id' :: k, k', h, hr => by
    simp only [unwind] at h
    simp only [Qof, inBlockQ]
    split at h
    · rename_i hid
      subst hid
      injection h with h
      subst h
      rw [if_pos rfl]
      exact hr
    · rename_i hid
      rw [if_neg hid]
      exact unwind_ok h hr
  | .pc _ :: k, k', h, hr => unwind_ok (k := k) h hr
  | .ops _ :: k, k', h, hr => unwind_ok (k := k) h hr
  | .jp _ :: k, k', h, hr => unwind_ok (k := k) h hr

theorem go_exit {id : Nat} {k' : List T} (hk : unwind id k = some k') (h : Run P G ro n R k' t s) : Run P G ro n R (.pc (.exit id) :: k) t s := BGood.of (.exit (unwind_ok hk h))

theorem qof_ret (h : wk G n R .ret t s) : ∀ {k : List T}, Qof P G ro n R k .ret t s
  | [] => h
  | .blk _ :: k => qof_ret (k := k) h
  | .pc _ :: k => qof_ret (k := k) h
  | .ops _ :: k => qof_ret (k := k) h
  | .jp _ :: k => qof_ret (k := k) h

theorem Weak.rfl' (hn : n ≤ s.length) : Weak G n t s t s := .refl hn

theorem go_ret (hn : n ≤ s.length) (h : R .ret t s) : Run P G ro n R (.pc .ret :: k) t s := BGood.of (.ret (qof_ret ⟨t, s, .refl hn, h⟩))
theorem go_end (hn : n ≤ s.length) (h : R .normal t s) : Run P G ro n R [] t s := ⟨t, s, .refl hn, h⟩

theorem go_op {d : Option Nat} {q : O} {g : Option (Nat × Bool)} {r : List PO} {v : V} (hg : onG t g = some true) (hv : evO G t s q = some (v, s')) (h : Run P G ro n R (.ops r :: k) (putV t d v) s') :
    Run P G ro n R (.ops (⟨d, .op q, g⟩ :: r) :: k) t s := BOps.cons hg ⟨v, s', hv, h⟩
theorem go_off {d : Option Nat} {q : K} {g : Option (Nat × Bool)} {r : List PO} (hg : onG t g = some false) (h : Run P G ro n R (.ops r :: k) (putV t d (.tup [])) s) :
    Run P G ro n R (.ops (⟨d, q, g⟩ :: r) :: k) t s := BOps.off hg h

/-- A call whose result has no memory. -/
theorem go_call {d : Option Nat} {f : FuncId} {args : List Opd} {g : Option (Nat × Bool)} {r : List PO} {vs' : List V} {v : V} (hg : onG t g = some true) (hp : Pure P (G.at 0) f vs' v) (hf : FlatL s (args.map (ev G t)) vs') (hs : scalB 4 v = true)
    (h : Run P G ro n R (.ops r :: k) (putV t d v) s) : Run P G ro n R (.ops (⟨d, .call f args, g⟩ :: r) :: k) t s :=
  BOps.cons hg (CallOk.mono (CallOk.scalar hp hf (scalB_ok hs)) fun _ _ ⟨e1, e2⟩ => by subst e1; subst e2; exact h)
/-- A call whose arguments lead to no row. -/
theorem go_callc {d : Option Nat} {f : FuncId} {args : List Opd} {g : Option (Nat × Bool)} {r : List PO} {vs' : List V} {v : V} (hg : onG t g = some true) (hp : Pure P (G.at 0) f vs' v) (hf : FlatL [] (args.map (ev G t)) vs')
    (h : Run P G ro n R (.ops r :: k) (putV t d v) s) : Run P G ro n R (.ops (⟨d, .call f args, g⟩ :: r) :: k) t s :=
  BOps.cons hg (CallOk.mono (CallOk.closed hp hf) fun _ _ ⟨e1, e2⟩ => by subst e1; subst e2; exact h)
theorem go_dyn {d : Option Nat} {fv : Opd} {f : FuncId} {as bs : List V} {args : List Opd} {g : Option (Nat × Bool)} {r : List PO} {vs' : List V} {v : V} (hg : onG t g = some true) (hv : ev G t fv = .fn (.func f) as bs) (hp : Pure P (G.at 0) f vs' v)
    (hf : FlatL s (as ++ args.map (ev G t) ++ bs) vs') (hs : scalB 4 v = true) (h : Run P G ro n R (.ops r :: k) (putV t d v) s) : Run P G ro n R (.ops (⟨d, .dyn fv args, g⟩ :: r) :: k) t s :=
  BOps.cons hg ⟨f, as, bs, hv, CallOk.mono (CallOk.scalar hp hf (scalB_ok hs)) fun _ _ ⟨e1, e2⟩ => by subst e1; subst e2; exact h⟩
theorem go_dync {d : Option Nat} {fv : Opd} {f : FuncId} {as bs : List V} {args : List Opd} {g : Option (Nat × Bool)} {r : List PO} {vs' : List V} {v : V} (hg : onG t g = some true) (hv : ev G t fv = .fn (.func f) as bs) (hp : Pure P (G.at 0) f vs' v)
    (hf : FlatL [] (as ++ args.map (ev G t) ++ bs) vs') (h : Run P G ro n R (.ops r :: k) (putV t d v) s) : Run P G ro n R (.ops (⟨d, .dyn fv args, g⟩ :: r) :: k) t s :=
  BOps.cons hg ⟨f, as, bs, hv, CallOk.mono (CallOk.closed hp hf) fun _ _ ⟨e1, e2⟩ => by subst e1; subst e2; exact h⟩

/-- What is to be shown at the end of a function that is carried out on the caller's rows. -/
def InR (res : List RS) (n : Nat) (K : V → List Cell → Prop) : Post := fun e t s => (e = .ret ∨ e = .normal) ∧ NoMark n s ∧ ∃ v, retV t s res = some v ∧ K v s

theorem go_inl {d : Option Nat} {f : FuncId} {args : List Opd} {g : Option (Nat × Bool)} {r : List PO} {pc : PC} {nt : Nat} {res : List RS} (hg : onG t g = some true) (hf : FnOk P f pc nt res)
    (h : Run P (G.at s.length) none s.length (InR res s.length fun v s' => Run P G ro n R (.ops r :: k) (putV t d v) s') [.pc pc] (args.map (ev G t) ++ List.replicate (nt - (args.map (ev G t)).length) .any) s) :
    Run P G ro n R (.ops (⟨d, .call f args, g⟩ :: r) :: k) t s := by
  refine BOps.cons hg (CallOk.of_body hf ?_)
  refine BGood.begin (Q := InR res s.length fun v s' => Run P G ro n R (.ops r :: k) (putV t d v) s') ?_
  intro mo code hc B h1 h2 a w ha
  refine wpIn_mono (h mo code hc B h1 h2 a w ha) ?_
  intro e a' w' ho
  exact Ok.unwk h1 h2 ho

theorem go_inld {d : Option Nat} {fv : Opd} {f : FuncId} {as bs : List V} {args : List Opd} {g : Option (Nat × Bool)} {r : List PO} {pc : PC} {nt : Nat} {res : List RS} (hg : onG t g = some true) (hv : ev G t fv = .fn (.func f) as bs) (hf : FnOk P f pc nt res)
    (h : Run P (G.at s.length) none s.length (InR res s.length fun v s' => Run P G ro n R (.ops r :: k) (putV t d v) s') [.pc pc]
      ((as ++ args.map (ev G t) ++ bs) ++ List.replicate (nt - (as ++ args.map (ev G t) ++ bs).length) .any) s) :
    Run P G ro n R (.ops (⟨d, .dyn fv args, g⟩ :: r) :: k) t s := by
  refine BOps.cons hg ⟨f, as, bs, hv, CallOk.of_body hf ?_⟩
  refine BGood.begin (Q := InR res s.length fun v s' => Run P G ro n R (.ops r :: k) (putV t d v) s') ?_
  intro mo code hc B h1 h2 a w ha
  refine wpIn_mono (h mo code hc B h1 h2 a w ha) ?_
  intro e a' w' ho
  exact Ok.unwk h1 h2 ho

theorem go_loop {b : PC} (I : Nat → List V → List Cell → Prop) (m : Nat) (h0 : I m t s) (h : ∀ m t s, I m t s → Run P G ro n R (.pc b :: .jp (fun t s => ∃ m', m' < m ∧ I m' t s) :: k) t s) :
    Run P G ro n R (.pc (.loop b) :: k) t s := BGood.loop I h h0
theorem go_jp {J : List V → List Cell → Prop} (hw : Weak G n t s u s') (h : J u s') : Run P G ro n R (.jp J :: k) t s := ⟨u, s', hw, h⟩

/-- A whole function. -/
theorem pure_of_run {f : FuncId} {pc : PC} {nt : Nat} {res : List RS} (hf : FnOk P f pc nt res) {vs : List V} {r : V}
    (h : Run P (G.at 0) none 0 (fun e t s => (e = .ret ∨ e = .normal) ∧ ∃ v, retV t s res = some v ∧ FlatR s v r) [.pc pc] (vs ++ List.replicate (nt - vs.length) .any) []) : Pure P (G.at 0) f vs r := by
  refine Pure.of_body hf (BGood.begin (Q := fun e t s => (e = .ret ∨ e = .normal) ∧ ∃ v, retV t s res = some v ∧ FlatR s v r) ?_)
  intro mo code hc B h1 h2 a w ha
  refine wpIn_mono (h mo code hc B h1 h2 a w ha) ?_
  intro e a' w' ho
  exact Ok.unwk h1 h2 ho
end go

end
end Go.TL
