/-
  Tree land, part S: prepared code is sound; functions from their bodies.
-/
import Derived.Test.YthhhejockehncaaGreatDoorTlR
import Derived.RangeFuncLeaves
set_option linter.all false
namespace Go.TL
open Go

section
variable {P : Program} {G : Globals} {ro : Option Nat} {mo : Bool}

theorem callsIn_fw {f : FuncId} {args : Array Value} {w : World} {R : Ending → World → Prop} {n : Nat} (h : Calls P f args w R) : CallsIn (FW ro) n P f args w R :=
  (callsIn_wide (n := n)).2 h

theorem RelL.append {w : World} {M : Nat → Prop} {β : Beta} {vs us : List V} {xs ys : List Value} (h1 : RelL w M β vs xs) (h2 : RelL w M β us ys) : RelL w M β (vs ++ us) (xs ++ ys) := by
  refine ⟨by simp [h1.1, h2.1], fun j hj x hx => ?_⟩
  by_cases hlt : j < vs.length
  · rw [List.getElem?_append_left (by rw [h1.1]; exact hlt)] at hx
    rw [List.getElem_append_left hlt]
    exact h1.2 j hlt x hx
  · rw [List.getElem?_append_right (by rw [h1.1]; omega)] at hx
    rw [List.getElem_append_right (by omega)]
    refine h2.2 _ _ x ?_
    rw [← hx, h1.1]

theorem fn_parts {w : World} {M : Nat → Prop} {β : Beta} {f : Fn} {as bs : List V} {x : Value} (h : Rel w M β (.fn f as bs) x) : ∃ fa cb, x = .func f fa cb ∧ RelL w M β as fa.toList ∧ RelL w M β bs cb.toList := by
  cases h with
  | fn q1 q2 r1 r2 =>
    rename_i fa cb
    have key : ∀ (zs : List V) (cs : Array Value), cs.size = zs.length → (∀ j (h : j < zs.length), Rel w M β zs[j] (cs.getD j default)) → RelL w M β zs cs.toList := by
      intro zs cs hl hr
      refine ⟨by simpa using hl, fun j hj y hy => ?_⟩
      have hlt : j < cs.size := by omega
      have := hr j hj
      simp [hlt] at hy
      simpa [Array.getD, hlt, hy] using this
    exact ⟨fa, cb, rfl, key _ _ q1 r1, key _ _ q2 r2⟩

theorem SR.at {w : World} {A : Nat → Prop} {β : Beta} {σ : List Cell} (h : SR G w A β σ) (n : Nat) : SR (G.at n) w A β σ := ⟨h.len, h.glob, h.low, h.ok, h.dist⟩
theorem SR.back {w : World} {A : Nat → Prop} {β : Beta} {σ : List Cell} {n : Nat} (h : SR (G.at n) w A β σ) : SR G w A β σ := ⟨h.len, h.glob, h.low, h.ok, h.dist⟩

/-- Behind one operation. -/
def Behind (G : Globals) (A : Nat → Prop) (w : World) (β : Beta) (σ : List Cell) (a : Act) (d : Option Nat) (R : V → List Cell → Prop) (a' : Act) (w' : World) : Prop :=
  ∃ x v σ' β', a' = a.put d x ∧ R v σ' ∧ Rel w' (Mav A β' σ') β' v x ∧ SR G w' A β' σ' ∧ Ext w β σ w' β' σ'

theorem callStep {o : Oper} {f : FuncId} {xs : Array Value} {A : Nat → Prop} {w : World} {β : Beta} {σ : List Cell} {a : Act} (hs : SR G w A β σ) {vs : List V} (hrun : execOp a.eval o = callFunc f xs)
    (hnd : ∀ c, o.op ≠ .defer c) (hr : RelL w (Mav A β σ) β vs xs.toList) {R : V → List Cell → Prop} (hc : CallOk P (G.at 0) f vs σ R) (Q : Exit → Act → World → Prop) :
    o.wpIn (FW ro) 0 P a w (Behind G A w β σ a o.dst R) Q := by
  refine ⟨fun _ _ => trivial, ?_⟩
  rw [Oper.semAt_eq _ _ _ hnd, hrun]
  obtain ⟨nx, w1, h1, h2⟩ := hc A w β xs (hs.at 0) hr
  rw [h1]
  rcases h2 with ⟨x, v, σ', β', rfl, q, r1, r2, r3⟩ | ⟨rfl, rfl, hcalls⟩
  · exact ⟨x, v, σ', β', rfl, q, r1, r2.back, r3⟩
  · refine ⟨fun h => by simp [Fence.wide] at h, callsIn_fw (hcalls.mono ?_)⟩
    rintro e w' ⟨x, v, σ', β', rfl, q, r1, r2, r3⟩
    exact ⟨x, v, σ', β', rfl, q, r1, r2.back, r3⟩

theorem prepK_defer {op : Op} {k : K} (h : prepK mo P op = some k) : ∀ c, op ≠ .defer c := by
  rintro c rfl
  simp [prepK, prepOp] at h

theorem vcK_ok {o : Oper} {k : K} (hk : prepK mo P o.op = some k) {A : Nat → Prop} {w : World} {β : Beta} {σ : List Cell} {tm : List V} {a : Act} (hs : St G A w β σ tm a) {R : V → List Cell → Prop}
    (h : vcK P G k tm σ R) (Q : Exit → Act → World → Prop) : o.wpIn (FW ro) 0 P a w (Behind G A w β σ a o.dst R) Q := by
  have hnd := prepK_defer hk
  have hop : ∀ q, prepOp mo P o.op = some q → vcK P G (.op q) tm σ R → o.wpIn (FW ro) 0 P a w (Behind G A w β σ a o.dst R) Q := by
    intro q hq hv
    obtain ⟨v, σ', h1, h2⟩ := hv
    obtain ⟨nx, x, w', β', r1, r2, r3, r4, r5⟩ := op_ok hq hs h1
    refine ⟨fun _ _ => trivial, ?_⟩
    rw [Oper.semAt_eq _ _ _ hnd, r1]
    rcases r2 with rfl | ⟨rfl, rfl⟩
    · exact ⟨x, v, σ', β', rfl, h2, r3, r4, r5⟩
    · exact ⟨_, v, σ', β', rfl, h2, r3, r4, r5⟩
  unfold prepK at hk
  split at hk
  · rename_i c ho
    split at hk <;> try (cases hk; done)
    · rename_i f hcal
      injection hk with hk
      subst hk
      refine callStep hs.sr (xs := c.args.map a.eval) ?_ hnd (evs_rel hs c.args) h Q
      simp only [execOp, ho, resolve, hcal, Act.eval, Deferred.ofValue, pure_bind, invoke]
      simp
    · rename_i x hx hcal
      injection hk with hk
      subst hk
      obtain ⟨f, as, bs, hfv, hc⟩ := h
      have hrel := ev_rel hs x
      rw [hfv] at hrel
      obtain ⟨fa, cb, he, hra, hrb⟩ := fn_parts hrel
      refine callStep hs.sr (xs := fa ++ c.args.map a.eval ++ cb) ?_ hnd ?_ hc Q
      · simp only [execOp, ho, resolve, hcal, he, Deferred.ofValue, pure_bind, invoke]
      · simp only [Array.toList_append]
        exact (hra.append (evs_rel hs c.args)).append hrb
    · obtain ⟨q, hq, rfl⟩ := map_some hk
      exact hop q hq h
  · obtain ⟨q, hq, rfl⟩ := map_some hk
    exact hop q hq h

theorem Behind.st {A : Nat → Prop} {w w' : World} {β : Beta} {σ : List Cell} {tm : List V} {a a' : Act} {d : Option Nat} {R : V → List Cell → Prop} (hs : St G A w β σ tm a) (h : Behind G A w β σ a d R a' w') :
    ∃ v σ' β', R v σ' ∧ St G A w' β' σ' (putV tm d v) a' ∧ Ext w β σ w' β' σ' := by
  obtain ⟨x, v, σ', β', rfl, h1, h2, h3, h4⟩ := h
  exact ⟨v, σ', β', h1, (hs.ext h4 h3).put d h2, h4⟩

theorem onG_ok {ops : Array Oper} {o : Oper} {g : Option (Nat × Bool)} (hg : prepGuard ops o.guard = some g) {A : Nat → Prop} {w : World} {β : Beta} {σ : List Cell} {tm : List V} {a : Act} (hs : St G A w β σ tm a) {b : Bool}
    (h : onG tm g = some b) : Region.wanted o (yielded ops a.tmps) = b := by
  unfold Region.wanted
  cases ho : o.guard with
  | none =>
    rw [ho] at hg
    simp only [prepGuard, Option.some.injEq] at hg
    subst hg
    simp only [onG, Option.some.injEq] at h
    exact h
  | some p =>
    obtain ⟨j, want⟩ := p
    rw [ho] at hg
    simp only [prepGuard] at hg
    split at hg <;> try (cases hg; done)
    rename_i s hsl
    injection hg with hg
    subst hg
    simp only [onG] at h
    split at h <;> try (cases h; done)
    rotate_left
    · rename_i hb
      injection h with h
      subst h
      have hlt : s < tm.length := by
        rcases Nat.lt_or_ge s tm.length with hlt | hge
        · exact hlt
        · simp [List.getD, Nat.not_lt.2 hge] at hb
      have hlt' : s < a.tmps.size := by simpa using (by rw [hs.tmps.1]; exact hlt : s < a.tmps.toList.length)
      have hrel := hs.tmps.2 s hlt a.tmps[s] (by simp [hlt'])
      have hval : tm[s] = .tup [] := by simpa [List.getD, hlt] using hb
      rw [hval] at hrel
      have hv : ∃ arr, a.tmps[s]? = some (.tuple arr) := by
        cases hx : a.tmps[s] <;> rw [hx] at hrel <;> cases hrel
        exact ⟨_, by rw [Array.getElem?_eq_getElem hlt', hx]⟩
      obtain ⟨arr, hv⟩ := hv
      simp only [yielded, hsl, Option.bind_some, hv]
      rfl
    rename_i b' hb
    injection h with h
    subst h
    have hlt : s < tm.length := by
      rcases Nat.lt_or_ge s tm.length with hlt | hge
      · exact hlt
      · simp [List.getD, Nat.not_lt.2 hge] at hb
    have hlt' : s < a.tmps.size := by simpa using (by rw [hs.tmps.1]; exact hlt : s < a.tmps.toList.length)
    have hrel := hs.tmps.2 s hlt a.tmps[s] (by simp [hlt'])
    have hval : tm[s] = .bool b' := by simpa [List.getD, hlt] using hb
    rw [hval] at hrel
    have hv : a.tmps[s]? = some (.bool b') := by
      cases hx : a.tmps[s] <;> rw [hx] at hrel <;> cases hrel
      simp [hlt', hx]
    simp only [yielded, hsl, Option.bind_some, hv]
    cases b' <;> cases want <;> rfl

theorem vcOps_ok {ops : Array Oper} : ∀ (os : List Oper) (l : List Nat) (ps : List PO) (tm : List V) (σ : List Cell) (R : List V → List Cell → Prop), prepPOs mo P ops os = some ps → l.map (ops[·]?) = os.map some →
    vcOps P G ps tm σ R → ∀ A w β a, St G A w β σ tm a → ∀ (Q : Exit → Act → World → Prop), (∀ a' w', (∃ tm' σ' β', R tm' σ' ∧ St G A w' β' σ' tm' a' ∧ Ext w β σ w' β' σ') → Q .normal a' w') →
    wpOpsIn (FW ro) 0 P ops Q l a w
  | [], l, ps, tm, σ, R, hp, hl, h, A, w, β, a, hs, Q, hQ => by
    have : l = [] := by simpa using hl
    subst this
    simp only [prepPOs, Option.some.injEq] at hp
    subst hp
    exact hQ a w ⟨tm, σ, β, h, hs, .refl _ _ _⟩
  | o :: os, l, ps, tm, σ, R, hp, hl, h, A, w, β, a, hs, Q, hQ => by
    match l, hl with
    | i :: l, hl =>
      simp only [List.map_cons, List.cons.injEq] at hl
      obtain ⟨hi, hl⟩ := hl
      simp only [prepPOs] at hp
      split at hp <;> try (cases hp; done)
      rename_i p r hpo hr
      injection hp with hp
      subst hp
      unfold prepPO at hpo
      split at hpo <;> try (cases hpo; done)
      rename_i g hg
      injection hpo with hpo
      subst hpo
      simp only [vcOps] at h
      rw [wpOpsIn_cons]
      unfold wpOpIn
      simp only [hi]
      split at h
      · rename_i hon
        rw [onG_ok hg hs hon]
        simp only [if_true]
        obtain ⟨k, hk, hk'⟩ : ∃ k, prepK mo P o.op = some k ∧ vcK P G k tm σ (fun v s => vcOps P G r (putV tm o.dst v) s R) := by
          cases hk : prepK mo P o.op with
          | none => rw [hk] at h; exact h.elim
          | some k => rw [hk] at h; exact ⟨k, rfl, h⟩
        refine Oper.wpIn_mono ?_ (vcK_ok hk hs hk' Q)
        intro a' w' hbe
        obtain ⟨v, s, b, hv, hst, he⟩ := hbe.st hs
        exact vcOps_ok os l r _ s R hr hl hv A w' b a' hst Q fun a2 w2 ⟨t2, s2, b2, q1, q2, q3⟩ => hQ a2 w2 ⟨t2, s2, b2, q1, q2, he.trans q3⟩
      · rename_i hon
        rw [onG_ok hg hs hon]
        simp only [Bool.false_eq_true, if_false]
        exact ⟨fun _ _ => trivial, vcOps_ok os l r _ σ R hr hl h A w β _ (hs.put o.dst undef_rel) Q hQ⟩
      · exact h.elim

theorem Good.reg {id : Nat} {ops : Array Oper} {ps : List PO} (hp : prepPOs mo P ops ops.toList = some ps) {tm : List V} {σ : List Cell} {Q : Post} (h : vcOps P G ps tm σ (fun t s => Q .normal t s)) :
    Good P G ro (.region id ops false) tm σ Q := by
  intro A w β a hs
  refine wpIn_region (vcOps_ok ops.toList _ ps tm σ _ hp ?_ h A w β a hs _ fun a' w' hq => hq)
  apply List.ext_getElem?
  intro j
  by_cases hj : j < ops.size
  · simp [hj]
  · simp [hj]

/-- Of prepared code. -/
def PGood (P : Program) (G : Globals) (ro : Option Nat) (c : PC) (tm : List V) (σ : List Cell) (Q : Post) : Prop := ∀ mo code, prepC mo P code = some c → Good P G ro code tm σ Q

theorem PGood.mono {c : PC} {tm : List V} {σ : List Cell} {Q Q' : Post} (h : PGood P G ro c tm σ Q) (hq : ∀ e t s, Q e t s → Q' e t s) : PGood P G ro c tm σ Q' := fun mo code hc => (h mo code hc).mono hq

theorem inv_skip {code : Code} (hc : prepC mo P code = some .skip) : code = .skip := by
  unfold prepC at hc
  split at hc
  all_goals first | rfl | (cases hc; done) | (obtain ⟨_, _, h⟩ := map_some hc; cases h; done) | (split at hc <;> cases hc; done)
theorem inv_ret {code : Code} (hc : prepC mo P code = some .ret) : code = .ret := by
  unfold prepC at hc
  split at hc
  all_goals first | rfl | (cases hc; done) | (obtain ⟨_, _, h⟩ := map_some hc; cases h; done) | (split at hc <;> cases hc; done)
theorem inv_exit {code : Code} {id : Nat} (hc : prepC mo P code = some (.exit id)) : code = .exit id := by
  unfold prepC at hc
  split at hc
  all_goals first | (cases hc; done) | (cases hc; rfl) | (obtain ⟨_, _, h⟩ := map_some hc; cases h; done) | (split at hc <;> cases hc; done)
theorem inv_reg {code : Code} {ps : List PO} (hc : prepC mo P code = some (.reg ps)) : ∃ id ops, code = .region id ops false ∧ prepPOs mo P ops ops.toList = some ps := by
  unfold prepC at hc
  split at hc
  all_goals first
    | (cases hc; done)
    | (obtain ⟨_, h1, h⟩ := map_some hc; injection h with h; subst h; exact ⟨_, _, rfl, h1⟩)
    | (obtain ⟨_, _, h⟩ := map_some hc; cases h; done)
    | (split at hc <;> cases hc; done)
theorem inv_drawn {code : Code} {ps : List PO} {bs : List (List Nat)} (hc : prepC mo P code = some (.drawn ps bs)) : ∃ id ops, code = .region id ops true ∧ prepPOs mo P ops ops.toList = some ps ∧ bs = afters ops := by
  unfold prepC at hc
  split at hc
  all_goals first
    | (cases hc; done)
    | (obtain ⟨_, h1, h⟩ := map_some hc; injection h with h h'; subst h; exact ⟨_, _, rfl, h1, h'.symm⟩)
    | (obtain ⟨_, _, h⟩ := map_some hc; cases h; done)
    | (split at hc <;> cases hc; done)
theorem inv_seq {code : Code} {x y : PC} (hc : prepC mo P code = some (.seq x y)) : ∃ a b, code = .seq a b ∧ prepC mo P a = some x ∧ prepC mo P b = some y := by
  unfold prepC at hc
  split at hc
  all_goals first
    | (cases hc; done)
    | (obtain ⟨_, _, h⟩ := map_some hc; cases h; done)
    | (split at hc <;> first | (cases hc; done) | (injection hc with hc; injection hc with h1 h2; subst h1; subst h2; exact ⟨_, _, rfl, ‹_›, ‹_›⟩); done)
theorem inv_cond {code : Code} {c : Opd} {x y : PC} (hc : prepC mo P code = some (.cond c x y)) : ∃ q a b, code = .cond q a b ∧ prepOpd q = c ∧ prepC mo P a = some x ∧ prepC mo P b = some y := by
  unfold prepC at hc
  split at hc
  all_goals first
    | (cases hc; done)
    | (obtain ⟨_, _, h⟩ := map_some hc; cases h; done)
    | (split at hc <;> first | (cases hc; done) | (injection hc with hc; injection hc with h0 h1 h2; subst h1; subst h2; exact ⟨_, _, _, rfl, h0, ‹_›, ‹_›⟩); done)
theorem inv_block {code : Code} {id : Nat} {x : PC} (hc : prepC mo P code = some (.block id x)) : ∃ a, code = .block id a ∧ prepC mo P a = some x := by
  unfold prepC at hc
  split at hc
  all_goals first
    | (cases hc; done)
    | (obtain ⟨_, h1, h⟩ := map_some hc; injection h with h h'; subst h; subst h'; exact ⟨_, rfl, h1⟩)
    | (obtain ⟨_, _, h⟩ := map_some hc; cases h; done)
    | (split at hc <;> cases hc; done)
theorem inv_loop {code : Code} {x : PC} (hc : prepC mo P code = some (.loop x)) : ∃ a, code = .loop a ∧ prepC mo P a = some x := by
  unfold prepC at hc
  split at hc
  all_goals first
    | (cases hc; done)
    | (obtain ⟨_, h1, h⟩ := map_some hc; injection h with h; subst h; exact ⟨_, rfl, h1⟩)
    | (obtain ⟨_, _, h⟩ := map_some hc; cases h; done)
    | (split at hc <;> cases hc; done)

theorem PGood.skip {tm : List V} {σ : List Cell} {Q : Post} (h : Q .normal tm σ) : PGood P G ro .skip tm σ Q := by
  intro mo code hc
  rw [inv_skip hc]
  exact Good.skip h
theorem PGood.ret {tm : List V} {σ : List Cell} {Q : Post} (h : Q .ret tm σ) : PGood P G ro .ret tm σ Q := by
  intro mo code hc
  rw [inv_ret hc]
  exact Good.ret h
theorem PGood.exit {id : Nat} {tm : List V} {σ : List Cell} {Q : Post} (h : Q (.exit id) tm σ) : PGood P G ro (.exit id) tm σ Q := by
  intro mo code hc
  rw [inv_exit hc]
  exact Good.exit h
theorem PGood.reg {ps : List PO} {tm : List V} {σ : List Cell} {Q : Post} (h : vcOps P G ps tm σ (fun t s => Q .normal t s)) : PGood P G ro (.reg ps) tm σ Q := by
  intro mo code hc
  obtain ⟨id, ops, rfl, hp⟩ := inv_reg hc
  exact Good.reg hp h
theorem PGood.seq {x y : PC} {tm : List V} {σ : List Cell} {Q : Post} (h : PGood P G ro x tm σ (thenQ (fun t s => PGood P G ro y t s Q) Q)) : PGood P G ro (.seq x y) tm σ Q := by
  intro mo code hc
  obtain ⟨a, b, rfl, h1, h2⟩ := inv_seq hc
  refine Good.seq ((h mo a h1).mono fun e t s hq => ?_)
  cases e <;> first | exact hq mo b h2 | exact hq
theorem PGood.cond {c : Opd} {x y : PC} {tm : List V} {σ : List Cell} {Q : Post} {b : Bool} (hb : ev G tm c = .bool b) (h : PGood P G ro (if b then x else y) tm σ Q) : PGood P G ro (.cond c x y) tm σ Q := by
  intro mo code hc
  obtain ⟨q, a, b', rfl, rfl, h1, h2⟩ := inv_cond hc
  cases b
  · exact Good.cond hb (h mo b' h2)
  · exact Good.cond hb (h mo a h1)
theorem PGood.block {id : Nat} {x : PC} {tm : List V} {σ : List Cell} {Q : Post} (h : PGood P G ro x tm σ (inBlockQ id Q)) : PGood P G ro (.block id x) tm σ Q := by
  intro mo code hc
  obtain ⟨a, rfl, h1⟩ := inv_block hc
  exact Good.block (h mo a h1)
theorem PGood.loop {x : PC} {Q : Post} (I : Nat → List V → List Cell → Prop) (round : ∀ m tm σ, I m tm σ → PGood P G ro x tm σ (thenQ (fun t s => ∃ m', m' < m ∧ I m' t s) Q))
    {m : Nat} {tm : List V} {σ : List Cell} (h0 : I m tm σ) : PGood P G ro (.loop x) tm σ Q := by
  intro mo code hc
  obtain ⟨a, rfl, h1⟩ := inv_loop hc
  exact Good.loop I (fun m tm σ hI => round m tm σ hI mo a h1) h0

end
end Go.TL
