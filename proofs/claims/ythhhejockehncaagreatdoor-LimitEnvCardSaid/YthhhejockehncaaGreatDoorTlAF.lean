/-
  Tree land, part AF: lists, texts and numbers as Lean's own; the operations on them.
-/
import Derived.Test.YthhhejockehncaaGreatDoorTlAE
set_option linter.all false
namespace Go.TL
open Go

abbrev i64 (n : Int) : V := .int .i64 n

def getI {α : Type} (l : List α) (n : Int) : Option α := if 0 ≤ n then l[n.toNat]? else none
def slcI {α : Type} (l : List α) (lo hi : Int) : Option (List α) := if 0 ≤ hi ∧ hi ≤ (l.length : Int) ∧ 0 ≤ lo ∧ lo ≤ hi then some ((l.drop lo.toNat).take (hi.toNat - lo.toNat)) else none
def catS (a b : List UInt8) : Option (List UInt8) := if a.length + b.length ≤ 4611686018427387904 then some (a ++ b) else none
def appI {α : Type} (bytes : Nat) (l ys : List α) : Option (List α) := if (l.length + ys.length) * bytes ≤ 35184372088832 then some (l ++ ys) else none
def makeI {α : Type} (bytes : Nat) (n : Int) (z : α) : Option (List α) := if 0 ≤ n ∧ n * bytes ≤ 35184372088832 then some (List.replicate n.toNat z) else none
def setI {α : Type} (l : List α) (n : Int) (y : α) : List α := l.set n.toNat y
def quoI (k : IntKind) (a b : Int) : Option Int := if b = 0 then none else some (k.wrap (a.tdiv b))
def remI (a b : Int) : Option Int := if b = 0 then none else some (a.tmod b)
def shlI (k : IntKind) (a b : Int) : Option Int := if b < 0 then none else some (k.wrap (a * 2 ^ (min b.toNat k.bits)))
def shrI (k : IntKind) (a b : Int) : Option Int := if b < 0 then none else some (a.fdiv (2 ^ (min b.toNat k.bits)))

/-- How a loop ends: the function returns, or what is behind the loop goes on. -/
inductive Br (ρ τ : Type) where
  | ret (r : ρ)
  | brk (x : τ)

section
variable {P : Program} {G : Globals} {ro : Option Nat} {s s' : List Cell}

/-! ### what is to be shown apart -/

theorem ob_op {q : O} {v : V} (h : evO G [] s q = some (v, s')) : ObOk P G (.w (.op q) s v s') := ⟨v, s', h, rfl, rfl⟩
theorem ob_gop {q : O} {v : V} (hl : (K.op q).heavy = false) (h : evO G [] s q = some (v, s)) : ObOk P G (.g (.op q) s v) := fun l => ⟨v, s ++ l, (evO_light hl h).2 l, rfl, rfl⟩

theorem map_ev_c (vs : List V) : (vs.map Opd.c).map (ev G []) = vs := by
  rw [List.map_map]
  exact List.map_id' _

theorem ob_call {f : FuncId} {args : List Opd} {vs' : List V} {v : V} (hp : Pure P (G.at 0) f vs' v) (hf : FlatL s (args.map (ev G [])) vs') (hs : scalB 4 v = true) : ObOk P G (.w (.call f args) s v s) :=
  CallOk.mono (CallOk.scalar hp hf (scalB_ok hs)) fun _ _ h => h
theorem ob_gcall {f : FuncId} {args : List Opd} {vs' : List V} {v : V} (hp : Pure P (G.at 0) f vs' v) (hf : FlatL s (args.map (ev G [])) vs') (hs : scalB 4 v = true) : ObOk P G (.g (.call f args) s v) :=
  fun l => CallOk.mono (CallOk.scalar hp (hf.grow l) (scalB_ok hs)) fun _ _ h => h
theorem ob_callc {f : FuncId} {args : List Opd} {vs' : List V} {v : V} (hp : Pure P (G.at 0) f vs' v) (hf : FlatL [] (args.map (ev G [])) vs') : ObOk P G (.w (.call f args) s v s) :=
  CallOk.mono (CallOk.closed hp hf) fun _ _ h => h
theorem ob_gcallc {f : FuncId} {args : List Opd} {vs' : List V} {v : V} (hp : Pure P (G.at 0) f vs' v) (hf : FlatL [] (args.map (ev G [])) vs') : ObOk P G (.g (.call f args) s v) :=
  fun _ => CallOk.mono (CallOk.closed hp hf) fun _ _ h => h
theorem ob_dyn {f : FuncId} {as bs : List V} {args : List Opd} {vs' : List V} {v : V} (hp : Pure P (G.at 0) f vs' v) (hf : FlatL s (as ++ args.map (ev G []) ++ bs) vs') (hs : scalB 4 v = true) : ObOk P G (.w (.dyn (.c (.fn (.func f) as bs)) args) s v s) :=
  ⟨f, as, bs, rfl, CallOk.mono (CallOk.scalar hp hf (scalB_ok hs)) fun _ _ h => h⟩
theorem ob_gdyn {f : FuncId} {as bs : List V} {args : List Opd} {vs' : List V} {v : V} (hp : Pure P (G.at 0) f vs' v) (hf : FlatL s (as ++ args.map (ev G []) ++ bs) vs') (hs : scalB 4 v = true) : ObOk P G (.g (.dyn (.c (.fn (.func f) as bs)) args) s v) :=
  fun l => ⟨f, as, bs, rfl, CallOk.mono (CallOk.scalar hp (hf.grow l) (scalB_ok hs)) fun _ _ h => h⟩
theorem ob_dync {f : FuncId} {as bs : List V} {args : List Opd} {vs' : List V} {v : V} (hp : Pure P (G.at 0) f vs' v) (hf : FlatL [] (as ++ args.map (ev G []) ++ bs) vs') : ObOk P G (.w (.dyn (.c (.fn (.func f) as bs)) args) s v s) :=
  ⟨f, as, bs, rfl, CallOk.mono (CallOk.closed hp hf) fun _ _ h => h⟩
theorem ob_gdync {f : FuncId} {as bs : List V} {args : List Opd} {vs' : List V} {v : V} (hp : Pure P (G.at 0) f vs' v) (hf : FlatL [] (as ++ args.map (ev G []) ++ bs) vs') : ObOk P G (.g (.dyn (.c (.fn (.func f) as bs)) args) s v) :=
  fun _ => ⟨f, as, bs, rfl, CallOk.mono (CallOk.closed hp hf) fun _ _ h => h⟩

/-- A bool that is known. -/
theorem e_b {q : O} {E z : Bool} (hb : E = z) (he : evO G [] s q = some (.bool E, s)) : evO G [] s q = some (.bool z, s) := by subst hb; exact he

theorem getI_some {α : Type} {l : List α} {n : Int} {y : α} (h : getI l n = some y) : 0 ≤ n ∧ n < (l.length : Int) ∧ l[n.toNat]? = some y := by
  unfold getI at h
  split at h <;> try (cases h; done)
  rename_i h0
  have := get_lt h
  exact ⟨h0, by omega, h⟩

theorem e_ia {α : Type} {l : List α} {f : α → V} {xs : List V} {z : Nat} {k : IntKind} {n : Int} {y : α} (hxs : xs = l.map f) (h : getI l n = some y) (hz : (f y).cells.length = z) : evO G [] s (.ia z (.c (.sl xs)) (.c (.int k n))) = some (.imm (f y).cells 0, s) := by
  subst hxs
  obtain ⟨h1, h2, h3⟩ := getI_some h
  simp only [evO, ev, evIA, List.length_map]
  rw [if_pos ⟨h1, h2⟩]
  simp [h3, hz]

theorem e_iaosl {c z : Nat} {m : Nat} {xs : List V} {k : IntKind} {n : Int} (hr : rowOf s c = some (z, xs)) (h1 : 0 ≤ n) (h2 : n < (m : Int)) : evO G [] s (.ia z (.c (.osl c 0 m)) (.c (.int k n))) = some (.ref c n.toNat 0, s) := by
  simp only [evO, ev, evIA]
  rw [if_pos ⟨h1, h2⟩, hr]
  simp

theorem len_setI {α : Type} (l : List α) (n : Int) (y : α) : (setI l n y).length = l.length := by simp [setI]

theorem e_iaosl' {α : Type} {l : List α} {f : α → V} {c z m : Nat} {k : IntKind} {n : Int} {y : α} (hr : rowOf s c = some (z, l.map f)) (h : getI l n = some y) (hm : m = l.length) : evO G [] s (.ia z (.c (.osl c 0 m)) (.c (.int k n))) = some (.ref c n.toNat 0, s) := by
  subst hm
  obtain ⟨h1, h2, -⟩ := getI_some h
  exact e_iaosl hr h1 h2

theorem e_ldAref {α : Type} {l : List α} {f : α → V} {c z o n : Nat} {i : Int} {y : α} {cs : List V} (hr : rowOf s c = some (z, l.map f)) (h : getI l i = some y) (hc : ((f y).cells.drop o).take n = cs) (hn : o + n ≤ (f y).cells.length) :
    evO G [] s (.ldA n (.c (.ref c i.toNat o))) = some (.agg cs, s) := by
  obtain ⟨-, -, h3⟩ := getI_some h
  subst hc
  simp [evO, ev, evCells, hr, h3, hn]

theorem e_ld1ref {α : Type} {l : List α} {f : α → V} {c z o : Nat} {i : Int} {y : α} {v : V} (hr : rowOf s c = some (z, l.map f)) (h : getI l i = some y) (hc : ((f y).cells.drop o).take 1 = [v]) (hn : o + 1 ≤ (f y).cells.length) :
    evO G [] s (.ld1 (.c (.ref c i.toNat o))) = some (v, s) := by
  obtain ⟨-, -, h3⟩ := getI_some h
  simp [evO, ev, evCells, hr, h3, hn, hc]

theorem e_stref {α : Type} {l : List α} {f : α → V} {c z o n : Nat} {i : Int} {y y' : α} {v : V} (hr : s[c]? = some (.row z (l.map f))) (h : getI l i = some y) (hv : v.cells.length = n ∧ o + n ≤ z ∧ v.stores = true) (hy : like (f y) (splice (f y).cells o v.cells) = f y') :
    evO G [] s (.st n (.c (.ref c i.toNat o)) (.c v)) = some (.any, s.set c (.row z ((setI l i y').map f))) := by
  obtain ⟨-, -, h3⟩ := getI_some h
  simp [evO, ev, evStore, hr, h3, hv, hy, setI, List.map_set]

theorem e_len {α : Type} {l : List α} {f : α → V} {xs : List V} (hxs : xs = l.map f) : evO G [] s (.len .slice (.c (.sl xs))) = some (.int .i64 l.length, s) := by
  subst hxs
  simp [evO, ev, evLen]

theorem bound_c (x : Int) (k : IntKind) (d : Nat) : evBound (some (V.int k x)) d = some x := rfl

theorem e_slc {α : Type} {l l' : List α} {f : α → V} {xs : List V} {z : Nat} {lo hi : Option Opd} {a b : Int} (hxs : xs = l.map f) (hz : ∀ x, (f x).cells.length = z) (ha : evBound (lo.map (ev G [])) 0 = some a) (hb : evBound (hi.map (ev G [])) l.length = some b) (h : slcI l a b = some l') :
    evO G [] s (.slc (.slice z) (.c (.sl xs)) lo hi) = some (.sl (l'.map f), s) := by
  subst hxs
  unfold slcI at h
  split at h <;> try (cases h; done)
  rename_i hc
  injection h with h
  subst h
  have hall : (l.map f).all (fun v => decide (v.cells.length = z)) = true := by simp [hz]
  simp only [evO, ev, evSlc, hall, if_true, evSlice, List.length_map, ha, hb]
  rw [if_pos hc]
  simp [List.map_take, List.map_drop]

theorem e_slcs {l l' : List UInt8} {lo hi : Option Opd} {a b : Int} (ha : evBound (lo.map (ev G [])) 0 = some a) (hb : evBound (hi.map (ev G [])) l.length = some b) (h : slcI l a b = some l') :
    evO G [] s (.slc .str (.c (.str l)) lo hi) = some (.str l', s) := by
  unfold slcI at h
  split at h <;> try (cases h; done)
  rename_i hc
  injection h with h
  subst h
  simp only [evO, ev, evSlc, evSlice, ha, hb]
  rw [if_pos hc]
  rfl

theorem e_ix {l : List UInt8} {k : IntKind} {n : Int} {y : UInt8} (h : getI l n = some y) : evO G [] s (.ix (.c (.str l)) (.c (.int k n))) = some (.int .u8 y.toNat, s) := by
  obtain ⟨h1, h2, h3⟩ := getI_some h
  simp only [evO, ev, evIx]
  rw [if_pos h1, h3]
  rfl

theorem eqs_nil {xs ys : List V} : evEqs xs ys [] = some true := rfl
theorem eqs_cons {xs ys : List V} {p : Nat × Nat} {r : List (Nat × Nat)} {x y : V} {b e : Bool} (hx : xs[p.1]? = some x) (hy : ys[p.1]? = some y) (hs : eqScal p.2 x y = some b) (hr : evEqs xs ys r = some e) : evEqs xs ys (p :: r) = some (b && e) := by
  cases b <;> simp [evEqs, hx, hy, hs, hr]
theorem e_eqA {ks : List (Nat × Nat)} {kc : Bool} {xs ys : List V} {e : Bool} (h : evEqs xs ys ks = some e) : evO G [] s (.bin .eql (.agg ks) kc (.c (.agg xs)) (.c (.agg ys))) = some (.bool e, s) := by
  simp [evO, ev, evBin, evEq1, h]
theorem e_neA {ks : List (Nat × Nat)} {kc : Bool} {xs ys : List V} {e : Bool} (h : evEqs xs ys ks = some e) : evO G [] s (.bin .neq (.agg ks) kc (.c (.agg xs)) (.c (.agg ys))) = some (.bool (!e), s) := by
  simp [evO, ev, evBin, evEq1, h]

theorem e_cat {a b c : List UInt8} {tk : TK} {kc : Bool} (h : catS a b = some c) : evO G [] s (.bin .add tk kc (.c (.str a)) (.c (.str b))) = some (.str c, s) := by
  unfold catS at h
  split at h <;> try (cases h; done)
  rename_i hc
  injection h with h
  subst h
  simp only [evO, ev, evBin, evStr]
  rw [if_pos hc]
  rfl

theorem e_quo {k : IntKind} {a b c : Int} {tk : TK} {kc : Bool} (h : quoI k a b = some c) : evO G [] s (.bin .quo tk kc (.c (.int k a)) (.c (.int k b))) = some (.int k c, s) := by
  unfold quoI at h
  split at h <;> try (cases h; done)
  rename_i hc
  injection h with h
  subst h
  simp [evO, ev, evBin, evArith, hc]

theorem e_rem {k : IntKind} {a b c : Int} {tk : TK} {kc : Bool} (h : remI a b = some c) : evO G [] s (.bin .rem tk kc (.c (.int k a)) (.c (.int k b))) = some (.int k c, s) := by
  unfold remI at h
  split at h <;> try (cases h; done)
  rename_i hc
  injection h with h
  subst h
  simp [evO, ev, evBin, evArith, hc]

theorem e_shl {k k' : IntKind} {a b c : Int} {tk : TK} {kc : Bool} (h : shlI k a b = some c) : evO G [] s (.bin .shl tk kc (.c (.int k a)) (.c (.int k' b))) = some (.int k c, s) := by
  unfold shlI at h
  split at h <;> try (cases h; done)
  rename_i hc
  injection h with h
  subst h
  simp [evO, ev, evBin, evShift, hc]

theorem e_shr {k k' : IntKind} {a b c : Int} {tk : TK} {kc : Bool} (h : shrI k a b = some c) : evO G [] s (.bin .shr tk kc (.c (.int k a)) (.c (.int k' b))) = some (.int k c, s) := by
  unfold shrI at h
  split at h <;> try (cases h; done)
  rename_i hc
  injection h with h
  subst h
  simp [evO, ev, evBin, evShift, hc]

theorem appI_some {α : Type} {bytes : Nat} {l ys l' : List α} (h : appI bytes l ys = some l') : (l.length + ys.length) * bytes ≤ 35184372088832 ∧ l' = l ++ ys := by
  unfold appI at h
  split at h <;> try (cases h; done)
  rename_i hc
  injection h with h
  exact ⟨hc, h.symm⟩

theorem sized_map {α : Type} {f : α → V} {z : Nat} (hz : ∀ x, (f x).cells.length = z) (hst : ∀ x, (f x).stores = true) (ys : List α) : sized z (ys.map f) = true := by
  simp [sized, hz, hst]

/-- append to nil, or to a slice without capacity. -/
theorem e_app0 {α : Type} {ys l' : List α} {f : α → V} {z bytes : Nat} {x : V} (hx : x = .nils ∨ x = .cap0) (hz : ∀ x, (f x).cells.length = z) (hst : ∀ x, (f x).stores = true) (he : ys.isEmpty = false) (h : appI bytes [] ys = some l') :
    evO G [] s (.app z bytes (.c x) (.c (.sl (ys.map f)))) = some (.osl s.length 0 l'.length, s ++ [.row z (l'.map f)]) := by
  obtain ⟨h1, h2⟩ := appI_some h
  rw [List.nil_append] at h2
  subst h2
  have hne : l' ≠ [] := by
    intro h0
    subst h0
    cases he
  simp only [List.length_nil, Nat.zero_add] at h1
  rcases hx with rfl | rfl <;> simp [evO, ev, elemsOf, sized_map hz hst, evApp, hne, h1]

theorem e_app {α : Type} {l ys l' : List α} {f : α → V} {c z bytes m : Nat} (hr : s[c]? = some (.row z (l.map f))) (hz : ∀ x, (f x).cells.length = z) (hst : ∀ x, (f x).stores = true) (he : ys.isEmpty = false) (h : appI bytes l ys = some l') (hm : m = l.length) :
    evO G [] s (.app z bytes (.c (.osl c 0 m)) (.c (.sl (ys.map f)))) = some (.osl s.length 0 l'.length, s.set c .dead ++ [.row z (l'.map f)]) := by
  subst hm
  obtain ⟨h1, rfl⟩ := appI_some h
  have hne : ys ≠ [] := by
    intro h0
    subst h0
    cases he
  have ht : (l.map f).take l.length = l.map f := by rw [show l.length = (l.map f).length by simp, List.take_length]
  simp [evO, ev, elemsOf, sized_map hz hst, evApp, hr, hne, h1, ht]

theorem e_make {α : Type} {l : List α} {f : α → V} {z : V} {z0 : α} {bytes : Nat} {n : Int} (hf : f z0 = z) (h : makeI bytes n z0 = some l) : evO G [] s (.make z bytes (.c (.int .i64 n)) (.c (.int .i64 n))) = some (.osl s.length 0 l.length, s ++ [.row z.cells.length (l.map f)]) := by
  unfold makeI at h
  split at h <;> try (cases h; done)
  rename_i hc
  injection h with h
  subst h
  subst hf
  simp [evO, ev, evMake, hc]

/-! ### values as they are handed on -/

theorem fl_nil : FlatL s [] [] := ⟨rfl, fun i h => by simp at h⟩
theorem fl_cons {v u : V} {vs us : List V} (h : FlatR s v u) (t : FlatL s vs us) : FlatL s (v :: vs) (u :: us) := by
  refine ⟨by simp [t.1], fun i h1 h2 => ?_⟩
  cases i with
  | zero => exact h
  | succ i => exact t.2 i (by simpa using h1) (by simpa using h2)
theorem f_agg {xs : List V} (h : xs.all V.shut = true) : FlatR s (.agg xs) (.agg xs) := .agg rfl fun i h1 _ => .same (List.all_eq_true.1 h _ (List.getElem_mem h1))
theorem f_aggl {xs ys : List V} (h : FlatL s xs ys) : FlatR s (.agg xs) (.agg ys) := .agg h.1 h.2
theorem f_tupl {xs ys : List V} (h : FlatL s xs ys) : FlatR s (.tup xs) (.tup ys) := .tup h.1 h.2
theorem f_fn {f : Fn} {as bs as' bs' : List V} (h1 : FlatL s as as') (h2 : FlatL s bs bs') : FlatR s (.fn f as bs) (.fn f as' bs') := .fn h1.1 h2.1 h1.2 h2.2
theorem f_ref {c z o : Nat} {v u : V} (h : rowOf s c = some (z, [v])) (hf : FlatR s v u) : FlatR s (.ref c 0 o) (.imm u.cells o) := .ref h rfl hf
theorem f_clo {v : V} (hst : v.stores = true) (h : v.cells.all V.shut = true) : FlatR s v v := by
  cases v <;> first | exact f_agg h | (cases hst; done) | (refine .same ?_; simpa [V.cells] using h)
theorem f_sleq {xs ys : List V} (h : xs = ys) : FlatR s (.sl xs) (.sl ys) := by subst h; exact .same rfl
theorem f_cz {d : Nat} {v u : V} (h : czV d v = u) (hu : u.shut = true) : FlatR s v u := .cz (d := d) (by rw [h]; exact .same hu)
theorem f_osl {α : Type} {l : List α} {f : α → V} {c z m : Nat} (hr : rowOf s c = some (z, l.map f)) (hst : ∀ x, (f x).stores = true) (hc : ∀ x, (f x).cells.all V.shut = true) (hm : m = l.length) : FlatR s (.osl c 0 m) (.sl (l.map f)) := by
  subst hm
  refine .osl hr (by simp) (by simp) fun i h1 h2 => ?_
  simp only [Nat.zero_add, List.getElem_map]
  exact f_clo (hst _) (hc _)

theorem clo_map {α : Type} {f : α → V} (h : ∀ x, (f x).cells.all V.shut = true) (l : List α) : ∀ v ∈ l.map f, Clo v := by
  intro v hv
  obtain ⟨x, -, rfl⟩ := List.mem_map.1 hv
  exact h x

/-- A slice of the call's own that is written no more. -/
def putAll (v : V) : List Nat → List V → List V
  | [], t => t
  | j :: r, t => putAll v r (t.set j v)

theorem weak_freeze {n : Nat} {t : List V} {α : Type} {l : List α} {f : α → V} {c z : Nat} (js : List Nat) (hn : n ≤ c) (hr : s[c]? = some (.row z (l.map f))) (hst : ∀ x, (f x).stores = true) (hc : ∀ x, (f x).cells.all V.shut = true)
    (hj : ∀ j ∈ js, t[j]? = some (.osl c 0 l.length)) : Weak G n t s (putAll (.sl (l.map f)) js t) (s.set c .dead) := by
  intro A w β a hs
  have hlt := get_lt hr
  have hβ : β[c]? = some (β[c]'(by rw [hs.sr.len]; exact hlt)) := List.getElem?_eq_getElem _
  obtain ⟨q, hq⟩ : ∃ q, β[c]? = some q := ⟨_, hβ⟩
  have hget : ∀ {c' : Nat} {cl : Cell}, (s.set c .dead)[c']? = some cl → cl.mutable = true → c' ≠ c ∧ s[c']? = some cl := by
    intro c' cl h hm
    by_cases hne : c' = c
    · subst hne
      rw [List.getElem?_set_self hlt] at h
      injection h with h; subst h; cases hm
    · rw [List.getElem?_set_ne (Ne.symm hne)] at h
      exact ⟨hne, h⟩
  have hget' : ∀ {c' : Nat} {cl : Cell}, (s.set c .dead)[c']? = some cl → cl = .dead ∨ (c' ≠ c ∧ s[c']? = some cl) := by
    intro c' cl h
    by_cases hne : c' = c
    · subst hne
      rw [List.getElem?_set_self hlt] at h
      injection h with h; exact .inl h.symm
    · rw [List.getElem?_set_ne (Ne.symm hne)] at h
      exact .inr ⟨hne, h⟩
  have hMs : ∀ b, Mset β (s.set c .dead) b → Mset β s b := by
    rintro b ⟨c', cl, q', h1, h2, h3⟩
    exact ⟨c', cl, q', (hget h1 h2).2, h2, h3⟩
  have hM : ∀ b, Mav A β (s.set c .dead) b → Mav A β s b := fun b hb => hb.imp id (hMs b)
  obtain ⟨o1, o2, o3, o4, o5⟩ := hs.sr.ok c _ q hr hq
  have hnot : ¬ Mav A β (s.set c .dead) q.1 := by
    rintro (hA | ⟨c', cl, q', h1, h2, h3⟩)
    · exact o4 hA
    · obtain ⟨hne, h1'⟩ := hget h1 h2
      exact hne (hs.sr.dist c' c cl _ q.1 q' q.2 h1' h2 hr rfl h3 hq)
  have up : ∀ {v : V} {x : Value}, Rel w (Mav A β s) β v x → Rel w (Mav A β (s.set c .dead)) β v x := fun hr => hr.weaken (fun b _ hb => ⟨rfl, fun h => hb (hM b h)⟩) (fun _ arr _ fr hh => ⟨arr, fr, hh, rfl⟩) (fun _ _ hq => hq)
  have hel : ∀ {b p y : Nat} {xs : List V}, ElemsAt w (Mav A β s) β b p y xs → ElemsAt w (Mav A β (s.set c .dead)) β b p y xs := by
    intro b p y xs he i hi
    obtain ⟨e1, e2, e3⟩ := he i hi
    exact ⟨e1, e2, fun j hj => by obtain ⟨x, h4, h5⟩ := e3 j hj; exact ⟨x, h4, up h5⟩⟩
  have hval : ∀ {x : Value}, Rel w (Mav A β s) β (.osl c 0 l.length) x → Rel w (Mav A β (s.set c .dead)) β (.sl (l.map f)) x := by
    intro x hx
    have main : ∀ cap, l.length ≤ cap → Rel w (Mav A β (s.set c .dead)) β (.sl (l.map f)) (.slice (some ⟨q.1, q.2.1, none⟩) (l.map f).length cap) := by
      intro cap hcap
      have hex : ∃ g : Nat → Nat → Value, ∀ i j (hi : i < (l.map f).length) (hj : j < ((l.map f)[i]).cells.length), w.cell? ⟨q.1, q.2.1 + i * z + j, none⟩ = some (g i j) ∧ Rel w (Mav A β s) β (((l.map f)[i]).cells[j]) (g i j) :=
        ⟨fun i j => if hi : i < (l.map f).length then (if hj : j < ((l.map f)[i]).cells.length then Classical.choose ((o3 i hi).2.2 j hj) else default) else default,
         fun i j hi hj => by simp only [dif_pos hi, dif_pos hj]; exact Classical.choose_spec ((o3 i hi).2.2 j hj)⟩
      obtain ⟨g, hg⟩ := hex
      refine .sl (s := z) g (by simpa using hcap) (fun v hv => ?_) (fun i j hi hj => ?_) (fun i j hi hj => ?_)
      · obtain ⟨i, hi, rfl⟩ := mem_get hv
        have := o3 i hi
        exact ⟨this.1, by rw [this.2.1]⟩
      · have := o3 i hi
        exact ⟨(hg i j hi (by rw [this.2.1]; omega)).1, hnot⟩
      · refine Clo.rel (fun b hb => hM b hb) ?_ (hg i j hi hj).2
        have h1 : ((l.map f)[i]).cells.all V.shut = true := by simp only [List.getElem_map]; exact hc _
        exact List.all_eq_true.1 h1 _ (List.getElem_mem hj)
    obtain ⟨L, hL⟩ : ∃ L, L = l.length := ⟨_, rfl⟩
    rw [← hL] at hx
    cases hx with
    | osl hb hcap hblk hz =>
      rw [hq] at hb
      injection hb with hb
      subst hb
      subst hL
      have := main _ hcap
      simp only [List.length_map] at this
      simpa using this
    | osl0 b p hb =>
      have : l = [] := List.eq_nil_of_length_eq_zero hL.symm
      subst this
      exact .sl0 _ _ (fun e => by cases e)
  have hput : ∀ (js : List Nat) (t' : List V) (xs : List Value), (∀ j ∈ js, t[j]? = some (.osl c 0 l.length)) → RelL w (Mav A β s) β t xs → RelL w (Mav A β (s.set c .dead)) β t' xs → RelL w (Mav A β (s.set c .dead)) β (putAll (.sl (l.map f)) js t') xs := by
    intro js
    induction js with
    | nil => intro t' xs _ _ h; exact h
    | cons j r ih =>
      intro t' xs hj h0 h
      refine ih _ _ (fun k hk => hj k (List.mem_cons_of_mem _ hk)) h0 ⟨by simp [h.1], fun i hi x hx => ?_⟩
      rw [List.getElem_set]
      split
      · rename_i he
        subst he
        have h1 := hj j (by simp)
        have hlt := get_lt h1
        rw [List.getElem?_eq_getElem hlt] at h1
        injection h1 with h1
        have := h0.2 j hlt x hx
        rw [h1] at this
        exact hval this
      · exact h.2 i (by simpa using hi) x hx
  obtain ⟨cs, hcs, hb⟩ := hs.calm
  have hmk : ∀ c' : Nat, s[c']? = some Cell.mark → (s.set c .dead)[c']? = some Cell.mark := fun c' hm => by
    by_cases he : c' = c
    · subst he; rw [hr] at hm; cases hm
    · rw [List.getElem?_set_ne (Ne.symm he)]; exact hm
  refine ⟨β, ⟨⟨by simp [hs.sr.len], hs.sr.glob.weaken fun b hb hb' => hb (hM b hb'), hs.sr.low, fun c' cl q' h1 h2 => ?_, fun c1 c2 cl1 cl2 b q1 q2 h1 m1 h2 m2 => ?_⟩, hput js t _ hj hs.tmps ⟨hs.tmps.1, fun j hj x hx => up (hs.tmps.2 j hj x hx)⟩, cs, ?_, hb⟩, rfl, by simp; omega, hMs, fun c' _ => hmk c'⟩
  · rcases hget' h1 with rfl | ⟨hne, h1'⟩
    · trivial
    · have hok := hs.sr.ok c' cl q' h1' h2
      cases cl with
      | row y xs => obtain ⟨p1, p2, p3, p4⟩ := hok; exact ⟨p1, p2, hel p3, p4⟩
      | held y xs => obtain ⟨p1, p2, p3⟩ := hok; exact ⟨p1, hel p2, fun a b hm => p3 a b (hM _ hm)⟩
      | dead => trivial
      | iter y pos => exact hok
      | mark => exact hok
  · exact hs.sr.dist c1 c2 cl1 cl2 b q1 q2 (hget h1 m1).2 m1 (hget h2 m2).2 m2
  · have : ∀ {ds : List Deferred} {cs : List Nat}, Calm β s ds cs → Calm β (s.set c .dead) ds cs := by
      intro ds
      induction ds with
      | nil => intro cs h; cases cs with | nil => trivial | cons => exact h.elim
      | cons d ds ih =>
        intro cs h
        cases cs with
        | nil => exact h.elim
        | cons c0 cs =>
          obtain ⟨⟨r, q0, e1, e2, e3⟩, h4, h5⟩ := h
          exact ⟨⟨r, q0, e1, hmk _ e2, e3⟩, h4, ih h5⟩
    exact this hcs

theorem go_freeze {n : Nat} {R : Post} {k : List T} {t t' : List V} {α : Type} {l : List α} {f : α → V} {c z : Nat} (js : List Nat) (hn : Nat.ble n c = true) (hr : s[c]? = some (.row z (l.map f))) (hst : ∀ x, (f x).stores = true) (hc : ∀ x, (f x).cells.all V.shut = true)
    (hj : ∀ j ∈ js, t[j]? = some (.osl c 0 l.length)) (ht : putAll (.sl (l.map f)) js t = t') (hs : s.set c .dead = s') (h : Run P G ro n R k t' s') : Run P G ro n R k t s := by
  subst ht; subst hs
  exact go_weak (weak_freeze js (Nat.le_of_ble_eq_true hn) hr hst hc hj) h

theorem clo_one {x : V} (h : x.cells.all V.shut = true) : ∀ v ∈ [x], Clo v := by
  intro v hv
  simp only [List.mem_singleton] at hv
  subst hv
  exact h

theorem noMark_ofB {n : Nat} (h : s.all (fun c => match c with | .mark => false | _ => true) = true) : NoMark n s := by
  intro c _ hc
  have := List.all_eq_true.1 h _ (List.mem_of_getElem? hc)
  cases this

theorem e_iaa {α : Type} {l : List α} {f : α → V} {c len : Nat} {k : IntKind} {n : Int} {y : α} (h : getI l n = some y) (hl : l.length = len) : evO G [] s (.iaa len 1 (.c (.ref c 0 0)) (.c (.int k n))) = some (.ref c 0 n.toNat, s) := by
  obtain ⟨h1, h2, -⟩ := getI_some h
  subst hl
  simp only [evO, ev, evIAa]
  rw [if_pos ⟨h1, h2⟩]
  simp

theorem e_ldarr {α : Type} {l : List α} {f : α → V} {c z : Nat} {n : Int} {y : α} (hr : rowOf s c = some (z, [.agg (l.map f)])) (h : getI l n = some y) : evO G [] s (.ld1 (.c (.ref c 0 n.toNat))) = some (f y, s) := by
  obtain ⟨h1, h2, h3⟩ := getI_some h
  have hlt : n.toNat < l.length := by omega
  have hy : l[n.toNat] = y := by rw [List.getElem?_eq_getElem hlt] at h3; injection h3
  have e : (List.drop n.toNat (l.map f)).take 1 = [f y] := by
    rw [List.drop_eq_getElem_cons (by simpa using hlt)]
    simp [hy]
  simp only [evO, ev, evCells, hr, List.getElem?_cons_zero, V.cells, List.length_map]
  rw [if_pos (by omega), e]

theorem e_iaai {α : Type} {l : List α} {f : α → V} {len : Nat} {k : IntKind} {n : Int} {y : α} (h : getI l n = some y) (hl : l.length = len) : evO G [] s (.iaa len 1 (.c (.imm (l.map f) 0)) (.c (.int k n))) = some (.imm (l.map f) n.toNat, s) := by
  obtain ⟨h1, h2, -⟩ := getI_some h
  subst hl
  simp only [evO, ev, evIAa]
  rw [if_pos ⟨h1, h2⟩]
  simp

theorem e_ldarri {α : Type} {l : List α} {f : α → V} {n : Int} {y : α} (h : getI l n = some y) : evO G [] s (.ld1 (.c (.imm (l.map f) n.toNat))) = some (f y, s) := by
  obtain ⟨h1, h2, h3⟩ := getI_some h
  have hlt : n.toNat < l.length := by omega
  have hy : l[n.toNat] = y := by rw [List.getElem?_eq_getElem hlt] at h3; injection h3
  have e : (List.drop n.toNat (l.map f)).take 1 = [f y] := by
    rw [List.drop_eq_getElem_cons (by simpa using hlt)]
    simp [hy]
  simp only [evO, ev, evCells, List.length_map]
  rw [if_pos (by omega), e]

theorem e_ixA {α : Type} {l : List α} {f : α → V} {len : Nat} {k : IntKind} {n : Int} {y : α} (h : getI l n = some y) (hl : l.length = len) : evO G [] s (.ixA len none 1 (.c (.agg (l.map f))) (.c (.int k n))) = some (f y, s) := by
  obtain ⟨h1, h2, h3⟩ := getI_some h
  subst hl
  simp only [evO, ev, evIxA]
  rw [if_pos ⟨h1, h2⟩]
  simp [evPart, h3]

/-! ### steps of the proof -/

theorem go_inret {k : List T} {t : List V} {n : Nat} {res : List RS} {K : V → List Cell → Prop} (v : V) (hv : retV t s res = some v) (hm : NoMark n s) (hn : Nat.ble n s.length = true) (h : K v s) : Run P G ro n (InR res n K) (.pc .ret :: k) t s :=
  go_ret (Nat.le_of_ble_eq_true hn) ⟨.inl rfl, hm, v, hv, h⟩
theorem go_inend {t : List V} {n : Nat} {res : List RS} {K : V → List Cell → Prop} (v : V) (hv : retV t s res = some v) (hm : NoMark n s) (hn : Nat.ble n s.length = true) (h : K v s) : Run P G ro n (InR res n K) [] t s :=
  go_end (Nat.le_of_ble_eq_true hn) ⟨.inr rfl, hm, v, hv, h⟩

def PostR (res : List RS) (r : V) : Post := fun e t s => (e = .ret ∨ e = .normal) ∧ ∃ v, retV t s res = some v ∧ FlatR s v r

theorem bs {α : Type} {x : Option α} {r : α} (h : x = some r) : x.bind some = some r := by rw [h]; rfl
theorem go_assoc {α β γ : Type} {X : Option α} {f : α → Option β} {g : β → Option γ} {r : γ} (h : (X.bind f).bind g = some r) : X.bind (fun q => (f q).bind g) = some r := by
  cases X with
  | none => cases h
  | some x => exact h
theorem go_eqt {n : Nat} {R : Post} {k : List T} {t t' : List V} (h : t = t') (hr : Run P G ro n R k t' s) : Run P G ro n R k t s := by subst h; exact hr
theorem go_cut {n : Nat} {R : Post} {k : List T} {t : List V} {X : Type} (H : X → Prop) (k' : List T) (t' : X → List V) (s' : X → List Cell) (h1 : ∀ x, H x → Run P G ro n R k' (t' x) (s' x)) (h2 : (∀ x, H x → Run P G ro n R k' (t' x) (s' x)) → Run P G ro n R k t s) : Run P G ro n R k t s := h2 h1
theorem pure_run {f : FuncId} {pc : PC} {nt : Nat} {res : List RS} (hf : FnOk P f pc nt res) {vs : List V} {r : V} (h : Run P (G.at 0) none 0 (PostR res r) [.pc pc] (vs ++ List.replicate (nt - vs.length) .any) []) : Pure P (G.at 0) f vs r := pure_of_run hf h

theorem go_if {ρ τ : Type} {goal : Prop} {b : Bool} {A B : Option ρ} {K : ρ → Option τ} {r : τ} (h : (bif b then A else B).bind K = some r) (h1 : b = true → A.bind K = some r → goal) (h2 : b = false → B.bind K = some r → goal) : goal := by
  cases b
  · exact h2 rfl h
  · exact h1 rfl h
theorem go_bind {α ρ τ : Type} {goal : Prop} {X : Option α} {f : α → Option ρ} {K : ρ → Option τ} {r : τ} (h : (X.bind f).bind K = some r) (h1 : ∀ x, X = some x → (f x).bind K = some r → goal) : goal := by
  cases X with
  | none => cases h
  | some x => exact h1 x rfl h

theorem go_fin {k : List T} {t : List V} {n : Nat} {res : List RS} {r : V} (v : V) (hv : retV t s res = some v) (hf : FlatR s v r) (hn : Nat.ble n s.length = true) :
    Run P G ro n (PostR res r) (.pc .ret :: k) t s := go_ret (Nat.le_of_ble_eq_true hn) ⟨.inl rfl, v, hv, hf⟩
theorem go_fine {t : List V} {n : Nat} {res : List RS} {r : V} (v : V) (hv : retV t s res = some v) (hf : FlatR s v r) (hn : Nat.ble n s.length = true) :
    Run P G ro n (PostR res r) [] t s := go_end (Nat.le_of_ble_eq_true hn) ⟨.inr rfl, v, hv, hf⟩

theorem go_loop' {n : Nat} {R : Post} {k : List T} {t : List V} {b : PC} (I : Nat → List V → List Cell → Prop) (m : Nat) (h0 : I m t s)
    (h : ∀ m J, (∀ m' t s, m' < m → I m' t s → J t s) → ∀ t s, I m t s → Run P G ro n R (.pc b :: .jp J :: k) t s) : Run P G ro n R (.pc (.loop b) :: k) t s :=
  go_loop I m h0 fun m t s hI => h m _ (fun m' t s hm hI => ⟨m', hm, hI⟩) t s hI

theorem go_back {n : Nat} {R : Post} {k : List T} {t : List V} {J : List V → List Cell → Prop} (hn : Nat.ble n s.length = true) (h : J t s) : Run P G ro n R (.jp J :: k) t s := go_jp (Weak.refl (Nat.le_of_ble_eq_true hn)) h

end
end Go.TL
