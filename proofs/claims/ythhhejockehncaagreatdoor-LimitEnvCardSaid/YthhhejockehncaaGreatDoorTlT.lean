/-
  Tree land, part T: functions from their bodies.
-/
import Derived.Test.YthhhejockehncaaGreatDoorTlS
import Derived.Tactics
import Derived.RangeFuncRecord
set_option linter.all false
namespace Go.TL
open Go

section
variable {P : Program} {G : Globals} {mo : Bool}

/-- Where a result lies: in a slot, in n cells, in one. -/
inductive RS where
  | t (n : Nat)
  | a (a n : Nat)
  | l (a : Nat)
  deriving Inhabited

def prepR (P : Program) : ResultVar → Option RS
  | .tmp t => some (.t t)
  | .cell a t => match aggP P t, sizeP P t with
    | some true, some n => some (.a a n)
    | some false, _ => some (.l a)
    | _, _ => none

def prepRs (P : Program) : List ResultVar → Option (List RS)
  | [] => some []
  | x :: r => match prepR P x, prepRs P r with
    | some y, some l => some (y :: l)
    | _, _ => none

/-- A function: its prepared body, its slots, and where its results lie. -/
def FnOk (P : Program) (f : FuncId) (pc : PC) (nt : Nat) (res : List RS) : Prop :=
  ∃ mo fn c, P.funcs[f]? = some fn ∧ fn.name ≠ "runtime.NumGoroutine" ∧ fn.body = some c ∧ prepC mo P c = some pc ∧ fn.ntmps = nt ∧ prepRs P fn.results.toList = some res

def retOne (tm : List V) (σ : List Cell) : RS → Option V
  | .t n => some (tm.getD n .any)
  | .a a n => (evCells σ n (tm.getD a .any)).map .agg
  | .l a => match evCells σ 1 (tm.getD a .any) with
    | some [v] => some v
    | _ => none

def retL (tm : List V) (σ : List Cell) : List RS → Option (List V)
  | [] => some []
  | x :: r => match retOne tm σ x, retL tm σ r with
    | some y, some l => some (y :: l)
    | _, _ => none

def packV : List V → V
  | [v] => v
  | vs => .tup vs

def retV (tm : List V) (σ : List Cell) (rs : List RS) : Option V := (retL tm σ rs).map packV

def packX : List Value → Value
  | [v] => v
  | vs => .tuple vs.toArray

theorem run_enter {f : FuncId} {fn : Func} {c : Code} (hf : P.funcs[f]? = some fn) (hn : fn.name ≠ "runtime.NumGoroutine") (hb : fn.body = some c) (xs : Array Value) (w : World) :
    (callFunc f xs).run P w = .ok (.enter f xs) w := by
  simp [callFunc, go_sem, hf, hb, hn]

theorem slot_rel {w : World} {M : Nat → Prop} {β : Beta} {tm : List V} {tmps : Array Value} (h : RelL w M β tm tmps.toList) (r : Nat) : Rel w M β (tm.getD r .any) (tmps.getD r undef) := by
  by_cases hr : r < tm.length
  · have hr' : r < tmps.size := by simpa using (by rw [h.1]; exact hr : r < tmps.toList.length)
    have := h.2 r hr tmps[r] (by simp [hr'])
    simpa [List.getD, hr, Array.getD, hr'] using this
  · have : tm.getD r .any = .any := by simp [List.getD, Nat.not_lt.1 hr]
    rw [this]
    exact .any _

theorem retOne_ok {w : World} {A : Nat → Prop} {β : Beta} {σ : List Cell} (hs : SR G w A β σ) {tm : List V} {tmps : Array Value} (h : RelL w (Mav A β σ) β tm tmps.toList) {x : ResultVar} {r : RS} (hp : prepR P x = some r) {v : V}
    (hv : retOne tm σ r = some v) : ∃ y, (match x with | .tmp t => (pure (tmps.getD t undef) : Sem Value) | .cell a t => do loadVar t (← asAddr (tmps.getD a undef))).run P w = .ok y w ∧ Rel w (Mav A β σ) β v y := by
  have addr : ∀ (t : TypeId) (y : Value) b p, y = .pointer (some ⟨b, p, none⟩) → ((do loadVar t (← asAddr y)) : Sem Value) = Instr.loadAt t y := by
    rintro t y b p rfl
    simp only [Instr.loadAt, Instr.sureAddr, asAddr, pure_bind]
  cases x with
  | tmp t =>
    simp only [prepR, Option.some.injEq] at hp
    subst hp
    simp only [retOne, Option.some.injEq] at hv
    subst hv
    exact ⟨_, by simp only [Sem.run_pure], slot_rel h t⟩
  | cell a t =>
    simp only [prepR] at hp
    split at hp <;> try (cases hp; done)
    · rename_i n h1 h2
      injection hp with hp
      subst hp
      simp only [retOne] at hv
      cases hc : evCells σ n (tm.getD a .any) with
      | none => rw [hc] at hv; cases hv
      | some cs =>
        rw [hc] at hv
        injection hv with hv
        subst hv
        obtain ⟨-, -, b, p, e, -⟩ := cells_ok hs hc (slot_rel h a)
        obtain ⟨y, y1, y2⟩ := ldA_ok (P := P) h1 h2 hs hc (slot_rel h a)
        exact ⟨y, by simp only [addr t _ b p e]; exact y1, y2⟩
    · rename_i h1
      injection hp with hp
      subst hp
      simp only [retOne] at hv
      split at hv <;> try (cases hv; done)
      rename_i u hc
      injection hv with hv
      subst hv
      obtain ⟨-, -, b, p, e, -⟩ := cells_ok hs hc (slot_rel h a)
      obtain ⟨y, y1, y2⟩ := ld1_ok (P := P) h1 hs hc (slot_rel h a)
      exact ⟨y, by simp only [addr t _ b p e]; exact y1, y2⟩

theorem pack_rel {w : World} {M : Nat → Prop} {β : Beta} : ∀ {vs : List V} {ys : List Value}, RelL w M β vs ys → Rel w M β (packV vs) (if h : ys.toArray.size = 1 then ys.toArray[0] else .tuple ys.toArray)
  | [v], [y], h => by simpa [packV] using h.2 0 (by simp) y (by simp)
  | [], [], h => .tup rfl (fun j hj => by simp at hj)
  | v :: v' :: vs, y :: y' :: ys, h => by
    simp only [packV]
    rw [dif_neg (by simp)]
    refine .tup (by simpa using h.1) (fun j hj => ?_)
    have hj' : j < (y :: y' :: ys).length := by rw [h.1]; exact hj
    have := h.2 j hj (y :: y' :: ys)[j] (by rw [List.getElem?_eq_getElem hj'])
    have hj2 : j < ys.length + 1 + 1 := by simpa using hj'
    simpa [Array.getD, hj2] using this
  | [], _ :: _, h => by have := h.1; simp at this
  | _ :: _, [], h => by have := h.1; simp at this
  | [_], _ :: _ :: _, h => by have := h.1; simp at this
  | _ :: _ :: _, [_], h => by have := h.1; simp at this

theorem run_results {w : World} {A : Nat → Prop} {β : Beta} {σ : List Cell} (hs : SR G w A β σ) {tm : List V} {tmps : Array Value} (h : RelL w (Mav A β σ) β tm tmps.toList) {fn : Func} {res : List RS} (hp : prepRs P fn.results.toList = some res)
    {v : V} (hv : retV tm σ res = some v) : ∃ y, (results fn tmps).run P w = .ok y w ∧ Rel w (Mav A β σ) β v y := by
  have key : ∀ (l : List ResultVar) (rs : List RS) (vs : List V), prepRs P l = some rs → retL tm σ rs = some vs →
      ∃ ys, (l.mapM (m := Sem) (fun | .tmp t => pure (tmps.getD t undef) | .cell a t => do loadVar t (← asAddr (tmps.getD a undef)))).run P w = .ok ys w ∧ RelL w (Mav A β σ) β vs ys := by
    intro l
    induction l with
    | nil =>
      intro rs vs h1 h2
      simp only [prepRs, Option.some.injEq] at h1
      subst h1
      simp only [retL, Option.some.injEq] at h2
      subst h2
      exact ⟨[], by simp only [List.mapM_nil, Sem.run_pure], rfl, fun j hj => by simp at hj⟩
    | cons x l ih =>
      intro rs vs h1 h2
      simp only [prepRs] at h1
      split at h1 <;> try (cases h1; done)
      rename_i r rs' q1 q2
      injection h1 with h1
      subst h1
      simp only [retL] at h2
      split at h2 <;> try (cases h2; done)
      rename_i u us q3 q4
      injection h2 with h2
      subst h2
      obtain ⟨y, y1, y2⟩ := retOne_ok hs h q1 q3
      obtain ⟨ys, z1, z2⟩ := ih rs' us q2 q4
      refine ⟨y :: ys, ?_, by simp [z2.1], fun j hj x hx => ?_⟩
      · rw [List.mapM_cons, Sem.run_bind, y1, Result.andThen_ok, Sem.run_bind, z1, Result.andThen_ok, Sem.run_pure]
      · cases j with
        | zero => simp at hx; subst hx; exact y2
        | succ j => exact z2.2 j (by simpa using hj) x (by simpa using hx)
  simp only [retV] at hv
  cases hl : retL tm σ res with
  | none => rw [hl] at hv; cases hv
  | some vs =>
    rw [hl] at hv
    injection hv with hv
    subst hv
    obtain ⟨ys, y1, y2⟩ := key _ _ _ hp hl
    have e : (results fn tmps).run P w = .ok (if h : ys.toArray.size = 1 then ys.toArray[0] else .tuple ys.toArray) w := by
      unfold results
      rw [Array.mapM_eq_mapM_toList]
      have hy : (List.toArray <$> (fn.results.toList.mapM (m := Sem) (fun | .tmp t => pure (tmps.getD t undef) | .cell a t => do loadVar t (← asAddr (tmps.getD a undef))))).run P w = .ok ys.toArray w := by
        rw [map_eq_pure_bind, Sem.run_bind, y1, Result.andThen_ok, Sem.run_pure]
      rw [Sem.run_bind]
      exact (congrArg (fun r => Result.andThen r _) hy).trans (by simp only [Result.andThen_ok, Sem.run_pure])
    exact ⟨_, e, pack_rel y2⟩

/-- What a value reads as stays, as long as the cells that it leads to do. -/
theorem Rel.weakenC {w w' : World} {M M' : Nat → Prop} {v : V} {x : Value} {β : Beta} (cellc : ∀ (a : Addr) y, w.cell? a = some y ∧ ¬ M a.block → w'.cell? a = some y ∧ ¬ M' a.block)
    (hk : ∀ (b : Nat) arr t fr, w.heap[b]? = some (.cells arr t fr) → ∃ arr' fr', w'.heap[b]? = some (.cells arr' t fr') ∧ arr'.size = arr.size) (h : Rel w M β v x) : Rel w' M' β v x := by
  induction h with
  | bool b => exact .bool b
  | int k n => exact .int k n
  | str s => exact .str s
  | nilp => exact .nilp
  | nils => exact .nils
  | nilf => exact .nilf
  | nili => exact .nili
  | nilm => exact .nilm
  | ref h => exact .ref h
  | imm x hl h1 hr ih => exact .imm x hl (fun j hj => cellc _ _ (h1 j hj)) ih
  | sl x hcap hl h1 hr ih => exact .sl x hcap hl (fun i j hi hj => cellc _ _ (h1 i j hi hj)) ih
  | sl0 a cap h => exact .sl0 a cap h
  | osl h hcap hb hz =>
    obtain ⟨arr', fr', h3, h4⟩ := hk _ _ _ _ hb
    exact .osl h hcap h3 (by omega)
  | osl0 b p h => exact .osl0 b p h
  | fn h1 h2 r1 r2 ih1 ih2 => exact .fn h1 h2 ih1 ih2
  | ifc h hs ih => exact .ifc ih hs
  | agg h1 hl r1 ih => exact .agg h1 hl ih
  | tup h1 r1 ih => exact .tup h1 ih
  | obj h => exact .obj h
  | mp h => exact .mp h
  | cap0 a => exact .cap0 a
  | any x => exact .any x

/-- The frame at its beginning. -/
theorem St.enter {A : Nat → Prop} {w : World} {β : Beta} {σ : List Cell} {vs : List V} {xs : Array Value} (hs : SR (G.at 0) w A β σ) (hr : RelL w (Mav A β σ) β vs xs.toList) (nt n : Nat) :
    St (G.at n) A w β σ (vs ++ List.replicate (nt - vs.length) .any) { tmps := xs ++ Array.replicate (nt - xs.size) undef, defers := [] } := by
  have hl : xs.size = vs.length := by simpa using hr.1
  refine ⟨hs.back.at n, ?_, [], trivial, by simp⟩
  simp only [Array.toList_append]
  refine hr.append ⟨by simp [hl], fun j hj x hx => ?_⟩
  have : (List.replicate (nt - vs.length) V.any)[j] = .any := by simp
  rw [this]
  exact .any _

/-- No mark among the cells from n on. -/
def NoMark (n : Nat) (σ : List Cell) : Prop := ∀ c, n ≤ c → σ[c]? ≠ some Cell.mark

theorem Calm.none {β : Beta} {σ : List Cell} {ds : List Deferred} {cs : List Nat} {n : Nat} (h : Calm β σ ds cs) (hb : ∀ c ∈ cs, n ≤ c) (hm : NoMark n σ) : ds = [] := by
  cases ds with
  | nil => rfl
  | cons d ds =>
    cases cs with
    | nil => exact h.elim
    | cons c cs =>
      obtain ⟨⟨r, q, -, h2, -⟩, -⟩ := h
      exact absurd h2 (hm c (hb c (by simp)))

/-- A call's contract from the function's body. -/
theorem CallOk.of_body {f : FuncId} {pc : PC} {nt : Nat} {res : List RS} (hf : FnOk P f pc nt res) {vs : List V} {σ : List Cell} {R : V → List Cell → Prop}
    (h : PGood P (G.at σ.length) none pc (vs ++ List.replicate (nt - vs.length) .any) σ (fun e t s => (e = .ret ∨ e = .normal) ∧ NoMark σ.length s ∧ ∃ v, retV t s res = some v ∧ R v s)) : CallOk P (G.at 0) f vs σ R := by
  obtain ⟨mo, fn, c, h1, h2, h3, h4, h5, h6⟩ := hf
  intro A w β xs hs hr
  refine ⟨.enter f xs, w, run_enter h1 h2 h3 xs w, .inr ⟨rfl, rfl, ?_⟩⟩
  refine callsIn_wide.1 (callsIn_of_wp_marks (n := 0) h1 h3 trivial ?_ rfl)
  rw [h5]
  refine wpIn_mono (h mo c h4 A w β _ (St.enter hs hr nt σ.length)) ?_
  rintro e a' w' ⟨t, s, b, ⟨he, hn, v, hv, hR⟩, hst, hext⟩
  have leave : LeavesInM Fence.wide 0 P fn a'.tmps (fun e w' => ∃ x v σ' β', e = .returned x ∧ R v σ' ∧ Rel w' (Mav A β' σ') β' v x ∧ SR (G.at 0) w' A β' σ' ∧ Ext w β σ w' β' σ') a'.defers .returning w' := by
    obtain ⟨cs, hc, hb⟩ := hst.calm
    rw [hc.none hb hn]
    obtain ⟨y, y1, y2⟩ := run_results hst.sr hst.tmps h6 hv
    exact ⟨y, y1, y, v, s, b, rfl, hR, y2, hst.sr.back.at 0, hext⟩
  rcases he with rfl | rfl
  · exact leave
  · exact leave

/-- What is known says nothing of the blocks of A, whatever is done there. -/
theorem Rel.blind {w w' : World} {M : Nat → Prop} {β : Beta} (hb : ∀ b, ¬ M b → w'.heap[b]? = w.heap[b]?) (hk : ∀ (b : Nat) arr t fr, w.heap[b]? = some (.cells arr t fr) → ∃ arr' fr', w'.heap[b]? = some (.cells arr' t fr') ∧ arr'.size = arr.size)
    {v : V} {x : Value} (h : Rel w M β v x) : Rel w' M β v x := h.weaken (fun b _ hm => ⟨hb b hm, hm⟩) hk (fun _ _ hq => hq)

theorem SR.blind {w w' : World} {A : Nat → Prop} {β : Beta} {σ : List Cell} (h : SR G w A β σ) (hb : ∀ b, ¬ A b → w'.heap[b]? = w.heap[b]?) (hsz : w.heap.size ≤ w'.heap.size)
    (hk : ∀ (b : Nat) arr t fr, w.heap[b]? = some (.cells arr t fr) → ∃ arr' fr', w'.heap[b]? = some (.cells arr' t fr') ∧ arr'.size = arr.size) : SR G w' A β σ := by
  have hr : ∀ {β' : Beta} {v : V} {x : Value}, Rel w (Mav A β σ) β' v x → Rel w' (Mav A β σ) β' v x := fun h => h.blind (fun b hm => hb b (fun hA => hm (.inl hA))) hk
  have he : ∀ {b p s : Nat} {xs : List V}, (xs ≠ [] → s ≠ 0 → ¬ A b) → ElemsAt w (Mav A β σ) β b p s xs → ElemsAt w' (Mav A β σ) β b p s xs := by
    intro b p s xs hA hx i hi
    obtain ⟨e1, e2, e3⟩ := hx i hi
    refine ⟨e1, e2, fun j hj => ?_⟩
    obtain ⟨x, h4, h5⟩ := e3 j hj
    have hA' : ¬ A b := hA (fun e => by subst e; simp at hi) (by omega)
    exact ⟨x, (cell_of_heap (a := ⟨b, p + i * s + j, none⟩) (hb b hA')).trans h4, hr h5⟩
  refine ⟨h.len, fun gv hg => hr (h.glob gv hg), fun b hA => Nat.lt_of_lt_of_le (h.low b hA) hsz, fun c cl q hc hq => ?_, h.dist⟩
  have hok := h.ok c cl q hc hq
  cases cl with
  | row s xs =>
    obtain ⟨o1, o2, o3, o4, o5⟩ := hok
    exact ⟨o1, o2.of_heap (hb _ o4), he (fun _ _ => o4) o3, o4, Nat.lt_of_lt_of_le o5 hsz⟩
  | held s xs =>
    obtain ⟨o1, o2, o3⟩ := hok
    exact ⟨o1, he (fun a b hA => o3 a b (.inl hA)) o2, o3⟩
  | dead => trivial
  | iter s pos =>
    obtain ⟨o1, o2, o3⟩ := hok
    exact ⟨(hb _ o2).trans o1, o2, Nat.lt_of_lt_of_le o3 hsz⟩
  | mark =>
    obtain ⟨o1, o2, o3⟩ := hok
    exact ⟨(hb _ o2).trans o1, o2, Nat.lt_of_lt_of_le o3 hsz⟩

/-- The frame's marks on its way out. -/
theorem leave_marks {A : Nat → Prop} {fn : Func} {tmps : Array Value} {R : Ending → World → Prop} {β : Beta} {σ : List Cell} (I : World → Prop)
    (step : ∀ w r, I w → A r → w.heap[r]? = some (.deferred (some [])) → I (w.putObj r (.deferred none))) (last : ∀ w, I w → ∃ x, (results fn tmps).run P w = .ok x w ∧ R (.returned x) w) :
    ∀ (ds : List Deferred) (cs : List Nat) (w : World), Calm β σ ds cs → (∀ (c : Nat) q, c ∈ cs → β[c]? = some q → A q.1 ∧ w.heap[q.1]? = some (.deferred (some []))) →
      (∀ (c c' : Nat) b q q', c ∈ cs → c' ∈ cs → β[c]? = some (b, q) → β[c']? = some (b, q') → c = c') → I w → LeavesInM Fence.wide 0 P fn tmps R ds .returning w := by
  intro ds
  induction ds with
  | nil =>
    intro cs w hc hm hd hI
    obtain ⟨x, h1, h2⟩ := last w hI
    exact ⟨x, h1, h2⟩
  | cons d ds ih =>
    intro cs w hc hm hd hI
    cases cs with
    | nil => exact hc.elim
    | cons c cs =>
      obtain ⟨⟨r, q, e1, e2, e3⟩, hnot, hcs⟩ := hc
      obtain ⟨hA, hheap⟩ := hm c _ (by simp) e3
      refine ⟨by simp, .inl ⟨r, _, e1, run_takeDeferred hheap, ?_⟩⟩
      refine ih cs _ hcs ?_ (fun c1 c2 b q1 q2 hc1 hc2 => hd c1 c2 b q1 q2 (List.mem_cons_of_mem _ hc1) (List.mem_cons_of_mem _ hc2)) (step w r hI hA hheap)
      intro c' q' hc' hq'
      obtain ⟨g1, g2⟩ := hm c' q' (List.mem_cons_of_mem _ hc') hq'
      refine ⟨g1, ?_⟩
      have hne : r ≠ q'.1 := fun e => by
        obtain ⟨b', q''⟩ := q'
        subst e
        have := hd c c' _ _ _ (by simp) (List.mem_cons_of_mem _ hc') e3 hq'
        subst this
        exact hnot hc'
      simp only [World.putObj, Array.getElem?_setIfInBounds]
      rw [if_neg hne]
      exact g2

theorem mav_nil {A : Nat → Prop} : Mav A [] [] = A := by
  funext b
  apply propext
  constructor
  · rintro (h | ⟨c, cl, q, h, -⟩)
    · exact h
    · simp at h
  · exact .inl

/-- The marks are gone. -/
def unmark : List Cell → List Cell
  | [] => []
  | .mark :: r => .dead :: unmark r
  | c :: r => c :: unmark r

theorem unmark_len : ∀ {σ : List Cell}, (unmark σ).length = σ.length
  | [] => rfl
  | x :: σ => by cases x <;> simp [unmark, unmark_len]

theorem unmark_get : ∀ {σ : List Cell} {c : Nat} {cl : Cell}, (unmark σ)[c]? = some cl → (cl = .dead ∧ σ[c]? = some .mark) ∨ (σ[c]? = some cl ∧ cl ≠ .mark)
  | [], c, cl, h => by simp [unmark] at h
  | x :: σ, c, cl, h => by
    cases c with
    | zero => cases x <;> simp [unmark] at h <;> subst h <;> simp
    | succ c =>
      have : (unmark σ)[c]? = some cl := by cases x <;> simpa [unmark] using h
      rcases unmark_get this with ⟨h1, h2⟩ | ⟨h1, h2⟩
      · exact .inl ⟨h1, by simpa using h2⟩
      · exact .inr ⟨by simpa using h1, h2⟩

theorem unmark_of : ∀ {σ : List Cell} {c : Nat} {cl : Cell}, σ[c]? = some cl → cl ≠ .mark → (unmark σ)[c]? = some cl
  | [], c, cl, h, _ => by simp at h
  | x :: σ, c, cl, h, hc => by
    cases c with
    | zero => cases x <;> simp at h <;> subst h <;> first | exact absurd rfl hc | simp [unmark]
    | succ c =>
      have := unmark_of (σ := σ) (by simpa using h) hc
      cases x <;> simpa [unmark] using this

theorem rowOf_unmark {σ : List Cell} {c : Nat} : rowOf (unmark σ) c = rowOf σ c := by
  unfold rowOf
  cases h : σ[c]? with
  | none =>
    have hl : σ.length ≤ c := by
      rcases Nat.lt_or_ge c σ.length with hlt | hge
      · rw [List.getElem?_eq_getElem hlt] at h; cases h
      · exact hge
    rw [List.getElem?_eq_none (by rw [unmark_len]; exact hl)]
  | some cl =>
    by_cases hm : cl = .mark
    · subst hm
      have hlt := get_lt h
      cases h2 : (unmark σ)[c]? with
      | none => rfl
      | some cl' =>
        rcases unmark_get h2 with ⟨rfl, -⟩ | ⟨h3, h4⟩
        · rfl
        · rw [h] at h3; injection h3 with h3; exact absurd h3.symm h4
    · rw [unmark_of h hm]

theorem evCells_unmark {σ : List Cell} {n : Nat} {v : V} : evCells (unmark σ) n v = evCells σ n v := by
  unfold evCells
  cases v <;> simp only [rowOf_unmark]

theorem retV_unmark {tm : List V} {σ : List Cell} {rs : List RS} : retV tm (unmark σ) rs = retV tm σ rs := by
  have one : ∀ r, retOne tm (unmark σ) r = retOne tm σ r := by
    intro r
    cases r <;> simp only [retOne, evCells_unmark]
  have all : ∀ rs, retL tm (unmark σ) rs = retL tm σ rs := by
    intro rs
    induction rs with
    | nil => rfl
    | cons r rs ih => simp only [retL, one, ih]
  simp only [retV, all]

theorem FlatR.unmark {σ : List Cell} {v v' : V} (h : FlatR σ v v') : FlatR (unmark σ) v v' := by
  induction h with
  | same h => exact .same h
  | cz h ih => exact .cz ih
  | nil0 => exact .nil0
  | cap0 => exact .cap0
  | osl h hon hl hp ih => exact .osl (by rw [rowOf_unmark]; exact h) hon hl ih
  | ref h hv hf ih => exact .ref (by rw [rowOf_unmark]; exact h) hv ih
  | fn h1 h2 p1 p2 ih1 ih2 => exact .fn h1 h2 ih1 ih2
  | ifc h ih => exact .ifc ih
  | agg hl hp ih => exact .agg hl ih
  | tup hl hp ih => exact .tup hl ih

theorem SR.unmark {w : World} {A : Nat → Prop} {β : Beta} {σ : List Cell} (h : SR G w A β σ) :
    SR G w (fun b => A b ∨ ∃ (c : Nat) (q : Nat × Nat), σ[c]? = some Cell.mark ∧ β[c]? = some (b, q)) β (unmark σ) ∧
    Mav (fun b => A b ∨ ∃ (c : Nat) (q : Nat × Nat), σ[c]? = some Cell.mark ∧ β[c]? = some (b, q)) β (unmark σ) = Mav A β σ := by
  have e : Mav (fun b => A b ∨ ∃ (c : Nat) (q : Nat × Nat), σ[c]? = some Cell.mark ∧ β[c]? = some (b, q)) β (TL.unmark σ) = Mav A β σ := by
    funext b
    apply propext
    constructor
    · rintro ((h | ⟨c, q, h1, h2⟩) | ⟨c, cl, q, h1, h2, h3⟩)
      · exact .inl h
      · exact .inr ⟨c, .mark, q, h1, rfl, h2⟩
      · rcases unmark_get h1 with ⟨rfl, -⟩ | ⟨h4, -⟩
        · cases h2
        · exact .inr ⟨c, cl, q, h4, h2, h3⟩
    · rintro (h | ⟨c, cl, q, h1, h2, h3⟩)
      · exact .inl (.inl h)
      · by_cases hm : cl = .mark
        · subst hm; exact .inl (.inr ⟨c, q, h1, h3⟩)
        · exact .inr ⟨c, cl, q, unmark_of h1 hm, h2, h3⟩
  refine ⟨⟨by rw [unmark_len]; exact h.len, by rw [e]; exact h.glob, ?_, ?_, ?_⟩, e⟩
  · rintro b (hb | ⟨c, q, h1, h2⟩)
    · exact h.low b hb
    · exact ((h.ok c _ _ h1 h2).free rfl).2
  · intro c cl q hc hq
    rcases unmark_get hc with ⟨rfl, -⟩ | ⟨h1, h2⟩
    · trivial
    · have hok := h.ok c cl q h1 hq
      have hfree : cl.mutable = true → ¬ (A q.1 ∨ ∃ (c : Nat) (q' : Nat × Nat), σ[c]? = some Cell.mark ∧ β[c]? = some (q.1, q')) := by
        rintro hmu (hA | ⟨c', q', h3, h4⟩)
        · exact (hok.free hmu).1 hA
        · have := h.dist c c' cl .mark q.1 q.2 q' h1 hmu h3 rfl hq h4
          subst this
          rw [h1] at h3
          injection h3 with h3
          exact h2 h3
      cases cl with
      | row s xs =>
        obtain ⟨o1, o2, o3, o4, o5⟩ := hok
        exact ⟨o1, o2, by rw [e]; exact o3, hfree rfl, o5⟩
      | held s xs =>
        obtain ⟨o1, o2, o3⟩ := hok
        exact ⟨o1, by rw [e]; exact o2, by rw [e]; exact o3⟩
      | dead => trivial
      | iter s pos =>
        obtain ⟨o1, o2, o3⟩ := hok
        exact ⟨o1, hfree rfl, o3⟩
      | mark => exact absurd rfl h2
  · intro c c' cl cl' b q q' h1 h2 h3 h4
    rcases unmark_get h1 with ⟨rfl, -⟩ | ⟨h5, -⟩
    · cases h2
    rcases unmark_get h3 with ⟨rfl, -⟩ | ⟨h6, -⟩
    · cases h4
    exact h.dist c c' cl cl' b q q' h5 h2 h6 h4

/-- A function that changes nothing that was there, from its body. -/
theorem Pure.of_body {f : FuncId} {pc : PC} {nt : Nat} {res : List RS} (hf : FnOk P f pc nt res) {vs : List V} {r : V}
    (h : PGood P (G.at 0) none pc (vs ++ List.replicate (nt - vs.length) .any) [] (fun e t s => (e = .ret ∨ e = .normal) ∧ ∃ v, retV t s res = some v ∧ FlatR s v r)) : Pure P (G.at 0) f vs r := by
  obtain ⟨mo, fn, c, h1, h2, h3, h4, h5, h6⟩ := hf
  intro A w xs hlow hglob hr
  refine ⟨.enter f xs, w, run_enter h1 h2 h3 xs w, .inr ⟨rfl, rfl, ?_⟩⟩
  refine callsIn_wide.1 (callsIn_of_wp_marks (n := 0) h1 h3 trivial ?_ rfl)
  rw [h5]
  have hs : SR (G.at 0) w A [] [] := ⟨rfl, by rw [mav_nil]; exact hglob, hlow, by simp, by simp⟩
  refine wpIn_mono (h mo c h4 A w [] _ (St.enter hs (by rw [mav_nil]; exact hr) nt 0)) ?_
  rintro e a' w' ⟨t, s, b, ⟨he, v, hv, hR⟩, hst, hext⟩
  have leave : LeavesInM Fence.wide 0 P fn a'.tmps (fun e w' => ∃ x, e = .returned x ∧ Rel w' A [] r x ∧ RowKit.Below w.heap.size w w') a'.defers .returning w' := by
    obtain ⟨cs, hc, hb⟩ := hst.calm
    have hnew : ∀ b', Mset b s b' → w.heap.size ≤ b' := fun b' hm => by
      rcases Nat.lt_or_ge b' w.heap.size with hlt | hge
      · obtain ⟨c, cl, q, h, -⟩ := hext.sub b' hlt hm
        simp at h
      · exact hge
    have hcm : ∀ {ds : List Deferred} {cs : List Nat}, Calm b s ds cs → ∀ c ∈ cs, s[c]? = some Cell.mark := by
      intro ds
      induction ds with
      | nil => intro cs hc c hm; cases cs with | nil => cases hm | cons => exact hc.elim
      | cons d ds ih => intro cs hc c hm; cases cs with
        | nil => exact hc.elim
        | cons c' cs =>
          obtain ⟨⟨_, _, -, e2, -⟩, -, hcs⟩ := hc
          rcases List.mem_cons.1 hm with rfl | hm
          · exact e2
          · exact ih hcs c hm
    obtain ⟨hsr, hmav⟩ := hst.sr.unmark
    refine leave_marks (A := fun b' => ∃ (c : Nat) (q : Nat × Nat), s[c]? = some Cell.mark ∧ b[c]? = some (b', q))
      (fun w' => SR (G.at 0) w' (fun b' => A b' ∨ ∃ (c : Nat) (q : Nat × Nat), s[c]? = some Cell.mark ∧ b[c]? = some (b', q)) b (unmark s) ∧ RelL w' (Mav A b s) b t a'.tmps.toList ∧ RowKit.Below w.heap.size w w') ?_ ?_
      a'.defers cs w' hc ?_ ?_ ⟨hsr, hst.tmps, ⟨hext.os, hext.tape, hext.output, hext.size, fun k hk => hext.same k hk (fun ⟨c, cl, q, h, _⟩ => by simp at h)⟩⟩
    · rintro w2 r2 ⟨i1, i2, i3⟩ hA hheap
      have hother : ∀ b : Nat, b ≠ r2 → (w2.putObj r2 (.deferred none)).heap[b]? = w2.heap[b]? := by
        intro b hb
        simp only [World.putObj, Array.getElem?_setIfInBounds]
        rw [if_neg (Ne.symm hb)]
      have hkept : ∀ (b : Nat) arr t fr, w2.heap[b]? = some (.cells arr t fr) → ∃ arr' fr', (w2.putObj r2 (.deferred none)).heap[b]? = some (.cells arr' t fr') ∧ arr'.size = arr.size := by
        intro b arr t fr hb
        have hne : b ≠ r2 := fun e => by
          subst e
          rw [hheap] at hb
          cases hb
        exact ⟨arr, fr, by rw [hother _ hne]; exact hb, rfl⟩
      refine ⟨i1.blind (fun b' hb' => hother b' (fun e => hb' (.inr (e ▸ hA)))) (by simp [World.putObj]) hkept, ⟨i2.1, fun j hj x hx => (i2.2 j hj x hx).blind (fun b' hb' => hother b' (fun e => hb' ?_)) hkept⟩, ?_⟩
      · subst e
        obtain ⟨c, q, m1, m2⟩ := hA
        exact .inr ⟨c, .mark, q, m1, rfl, m2⟩
      · have hge : w.heap.size ≤ r2 := by
          obtain ⟨c, q, m1, m2⟩ := hA
          exact hnew r2 ⟨c, .mark, q, m1, rfl, m2⟩
        exact i3.trans ⟨rfl, rfl, rfl, by simp [World.putObj], fun k hk => hother k (by omega)⟩
    · rintro w2 ⟨i1, i2, i3⟩
      obtain ⟨y, y1, y2⟩ := run_results i1 (by rw [hmav]; exact i2) h6 (by rw [retV_unmark]; exact hv)
      refine ⟨y, y1, y, rfl, ?_, i3⟩
      exact ((hR.unmark).ok i1 y2).weaken (fun b' _ hb' => ⟨rfl, fun hA => hb' (.inl hA)⟩) (fun _ arr _ fr hh => ⟨arr, fr, hh, rfl⟩) (fun _ _ hq => hq)
    · intro c q hin hq
      have hm := hcm hc c hin
      exact ⟨⟨c, q.2, hm, hq⟩, (hst.sr.ok c _ q hm hq).1⟩
    · intro c c' b' q q' hin hin' hq hq'
      exact hst.sr.dist c c' _ _ b' q q' (hcm hc c hin) rfl (hcm hc c' hin') rfl hq hq'
  rcases he with rfl | rfl
  · exact leave
  · exact leave

end
end Go.TL
