/- balance.Of, Daily, Turnover as functions of Lean's own. -/
import Derived.Test.YthhhejockehncaaGreatDoorTlTy
import Derived.Test.YthhhejockehncaaGreatDoorTlMv
set_option maxRecDepth 20000
set_option linter.all false
set_option linter.unusedVariables false
namespace Go.TL
open Go Go.Proofs
noncomputable section
/-! ### balance.Of, Daily, Turnover: from what is proved of them over the model (part Mv) -/
open Go.Proofs in
theorem rel_int {w : World} {M : Nat → Prop} {β : Beta} {k : IntKind} {n : Int} {x : Value} (h : Rel w M β (.int k n) x) : x = .int k n := by cases h; rfl
theorem rel_str {w : World} {M : Nat → Prop} {β : Beta} {s : List UInt8} {x : Value} (h : Rel w M β (.str s) x) : x = .string ⟨s.toArray⟩ := by cases h; rfl
theorem rel_slice {w : World} {M : Nat → Prop} {β : Beta} {xs : List V} {x : Value} (h : Rel w M β (.sl xs) x) : ∃ p n c, x = .slice p n c := by
  rcases sl_elems h with ⟨-, a, cap, rfl⟩ | ⟨b, p, s, cap, rfl, -⟩
  · exact ⟨_, _, _, rfl⟩
  · exact ⟨_, _, _, rfl⟩
def ofLeg (x : ApiLeg) : Go.Proofs.Mv.L := ⟨x.Account_, x.Amount_, ⟨x.Currency_.toArray⟩⟩
def ofEntry (e : ApiEntry) (v : Value) : Go.Proofs.Mv.E := match v with
  | .slice p n c => ⟨e.Id_, e.Booked_, e.Value_, e.Kind_, e.Auth_, e.Period_, ⟨e.Key_.toArray⟩, ⟨e.Text_.toArray⟩, p, n, c, e.Chain_⟩
  | _ => ⟨0, 0, 0, 0, 0, 0, ⟨#[]⟩, ⟨#[]⟩, none, 0, 0, 0⟩
def mkJ (x : Nat → Value) : Nat → List ApiEntry → Go.Proofs.Mv.J
  | _, [] => []
  | k, e :: l => (ofEntry e (x k), e.Legs_.map ofLeg) :: mkJ x (k + 1) l
theorem mkJ_length (x : Nat → Value) : ∀ (l : List ApiEntry) (k : Nat), (mkJ x k l).length = l.length
  | [], _ => rfl
  | _ :: l, k => by rw [mkJ, List.length_cons, mkJ_length x l, List.length_cons]
theorem mkJ_get (x : Nat → Value) : ∀ (l : List ApiEntry) (k i : Nat) (h : i < (mkJ x k l).length) (h' : i < l.length), (mkJ x k l)[i] = (ofEntry l[i] (x (k + i)), l[i].Legs_.map ofLeg)
  | e :: l, k, 0, _, _ => rfl
  | e :: l, k, i + 1, h, h' => by
    have := mkJ_get x l (k + 1) i (by simpa [mkJ] using h) (by simpa using h')
    simp only [mkJ, List.getElem_cons_succ]
    rw [this, show k + 1 + i = k + (i + 1) by omega]
def smallJ (j : List ApiEntry) : Bool := decide (j.length < 4611686018427387904) && j.all fun e => decide (e.Legs_.length < 4611686018427387904)
theorem choose2 {α : Type} [Inhabited α] {P : Nat → α → Prop} {n : Nat} (h : ∀ i, i < n → ∃ x, P i x) : ∃ f : Nat → α, ∀ i, i < n → P i (f i) :=
  ⟨fun i => if hi : i < n then Classical.choose (h i hi) else default, fun i hi => by simp only [dif_pos hi]; exact Classical.choose_spec (h i hi)⟩
theorem at_of_rel {w : World} {A : Nat → Prop} {j : List ApiEntry} {v : Value} (h : Rel w A [] (.sl (j.map ApiEntry.v)) v) (hs : smallJ j = true) : ∃ x, Go.Proofs.Mv.At w.heap.size w v (mkJ x 0 j) ∧ ∀ i, i < j.length → ∃ p m c, x (0 + i) = Value.slice p m c := by
  simp only [smallJ, Bool.and_eq_true, decide_eq_true_eq, List.all_eq_true] at hs
  obtain ⟨hs1, hs2⟩ := hs
  rcases sl_elems h with ⟨he, a, cap, rfl⟩ | ⟨b, p, s, cap, rfl, hcap, he⟩
  · have : j = [] := by simpa using he
    subst this
    exact ⟨fun _ => default, ⟨a, cap, rfl, by simp [mkJ], fun k hk => by simp [mkJ] at hk⟩, fun i hi => by simp at hi⟩
  · have key : ∀ i, i < j.length → ∃ x : Value, ∃ hi : i < j.length, ∀ k (hk : k < 10), w.cell? ⟨b, p + i * 10 + k, none⟩ = some ((ofEntry j[i] x).cells[k]'hk) ∧ (ofEntry j[i] x).Legs = x ∧ Rel w A [] (.sl (j[i].Legs_.map ApiLeg.v)) x := by
      intro i hi
      obtain ⟨-, h2, h3⟩ := he i (by simpa using hi)
      have e10 : (List.map ApiEntry.v j)[i]'(by simpa using hi) = j[i].v := by simp
      rw [e10] at h2 h3
      have hs10 : s = 10 := h2.symm
      subst hs10
      obtain ⟨x0, c0, r0⟩ := h3 0 (by show 0 < 10; omega)
      obtain ⟨x1, c1, r1⟩ := h3 1 (by show 1 < 10; omega)
      obtain ⟨x2, c2, r2⟩ := h3 2 (by show 2 < 10; omega)
      obtain ⟨x3, c3, r3⟩ := h3 3 (by show 3 < 10; omega)
      obtain ⟨x4, c4, r4⟩ := h3 4 (by show 4 < 10; omega)
      obtain ⟨x5, c5, r5⟩ := h3 5 (by show 5 < 10; omega)
      obtain ⟨x6, c6, r6⟩ := h3 6 (by show 6 < 10; omega)
      obtain ⟨x7, c7, r7⟩ := h3 7 (by show 7 < 10; omega)
      obtain ⟨x8, c8, r8⟩ := h3 8 (by show 8 < 10; omega)
      obtain ⟨x9, c9, r9⟩ := h3 9 (by show 9 < 10; omega)
      have r0 := rel_int (k := .i64) (n := j[i].Id_) r0
      have r1 := rel_int (k := .i64) (n := j[i].Booked_) r1
      have r2 := rel_int (k := .i64) (n := j[i].Value_) r2
      have r3 := rel_int (k := .i64) (n := j[i].Kind_) r3
      have r4 := rel_int (k := .i64) (n := j[i].Auth_) r4
      have r5 := rel_int (k := .i64) (n := j[i].Period_) r5
      have r6 := rel_str (s := j[i].Key_) r6
      have r7 := rel_str (s := j[i].Text_) r7
      have r8 : Rel w A [] (.sl (j[i].Legs_.map ApiLeg.v)) x8 := r8
      have r9 := rel_int (k := .u64) (n := j[i].Chain_) r9
      obtain ⟨lp, ln, lc, e8⟩ := rel_slice r8
      subst r0; subst r1; subst r2; subst r3; subst r4; subst r5; subst r6; subst r7; subst r9; subst e8
      refine ⟨_, hi, fun k hk => ⟨?_, rfl, r8⟩⟩
      match k, hk with
      | 0, _ => exact c0
      | 1, _ => exact c1
      | 2, _ => exact c2
      | 3, _ => exact c3
      | 4, _ => exact c4
      | 5, _ => exact c5
      | 6, _ => exact c6
      | 7, _ => exact c7
      | 8, _ => exact c8
      | 9, _ => exact c9
    obtain ⟨x, hx⟩ := choose2 key
    refine ⟨x, ⟨some ⟨b, p, none⟩, cap, by rw [mkJ_length]; simp, by rw [mkJ_length]; exact hs1, fun k hk => ?_⟩, fun i hi => by rw [Nat.zero_add]; exact ⟨_, _, _, ((hx i hi).2 0 (by omega)).2.1.symm⟩⟩
    have hk' : k < j.length := by rw [mkJ_length] at hk; exact hk
    have g := (hx k hk').2
    rw [mkJ_get x j 0 k hk hk', Nat.zero_add]
    have hbl : b < w.heap.size := cell_lt (g 0 (by omega)).1
    refine ⟨?_, b, p, rfl, hbl, fun i hi => (g i hi).1⟩
    have e2 := (g 0 (by omega)).2.1
    have e3 := (g 0 (by omega)).2.2
    simp only
    rw [e2]
    have hll := hs2 _ (List.getElem_mem hk')
    rcases sl_elems e3 with ⟨he, a, cap, e4⟩ | ⟨b', p', s', cap', e4, hcap', he'⟩
    · have : j[k].Legs_ = [] := by simpa using he
      rw [e4, this]
      exact ⟨a, cap, rfl, by simp, fun k hk => by simp at hk⟩
    · rw [e4]
      refine ⟨some ⟨b', p', none⟩, cap', by simp, by simpa using hll, fun m hm => ?_⟩
      have hm' : m < j[k].Legs_.length := by simpa using hm
      obtain ⟨-, h2, h3⟩ := he' m (by simpa using hm')
      have e10 : (List.map ApiLeg.v j[k].Legs_)[m]'(by simpa using hm') = j[k].Legs_[m].v := by simp
      rw [e10] at h2 h3
      have hs3 : s' = 3 := h2.symm
      subst hs3
      obtain ⟨x0, c0, r0⟩ := h3 0 (by show 0 < 3; omega)
      obtain ⟨x1, c1, r1⟩ := h3 1 (by show 1 < 3; omega)
      obtain ⟨x2, c2, r2⟩ := h3 2 (by show 2 < 3; omega)
      have r0 := rel_int (k := .i64) (n := j[k].Legs_[m].Account_) r0
      have r1 := rel_int (k := .i64) (n := j[k].Legs_[m].Amount_) r1
      have r2 := rel_str (s := j[k].Legs_[m].Currency_) r2
      subst r0; subst r1; subst r2
      simp only [List.getElem_map]
      exact ⟨b', p', rfl, cell_lt c0, c0, c1, c2⟩
/-- The entries with a leg of an account, and the amounts of these legs. -/
def moves (a : Int) (j : List ApiEntry) : List (ApiEntry × Int) := j.flatMap fun e => (e.Legs_.filter fun x => decide (x.Account_ = a)).map fun x => (e, x.Amount_)
theorem moves_all (a : Int) (x : Nat → Value) {α : Type} (T : Go.Proofs.Mv.E × Int → α) (U : ApiEntry × Int → α) (hT : ∀ e v n, (∃ p m c, v = Value.slice p m c) → T (ofEntry e v, n) = U (e, n)) :
    ∀ (j : List ApiEntry) (k : Nat), (∀ i, i < j.length → ∃ p m c, x (k + i) = Value.slice p m c) → (Go.Proofs.Mv.all a (mkJ x k j)).map T = (moves a j).map U
  | [], _, _ => rfl
  | e :: j, k, h => by
    have ih := moves_all a x T U hT j (k + 1) (fun i hi => by rw [show k + 1 + i = k + (i + 1) by omega]; exact h (i + 1) (by simp; omega))
    simp only [Go.Proofs.Mv.all, moves, mkJ, List.flatMap_cons, List.map_append] at ih ⊢
    rw [ih]
    congr 1
    simp only [Go.Proofs.Mv.legs, List.filter_map, List.map_map]
    have h0 := h 0 (by simp)
    have e1 : (List.filter ((fun x : Go.Proofs.Mv.L => decide (x.Account = a)) ∘ ofLeg) e.Legs_) = List.filter (fun x => decide (x.Account_ = a)) e.Legs_ := rfl
    rw [e1]
    apply List.map_congr_left
    intro y _
    exact hT e _ _ h0

theorem wrap_eq (n : Int) : Go.RowKit.wrap64 n = IntKind.wrap .i64 n := by rw [IntKind.wrap_i64, Go.RowKit.wrap64]
theorem argsB2 {w : World} {M : Nat → Prop} {u v : V} {xs : Array Value} (h : RelL w M [] [u, v] xs.toList) : ∃ x y, xs = #[x, y] ∧ Rel w M [] u x ∧ Rel w M [] v y := by
  obtain ⟨l⟩ := xs
  match l, h with
  | [x, y], h => exact ⟨x, y, rfl, h.2 0 (by simp) x (by simp), h.2 1 (by simp) y (by simp)⟩
  | [], h => have := h.1; simp at this
  | [_], h => have := h.1; simp at this
  | _ :: _ :: _ :: _, h => have := h.1; simp at this
theorem argsB4 {w : World} {M : Nat → Prop} {u v u' v' : V} {xs : Array Value} (h : RelL w M [] [u, v, u', v'] xs.toList) : ∃ x y x' y', xs = #[x, y, x', y'] ∧ Rel w M [] u x ∧ Rel w M [] v y ∧ Rel w M [] u' x' ∧ Rel w M [] v' y' := by
  obtain ⟨l⟩ := xs
  match l, h with
  | [x, y, x', y'], h => exact ⟨x, y, x', y', rfl, h.2 0 (by simp) x (by simp), h.2 1 (by simp) y (by simp), h.2 2 (by simp) x' (by simp), h.2 3 (by simp) y' (by simp)⟩
  | [], h => have := h.1; simp at this
  | [_], h => have := h.1; simp at this
  | [_, _], h => have := h.1; simp at this
  | [_, _, _], h => have := h.1; simp at this
  | _ :: _ :: _ :: _ :: _ :: _, h => have := h.1; simp at this

def F_balance_Of (_N : Nat) (j : List ApiEntry) (a : Int) : Option Int := if smallJ j then some ((moves a j).foldl (fun n x => IntKind.wrap .i64 (n - x.2)) 0) else none
theorem P_balance_Of {N : Nat} {j : List ApiEntry} {a : Int} {r : Int} (h : F_balance_Of N j a = some r) : Pure Tryz.prog (Gl.at 0) 26 [.sl (j.map ApiEntry.v), i64 a] (i64 r) := by
  unfold F_balance_Of at h
  split at h <;> try (cases h; done)
  rename_i hs
  injection h with h
  subst h
  intro A w xs hlow hg hr
  obtain ⟨v, y, rfl, r1, r2⟩ := argsB2 hr
  obtain rfl := rel_int r2
  refine ⟨_, w, run_enter Tryz.func26 (by decide) rfl _ w, .inr ⟨rfl, rfl, ?_⟩⟩
  obtain ⟨x, hx, hsl⟩ := at_of_rel r1 hs
  refine (callsIn_wide.1 (Go.Proofs.Mv.Of_in Fence.wide 3 trivial trivial trivial rfl (by omega) v _ a w hx)).mono ?_
  rintro e W' ⟨rfl, hb⟩
  refine ⟨_, rfl, ?_, hb⟩
  have e := moves_all a x (fun p => p.2) (fun p => p.2) (fun _ _ _ _ => rfl) j 0 hsl
  have e2 : Go.Proofs.Mv.sub 0 (Go.Proofs.Mv.all a (mkJ x 0 j)) = (moves a j).foldl (fun n x => IntKind.wrap .i64 (n - x.2)) 0 := by
    have e3 : ∀ l : List (Go.Proofs.Mv.E × Int), Go.Proofs.Mv.sub 0 l = (l.map (fun p => p.2)).foldl (fun n x => IntKind.wrap .i64 (n - x)) 0 := fun l => by
      rw [List.foldl_map, Go.Proofs.Mv.sub]
      simp only [wrap_eq]
    rw [e3, e, List.foldl_map]
  rw [← e2]
  exact .int _ _

def turnStep (f t : Int) (s : Int × Int) (b n : Int) : Int × Int := if b < f ∨ t < b then s else if 0 < n then (IntKind.wrap .i64 (s.1 + n), s.2) else (s.1, IntKind.wrap .i64 (s.2 - n))
def F_balance_Turnover (_N : Nat) (j : List ApiEntry) (a f t : Int) : Option (Int × Int) := if smallJ j then some ((moves a j).foldl (fun s x => turnStep f t s x.1.Booked_ x.2) (0, 0)) else none
theorem P_balance_Turnover {N : Nat} {j : List ApiEntry} {a f t : Int} {r : Int × Int} (h : F_balance_Turnover N j a f t = some r) : Pure Tryz.prog (Gl.at 0) 29 [.sl (j.map ApiEntry.v), i64 a, i64 f, i64 t] (.tup [i64 r.1, i64 r.2]) := by
  unfold F_balance_Turnover at h
  split at h <;> try (cases h; done)
  rename_i hs
  injection h with h
  intro A w xs hlow hg hr
  obtain ⟨v, y, y2, y3, rfl, r1, r2, r3, r4⟩ := argsB4 hr
  obtain rfl := rel_int r2
  obtain rfl := rel_int r3
  obtain rfl := rel_int r4
  refine ⟨_, w, run_enter Tryz.func29 (by decide) rfl _ w, .inr ⟨rfl, rfl, ?_⟩⟩
  obtain ⟨x, hx, hsl⟩ := at_of_rel r1 hs
  refine (callsIn_wide.1 (Go.Proofs.Mv.Turnover_in Fence.wide 3 trivial trivial trivial rfl (by omega) v _ a f t w hx)).mono ?_
  rintro e W' ⟨rfl, hb⟩
  refine ⟨_, rfl, ?_, hb⟩
  have e := moves_all a x (fun p => (p.1.Booked, p.2)) (fun p => (p.1.Booked_, p.2)) (fun e v n ⟨p, m, c, h⟩ => by subst h; rfl) j 0 hsl
  have e2 : Go.Proofs.Mv.turn f t (Go.Proofs.Mv.all a (mkJ x 0 j)) = r := by
    have e3 : ∀ l : List (Go.Proofs.Mv.E × Int), Go.Proofs.Mv.turn f t l = (l.map (fun p => (p.1.Booked, p.2))).foldl (fun s x => turnStep f t s x.1 x.2) (0, 0) := fun l => by
      rw [List.foldl_map, Go.Proofs.Mv.turn]
      congr 1
      funext s x
      simp only [Go.Proofs.Mv.turnStep, turnStep, wrap_eq]
    rw [e3, e, List.foldl_map]
    exact h
  rw [← e2]
  refine .tup rfl (fun j hj => ?_)
  match j, hj with
  | 0, _ => exact .int _ _
  | 1, _ => exact .int _ _

def dayStep (f t : Int) (l : List Int) (b n : Int) : List Int := if b ≤ t then l.set (max f b - f).toNat (IntKind.wrap .i64 (l.getD (max f b - f).toNat 0 - n)) else l
def psum (l : List Int) (k : Nat) : List Int := l.set k (IntKind.wrap .i64 (l[k]! + l[k - 1]!))
def psums (l : List Int) : Nat → List Int
  | 0 => l
  | 1 => l
  | k + 2 => psum (psums l (k + 1)) (k + 1)
def dailyOk (f t : Int) : Bool := decide (0 ≤ f) && decide (f ≤ 73048) && (decide (0 ≤ t) && decide (t ≤ 73048)) && decide (f ≤ t) && decide (t - f < 4000)
def daily (j : List ApiEntry) (a f t : Int) : List Int := psums ((moves a j).foldl (fun s x => dayStep f t s x.1.Value_ x.2) (List.replicate (t - f + 1).toNat 0)) (t - f + 1).toNat
def F_balance_Daily (_N : Nat) (j : List ApiEntry) (a f t : Int) : Option (List Int) := if smallJ j then some (if dailyOk f t then daily j a f t else []) else none
theorem psums_eq (l : List Int) : ∀ k, Go.Proofs.Mv.psums l k = psums l k
  | 0 => rfl
  | 1 => rfl
  | k + 2 => by rw [Go.Proofs.Mv.psums, psums, psums_eq l (k + 1), Go.Proofs.Mv.psum, psum, wrap_eq]
theorem P_balance_Daily {N : Nat} {j : List ApiEntry} {a f t : Int} {r : List Int} (h : F_balance_Daily N j a f t = some r) : Pure Tryz.prog (Gl.at 0) 27 [.sl (j.map ApiEntry.v), i64 a, i64 f, i64 t] (.sl (r.map i64)) := by
  unfold F_balance_Daily at h
  split at h <;> try (cases h; done)
  rename_i hs
  injection h with h
  intro A w xs hlow hg hr
  obtain ⟨v, y, y2, y3, rfl, r1, r2, r3, r4⟩ := argsB4 hr
  obtain rfl := rel_int r2
  obtain rfl := rel_int r3
  obtain rfl := rel_int r4
  refine ⟨_, w, run_enter Tryz.func27 (by decide) rfl _ w, .inr ⟨rfl, rfl, ?_⟩⟩
  split at h
  · rename_i hd
    have hd' := hd
    simp only [dailyOk, Bool.and_eq_true, decide_eq_true_eq] at hd'
    obtain ⟨⟨⟨⟨f1, f2⟩, t1, t2⟩, ft⟩, sp⟩ := hd'
    obtain ⟨L, hL⟩ : ∃ L : Nat, (t - f + 1).toNat = L := ⟨_, rfl⟩
    have ht : t = f + L - 1 := by omega
    obtain ⟨x, hx, hsl⟩ := at_of_rel r1 hs
    have := Go.Proofs.Mv.Daily_in 3 (by omega) v _ a f L (by omega) (by omega) (by simp [Go.Proofs.Mv.valid, f1, f2]) (by simp [Go.Proofs.Mv.valid]; omega) w hx
    rw [← ht] at this
    refine (callsIn_wide.1 this).mono ?_
    rintro e W' ⟨B, rfl, hB, hR, hb⟩
    refine ⟨_, rfl, ?_, hb⟩
    have e := moves_all a x (fun p => (p.1.Val, p.2)) (fun p => (p.1.Value_, p.2)) (fun e v n ⟨p, m, c, h⟩ => by subst h; rfl) j 0 hsl
    have e2 : Go.Proofs.Mv.psums (Go.Proofs.Mv.days f t L (Go.Proofs.Mv.all a (mkJ x 0 j))) L = r := by
      have e3 : ∀ l : List (Go.Proofs.Mv.E × Int), Go.Proofs.Mv.days f t L l = (l.map (fun p => (p.1.Val, p.2))).foldl (fun s x => dayStep f t s x.1 x.2) (List.replicate L 0) := fun l => by
        rw [List.foldl_map, Go.Proofs.Mv.days]
        congr 1
        funext s x
        simp only [Go.Proofs.Mv.dayStep, dayStep, wrap_eq]
      rw [psums_eq, e3, e, List.foldl_map, ← h, daily, hL]
    rw [e2] at hR
    have hlen : r.length = L := by rw [← e2, Go.Proofs.Mv.psums_length, Go.Proofs.Mv.days_length]
    have hnA : ¬ A B := fun hA => by have := hlow _ hA; omega
    have hl2 : L = (r.map i64).length := by simp [hlen]
    rw [hl2]
    refine .sl (s := 1) (fun i _ => .int .i64 (r.getD i 0)) (by simp) (fun u hu => ?_) (fun i k hi hk => ?_) (fun i k hi hk => ?_)
    · obtain ⟨z, -, rfl⟩ := List.mem_map.1 hu
      exact ⟨rfl, rfl⟩
    · have hi' : i < r.length := by simpa using hi
      have := hR.cell i hi'
      obtain rfl : k = 0 := by omega
      simp only [Nat.zero_add, Nat.mul_one, Nat.add_zero]
      rw [this]
      exact ⟨by simp [List.getD, hi'], hnA⟩
    · have hi' : i < r.length := by simpa using hi
      simp only [List.getElem_map] at hk ⊢
      obtain rfl : k = 0 := by simpa [V.cells] using hk
      have : r.getD i 0 = r[i] := by simp [List.getD, hi']
      rw [this]
      exact .int _ _
  · rename_i hd
    refine (callsIn_wide.1 (Go.Proofs.Mv.Daily_nil 3 (by omega) v a f t (fun ⟨h1, h2, h3, h4⟩ => hd (by
      simp only [Go.Proofs.Mv.valid, Bool.and_eq_true, decide_eq_true_eq] at h1 h2
      simp [dailyOk, h1, h2, h3, h4])) w)).mono ?_
    rintro e W' ⟨rfl, hb⟩
    subst h
    exact ⟨_, rfl, .sl0 none 0 (fun _ => rfl), hb⟩
end
end Go.TL
