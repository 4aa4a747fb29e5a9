/- The plain law: dates. -/
import Derived.Test.YthhhejockehncaaGreatDoorTlLeE
import Derived.IntWalk
set_option maxRecDepth 20000
set_option linter.all false
set_option linter.unusedVariables false
namespace Go.TL
open Go Go.Proofs
noncomputable section
/-! the lowest -/
theorem low_same (N : Nat) (l : List Int) (hl : l.length ≤ maxLen) : ∀ (m i : Nat) (v : Int), 1 ≤ i → i ≤ l.length → l.length - i < m → ∃ r, L_slices_Min_int_1 N l m v i = some r ∧ L_r25_lowest_1 N l m v i = some r := by
  intro m
  induction m with
  | zero => intro i v _ _ h; omega
  | succ m ih =>
    intro i v h1 hi hm
    rw [L_slices_Min_int_1, L_r25_lowest_1]
    by_cases h : i < l.length
    · have w := wrap_idx h hl
      have hz : ¬ ((i : Int) = 0) := by omega
      simp only [h, hz, Int.ofNat_lt, decide_true, decide_false, cond_true, cond_false, getI_nat h, Option.bind_some, w]
      by_cases hc : l[i] < v
      · simp only [hc, if_true, decide_true, cond_true]
        exact ih _ _ (by omega) (by omega) (by omega)
      · simp only [hc, if_false, decide_false, cond_false]
        exact ih _ _ (by omega) (by omega) (by omega)
    · simp only [h, Int.ofNat_lt, decide_false, cond_false]
      exact ⟨v, rfl, rfl⟩
theorem F_Min_spec (N : Nat) (l : List Int) (h0 : 0 < l.length) (h9 : l.length + 1 < N) (hl : l.length ≤ maxLen) : ∃ r, F_slices_Min_int N l = some r ∧ F_r25_lowest N l = some r := by
  obtain ⟨m, rfl⟩ : ∃ m, N = m + 1 := ⟨N - 1, by omega⟩
  obtain ⟨r, g1, g2⟩ := low_same (m + 1) l hl (m + 1) 1 l[0] (by omega) (by omega) (by omega)
  obtain ⟨r', g1', g2'⟩ := low_same (m + 1) l hl m 1 l[0] (by omega) (by omega) (by omega)
  -- the loop's answer does not hang on the count of rounds
  have same : ∀ (k k' i : Nat) (v : Int), 1 ≤ i → i ≤ l.length → l.length - i < k → l.length - i < k' → L_r25_lowest_1 (m + 1) l k v i = L_r25_lowest_1 (m + 1) l k' v i := by
    intro k
    induction k with
    | zero => intro k' i v _ _ h; omega
    | succ k ih =>
      intro k' i v h1 hi hk hk'
      obtain ⟨k', rfl⟩ : ∃ q, k' = q + 1 := ⟨k' - 1, by omega⟩
      rw [L_r25_lowest_1, L_r25_lowest_1]
      by_cases h : i < l.length
      · have w := wrap_idx h hl
        have hz : ¬ ((i : Int) = 0) := by omega
        simp only [h, hz, Int.ofNat_lt, decide_true, decide_false, cond_true, cond_false, getI_nat h, Option.bind_some, w]
        rw [ih k' (i + 1) _ (by omega) (by omega) (by omega) (by omega), ih k' (i + 1) _ (by omega) (by omega) (by omega) (by omega)]
      · simp only [h, Int.ofNat_lt, decide_false, cond_false]
  have e0 : getI l 0 = some l[0] := getI_nat h0
  have w0 : IntKind.wrap .i64 (0 + 1) = ((1 : Nat) : Int) := rfl
  have hp : ((0 : Int) < (l.length : Int)) := by omega
  rw [show ((1 : Nat) : Int) = 1 from rfl] at g1 g2 g2'
  refine ⟨r, ?_, ?_⟩
  · simp only [F_slices_Min_int, show decide ((l.length : Int) < 1) = false by simp; omega, cond_false, e0, Option.bind_some, g1, K_slices_Min_int_1]
  · rw [F_r25_lowest, L_r25_lowest_1]
    simp only [hp, decide_true, cond_true, e0, Option.bind_some, w0]
    have := same m (m + 1) 1 l[0] (by omega) (by omega) (by omega) (by omega)
    rw [show ((1 : Nat) : Int) = 1 from rfl] at this ⊢
    rw [this, g2]
    rfl

/-! turnover -/
def turnLegs (a : Int) : List ApiLeg → Int × Int → Int × Int
  | [], s => s
  | x :: l, s => turnLegs a l (if x.Account_ = a then (if 0 < x.Amount_ then (IntKind.wrap .i64 (s.1 + x.Amount_), s.2) else if x.Amount_ < 0 then (s.1, IntKind.wrap .i64 (s.2 - x.Amount_)) else s) else s)
def turns (a f t : Int) : List ApiEntry → Int × Int → Int × Int
  | [], s => s
  | e :: l, s => turns a f t l (if e.Booked_ < f ∨ t < e.Booked_ then s else turnLegs a e.Legs_ s)
def W2 (s : Int × Int) : Prop := IntKind.wrap .i64 s.2 = s.2
theorem turn_legs (a f t : Int) (e : ApiEntry) (l : List ApiLeg) : ∀ s : Int × Int, W2 s → ((l.filter fun x => decide (x.Account_ = a)).map fun x => (e, x.Amount_)).foldl (fun s x => turnStep f t s x.1.Booked_ x.2) s = (if e.Booked_ < f ∨ t < e.Booked_ then s else turnLegs a l s) ∧ W2 (turnLegs a l s) := by
  induction l with
  | nil => intro s h; exact ⟨by simp [turnLegs], h⟩
  | cons x l ih =>
    intro s h
    by_cases hx : x.Account_ = a
    · rw [List.filter_cons_of_pos (by simpa using hx), List.map_cons, List.foldl_cons, turnLegs, if_pos hx]
      by_cases hb : e.Booked_ < f ∨ t < e.Booked_
      · have e1 : turnStep f t s e.Booked_ x.Amount_ = s := by unfold turnStep; rw [if_pos hb]
        rw [e1, (ih s h).1, if_pos hb, if_pos hb]
        refine ⟨rfl, ?_⟩
        refine (ih _ ?_).2
        split
        · exact h
        · split
          · exact wrap_w _
          · exact h
      · have e1 : turnStep f t s e.Booked_ x.Amount_ = (if 0 < x.Amount_ then (IntKind.wrap .i64 (s.1 + x.Amount_), s.2) else if x.Amount_ < 0 then (s.1, IntKind.wrap .i64 (s.2 - x.Amount_)) else s) := by
          unfold turnStep
          rw [if_neg hb]
          by_cases h1 : 0 < x.Amount_
          · rw [if_pos h1, if_pos h1]
          · rw [if_neg h1, if_neg h1]
            by_cases h2 : x.Amount_ < 0
            · rw [if_pos h2]
            · rw [if_neg h2]
              have : x.Amount_ = 0 := by omega
              rw [this, Int.sub_zero, h]
        have hw : W2 (if 0 < x.Amount_ then (IntKind.wrap .i64 (s.1 + x.Amount_), s.2) else if x.Amount_ < 0 then (s.1, IntKind.wrap .i64 (s.2 - x.Amount_)) else s) := by
          split
          · exact h
          · split
            · exact wrap_w _
            · exact h
        rw [e1, (ih _ hw).1, if_neg hb, if_neg hb]
        exact ⟨rfl, (ih _ hw).2⟩
    · rw [List.filter_cons_of_neg (by simpa using hx), turnLegs, if_neg hx]
      exact ih s h
theorem turn_moves (a f t : Int) : ∀ (j : List ApiEntry) (s : Int × Int), W2 s → (moves a j).foldl (fun s x => turnStep f t s x.1.Booked_ x.2) s = turns a f t j s := by
  intro j
  induction j with
  | nil => intro s _; rfl
  | cons e j ih =>
    intro s h
    have e1 : moves a (e :: j) = ((e.Legs_.filter fun x => decide (x.Account_ = a)).map fun x => (e, x.Amount_)) ++ moves a j := rfl
    have h1 := turn_legs a f t e e.Legs_ s h
    rw [e1, List.foldl_append, h1.1, ih _ (by split <;> first | exact h | exact h1.2), turns]
theorem turn2_spec (N : Nat) (j : List ApiEntry) (a : Int) (p : Nat) (hp : p < j.length) (hl : j[p].Legs_.length ≤ maxLen) : ∀ (m i : Nat) (x y : Int), i ≤ j[p].Legs_.length → j[p].Legs_.length - i < m → L_r21_Turnover_2 N j a p m x y i = some (turnLegs a (j[p].Legs_.drop i) (x, y)) := by
  intro m
  induction m with
  | zero => intro i x y _ h; omega
  | succ m ih =>
    intro i x y hi hm
    rw [L_r21_Turnover_2]
    by_cases h : i < j[p].Legs_.length
    · have w := wrap_idx h hl
      rw [List.drop_eq_getElem_cons h]
      simp only [h, Int.ofNat_lt, decide_true, cond_true, getI_nat hp, getI_nat h, Option.bind_some, turnLegs, w]
      by_cases h1 : j[p].Legs_[i].Account_ = a
      · by_cases h2 : 0 < j[p].Legs_[i].Amount_
        · have h3 : ¬ j[p].Legs_[i].Amount_ < 0 := by omega
          simp only [h1, h2, h3, decide_true, decide_false, cond_true, cond_false, if_true, if_false]
          exact ih _ _ _ (by omega) (by omega)
        · by_cases h3 : j[p].Legs_[i].Amount_ < 0
          · simp only [h1, h2, h3, decide_true, decide_false, cond_true, cond_false, if_true, if_false]
            exact ih _ _ _ (by omega) (by omega)
          · simp only [h1, h2, h3, decide_true, decide_false, cond_true, cond_false, if_true, if_false]
            exact ih _ _ _ (by omega) (by omega)
      · simp only [h1, decide_false, cond_false, if_false]
        exact ih _ _ _ (by omega) (by omega)
    · have : i = j[p].Legs_.length := by omega
      subst this
      simp only [getI_nat hp, Option.bind_some, h, Int.ofNat_lt, decide_false, cond_false, List.drop_length, turnLegs]
theorem turn1_spec (N : Nat) (j : List ApiEntry) (a f t : Int) (hl : j.length ≤ maxLen) (hd : ∀ e ∈ j, e.Legs_.length ≤ maxLen ∧ e.Legs_.length < N) : ∀ (m i : Nat) (x y : Int), i ≤ j.length → j.length - i < m → L_r21_Turnover_1 N j a f t m x y i = some (turns a f t (j.drop i) (x, y)) := by
  intro m
  induction m with
  | zero => intro i x y _ h; omega
  | succ m ih =>
    intro i x y hi hm
    rw [L_r21_Turnover_1]
    by_cases h : i < j.length
    · have w := wrap_idx h hl
      obtain ⟨g1, g2⟩ := hd _ (List.getElem_mem h)
      have t2 := turn2_spec N j a i h g1 N 0 x y (by omega) (by omega)
      rw [show ((0 : Nat) : Int) = 0 from rfl, List.drop_zero] at t2
      rw [List.drop_eq_getElem_cons h]
      simp only [h, Int.ofNat_lt, decide_true, cond_true, getI_nat h, Option.bind_some, turns, w]
      by_cases h1 : j[i].Booked_ < f
      · simp only [h1, decide_true, cond_true, true_or, if_true]
        exact ih _ _ _ (by omega) (by omega)
      · by_cases h2 : t < j[i].Booked_
        · simp only [h1, h2, decide_true, decide_false, cond_true, cond_false, or_true, if_true]
          exact ih _ _ _ (by omega) (by omega)
        · simp only [h1, h2, decide_false, cond_false, or_self, if_false, t2, Option.bind_some, K_r21_Turnover_2, w]
          exact ih _ _ _ (by omega) (by omega)
    · have : i = j.length := by omega
      subst this
      simp only [h, Int.ofNat_lt, decide_false, cond_false, List.drop_length, turns]
theorem F_Turnover_spec (N : Nat) (j : List ApiEntry) (a f t : Int) (hN : j.length < N) (hl : j.length ≤ maxLen) (hs : smallJ j = true) (hd : ∀ e ∈ j, e.Legs_.length ≤ maxLen ∧ e.Legs_.length < N) : ∃ r, F_balance_Turnover N j a f t = some r ∧ F_r21_Turnover N j a f t = some r := by
  have t1 := turn1_spec N j a f t hl hd N 0 0 0 (by omega) (by omega)
  rw [show ((0 : Nat) : Int) = 0 from rfl, List.drop_zero] at t1
  refine ⟨turns a f t j (0, 0), ?_, ?_⟩
  · unfold F_balance_Turnover
    rw [if_pos hs, turn_moves a f t j (0, 0) rfl]
  · simp only [F_r21_Turnover, t1, Option.bind_some]
    rfl

/-! the count -/
theorem touches_same (N : Nat) (e : ApiEntry) (a : Int) (hl : e.Legs_.length ≤ maxLen) : ∀ (m i : Nat), i ≤ e.Legs_.length → e.Legs_.length - i < m →
    (∃ k : Nat, L_slices_IndexFunc_api_Leg_v0d5_1 N e.Legs_ a m i = some (.ret (k : Int)) ∧ L_r25_touches_1 N e a m i = some (.ret true)) ∨ (L_slices_IndexFunc_api_Leg_v0d5_1 N e.Legs_ a m i = some (.brk ()) ∧ L_r25_touches_1 N e a m i = some (.brk ())) := by
  intro m
  induction m with
  | zero => intro i _ h; omega
  | succ m ih =>
    intro i hi hm
    rw [L_slices_IndexFunc_api_Leg_v0d5_1, L_r25_touches_1]
    by_cases h : i < e.Legs_.length
    · have w := wrap_idx h hl
      simp only [h, Int.ofNat_lt, decide_true, cond_true, getI_nat h, Option.bind_some, w, F_limit_touches_c1_vb45]
      by_cases h1 : e.Legs_[i].Account_ = a
      · simp only [h1, decide_true, cond_true]
        exact .inl ⟨i, rfl, trivial⟩
      · simp only [h1, decide_false, cond_false]
        exact ih _ (by omega) (by omega)
    · simp only [h, Int.ofNat_lt, decide_false, cond_false]
      exact .inr ⟨trivial, trivial⟩
theorem F_touches_spec (N : Nat) (e : ApiEntry) (a : Int) (hl : e.Legs_.length ≤ maxLen) (hN : e.Legs_.length < N) : ∃ r, F_limit_touches N e a = some r ∧ F_r25_touches N e a = some r := by
  have := touches_same N e a hl N 0 (by omega) (by omega)
  rw [show ((0 : Nat) : Int) = 0 from rfl] at this
  rcases this with ⟨k, h1, h2⟩ | ⟨h1, h2⟩
  · refine ⟨true, ?_, ?_⟩
    · simp only [F_limit_touches, F_slices_ContainsFunc_api_Leg_v0d5, F_slices_IndexFunc_api_Leg_v0d5, h1, Option.bind_some, K_slices_IndexFunc_api_Leg_v0d5_1]
      simp
    · simp only [F_r25_touches, h2, Option.bind_some, K_r25_touches_1]
  · refine ⟨false, ?_, ?_⟩
    · simp only [F_limit_touches, F_slices_ContainsFunc_api_Leg_v0d5, F_slices_IndexFunc_api_Leg_v0d5, h1, Option.bind_some, K_slices_IndexFunc_api_Leg_v0d5_1]
      rfl
    · simp only [F_r25_touches, h2, Option.bind_some, K_r25_touches_1]
theorem count_same (N : Nat) (b : ApiBooks) (a f t : Int) (hl : b.Journal_.length ≤ maxLen) (hd : ∀ e ∈ b.Journal_, e.Legs_.length ≤ maxLen ∧ e.Legs_.length < N) : ∀ (m i : Nat) (n : Int), i ≤ b.Journal_.length → b.Journal_.length - i < m → ∃ r, L_limit_Env_1 N b a t f m n i = some r ∧ L_r25_count_1 N b.Journal_ a f t m n i = some r := by
  intro m
  induction m with
  | zero => intro i n _ h; omega
  | succ m ih =>
    intro i n hi hm
    rw [L_limit_Env_1, L_r25_count_1]
    by_cases h : i < b.Journal_.length
    · have w := wrap_idx h hl
      obtain ⟨g1, g2⟩ := hd _ (List.getElem_mem h)
      obtain ⟨r, k1, k2⟩ := F_touches_spec N b.Journal_[i] a g1 g2
      simp only [h, Int.ofNat_lt, decide_true, cond_true, getI_nat h, Option.bind_some, w, k1, k2]
      cases decide (f ≤ b.Journal_[i].Booked_)
      · exact ih _ _ (by omega) (by omega)
      · cases decide (b.Journal_[i].Booked_ ≤ t)
        · exact ih _ _ (by omega) (by omega)
        · cases r
          · exact ih _ _ (by omega) (by omega)
          · exact ih _ _ (by omega) (by omega)
    · simp only [h, Int.ofNat_lt, decide_false, cond_false]
      exact ⟨n, rfl, rfl⟩

/-! the values -/
def inR (y : Int) : Bool := decide (-1000000000000 ≤ y) && decide (y ≤ 1000000000000)
theorem Is_spec (N : Nat) (y : Int) : F_r13_Is N ⟨2, y⟩ = some (inR y) := by
  have e : IntKind.wrap .i64 (0 - 1000000000000) = -1000000000000 := rfl
  simp only [F_r13_Is, F_r13_within, e, inR, show decide ((2 : Int) = 1) = false by decide, show decide ((2 : Int) = 2) = true by decide, cond_true, cond_false]
  cases decide (-1000000000000 ≤ y) <;> rfl
theorem getI_cons0 {α : Type} (x : α) (l : List α) : getI (x :: l) 0 = some x := rfl
theorem vals_P (N : Nat) (v : List Int) (a4 r12 r15 : Int) (r16 : Int × Int) (hv : ([r12, r15, r16.1, a4] : List Int) = v) : ∀ (m i : Nat), i ≤ 4 → 4 - i < m → L_limit_Env_2 N a4 r12 r15 r16 m i = some (if (v.drop i).all inR then .brk () else .ret ([], 6)) := by
  have hl : v.length = 4 := by rw [← hv]; rfl
  intro m
  induction m with
  | zero => intro i _ h; omega
  | succ m ih =>
    intro i hi hm
    rw [L_limit_Env_2, hv]
    by_cases h : i < v.length
    · have w := wrap_idx h (by unfold maxLen; omega)
      have h4 : (i : Int) < 4 := by omega
      rw [List.drop_eq_getElem_cons h, List.all_cons]
      simp only [h4, decide_true, cond_true, getI_nat h, Option.bind_some, w]
      rw [ih (i + 1) (by omega) (by omega)]
      by_cases c1 : v[i] < -1000000000000
      · have e : inR v[i] = false := by simp [inR]; omega
        simp only [c1, decide_true, cond_true, e, Bool.false_and, Bool.false_eq_true, if_false]
      · by_cases c2 : 1000000000000 < v[i]
        · have e : inR v[i] = false := by simp [inR]; omega
          simp only [c1, c2, decide_true, decide_false, cond_true, cond_false, e, Bool.false_and, Bool.false_eq_true, if_false]
        · have e : inR v[i] = true := by simp [inR]; omega
          simp only [c1, c2, decide_false, cond_false, e, Bool.true_and]
    · have : i = 4 := by omega
      subst this
      rw [List.drop_eq_nil_of_le (by omega)]
      rfl
theorem vals_R (N : Nat) (v : List Int) (a4 r15 r14 : Int) (r12 : Int × Int) (hv : ([r15, r14, r12.1, a4] : List Int) = v) : ∀ (m i : Nat), i ≤ 4 → 4 - i < m → L_r25_Env_1 N a4 r12 r14 r15 m ((v.take i).map fun y => (⟨2, y⟩ : ApiValue)) i = some (if (v.drop i).all inR then .brk (v.map fun y => (⟨2, y⟩ : ApiValue)) else .ret ([], 6)) := by
  have hl : v.length = 4 := by rw [← hv]; rfl
  intro m
  induction m with
  | zero => intro i _ h; omega
  | succ m ih =>
    intro i hi hm
    rw [L_r25_Env_1, hv]
    by_cases h : i < v.length
    · have w := wrap_idx h (by unfold maxLen; omega)
      have h4 : (i : Int) < 4 := by omega
      have ea : appI 16 ((v.take i).map fun y => (⟨2, y⟩ : ApiValue)) ([(⟨2, v[i]⟩ : ApiValue)]) = some ((v.take (i + 1)).map fun y => (⟨2, y⟩ : ApiValue)) := by
        unfold appI
        rw [if_pos (by simp only [List.length_map, List.length_take, List.length_cons, List.length_nil]; omega), ← List.take_append_getElem h, List.map_append]
        rfl
      rw [List.drop_eq_getElem_cons h, List.all_cons]
      simp only [h4, decide_true, cond_true, getI_nat h, Option.bind_some, w, Is_spec, ea]
      rw [ih (i + 1) (by omega) (by omega)]
      cases inR v[i]
      · simp only [Bool.not_false, cond_true, Bool.false_and, Bool.false_eq_true, if_false]
      · simp only [Bool.not_true, cond_false, Bool.true_and]
    · have : i = 4 := by omega
      subst this
      rw [List.drop_eq_nil_of_le (by omega), List.take_of_length_le (by omega)]
      rfl
theorem beq_self_Int (x : Int) : (x == x) = true := by simp
theorem same_refl (N : Nat) (l : List ApiValue) (hN : l.length < N) (hl : l.length ≤ maxLen) : F_r13_SameValues N l l = some true := by
  have : ∀ (m i : Nat), i ≤ l.length → l.length - i < m → L_r13_SameValues_1 N l l m i = some (.brk ()) := by
    intro m
    induction m with
    | zero => intro i _ h; omega
    | succ m ih =>
      intro i hi hm
      rw [L_r13_SameValues_1]
      by_cases h : i < l.length
      · have w := wrap_idx h hl
        simp only [h, Int.ofNat_lt, decide_true, cond_true, getI_nat h, Option.bind_some, w, beq_self_Int, Bool.and_self, Bool.not_true, cond_false]
        exact ih _ (by omega) (by omega)
      · simp only [h, Int.ofNat_lt, decide_false, cond_false]
  have := this N 0 (by omega) (by omega)
  rw [show ((0 : Nat) : Int) = 0 from rfl] at this
  simp only [F_r13_SameValues, decide_true, Bool.not_true, cond_false, this, Option.bind_some, K_r13_SameValues_1]
theorem F_Active_spec (N : Nat) (b : ApiBooks) (a d : Int) (hl : b.Accounts_.length ≤ maxLen) (hN : b.Accounts_.length < N) : ∃ r, F_account_Active N b a d = some r ∧ F_r24_Active N b a d = some r ∧ (r = true → (findR b.Accounts_ a).1.Opened_ ≤ d) := by
  simp only [F_account_Active, F_r24_Active, F_account_Find_spec N b a hl hN, F_r24_Find_spec N b a hl hN, Option.bind_some]
  generalize findR b.Accounts_ a = q
  cases q.2
  · exact ⟨false, rfl, rfl, fun h => by cases h⟩
  · by_cases h1 : q.1.Opened_ ≤ d
    · simp only [h1, decide_true, cond_true]
      cases decide (q.1.Closed_ = 0)
      · exact ⟨_, rfl, rfl, fun _ => trivial⟩
      · exact ⟨_, rfl, rfl, fun _ => trivial⟩
    · simp only [h1, decide_false, cond_false, cond_true]
      exact ⟨false, rfl, rfl, fun h => by cases h⟩
theorem F_Env_spec (b : ApiBooks) (hf : Fine b) (a d n : Int) : ∃ r, F_limit_Env 300 b a d n = some r ∧ F_r25_Env 300 b a d n = some r ∧ r.1.length ≤ 7 := by
  have ha := hf.acc
  have hj := hf.jou
  have ml : (1000 : Nat) ≤ maxLen := by unfold maxLen; omega
  have hd : ∀ e ∈ b.Journal_, e.Legs_.length ≤ maxLen ∧ e.Legs_.length < 300 := fun e he => by have := hf.leg e he; omega
  obtain ⟨act, c1, c2, c3⟩ := F_Active_spec 300 b a d (by omega) (by omega)
  rw [F_limit_Env, F_r25_Env, F_account_Find_spec 300 b a (by omega) (by omega), F_r24_Find_spec 300 b a (by omega) (by omega), (valid_ok 300 d).1, (valid_ok 300 d).2, c1, c2]
  simp only [Option.bind_some]
  generalize hq : findR b.Accounts_ a = q at c3 ⊢
  by_cases q2 : q.2 = true
  · rw [q2]
    simp only [Bool.not_true, cond_false]
    by_cases hv : (decide (0 ≤ d) && decide (d ≤ 73048)) = true
    · rw [hv]
      simp only [Bool.not_true, cond_false]
      cases act
      · exact ⟨_, rfl, rfl, by simp⟩
      · simp only [Bool.not_true, cond_false]
        have ho := c3 rfl
        simp only [Bool.and_eq_true, decide_eq_true_eq] at hv
        obtain ⟨u, m1, m2, m3, m4, m5⟩ := month_ok 300 (Nat.le_refl _) d hv.1 hv.2
        rw [m1, m2]
        simp only [Option.bind_some]
        obtain ⟨l, d1, d2, d3, d4⟩ := F_Daily_spec 300 b.Journal_ a (if u < q.1.Opened_ then q.1.Opened_ else u) d (by split <;> omega) (by split <;> omega) hv.2 (by split <;> omega) (Nat.le_refl _) (by omega) (by omega) hf.small hd
        obtain ⟨w, e1, e2⟩ := F_Min_spec 300 l d3 (by omega) (by omega)
        obtain ⟨tn, t1, t2⟩ := F_Turnover_spec 300 b.Journal_ a u d (by omega) (by omega) hf.small hd
        obtain ⟨ct, k1, k2⟩ := count_same 300 b a u d (by omega) hd 300 0 0 (by omega) (by omega)
        rw [show ((0 : Nat) : Int) = 0 from rfl] at k1 k2
        have p1 := vals_P 300 [balanceOf a b.Journal_ 0, w, tn.1, n] n (balanceOf a b.Journal_ 0) w tn rfl 300 0 (by omega) (by omega)
        have p2 := vals_R 300 [balanceOf a b.Journal_ 0, w, tn.1, n] n (balanceOf a b.Journal_ 0) w tn rfl 300 0 (by omega) (by omega)
        rw [show ((0 : Nat) : Int) = 0 from rfl] at p1 p2
        rw [F_balance_Of_spec 300 _ _ hf.small, d1, d2, t1, t2, F_r21_Of_spec 300 b.Journal_ a (by omega) (by omega) hd]
        have dl : decide (0 < (l.length : Int)) = true := by simp; omega
        simp only [Option.bind_some, e1, e2, t1, dl, cond_true, k1]
        rw [List.take_zero, List.map_nil] at p2
        rw [p2]
        simp only [K_limit_Env_1, p1, Option.bind_some]
        cases ([balanceOf a b.Journal_ 0, w, tn.1, n].drop 0).all inR
        · exact ⟨_, rfl, rfl, by simp⟩
        · simp only [if_true, K_limit_Env_2, K_r25_Env_1, F_r25_count, k2, K_r25_count_1, F_limit_Env_c1, F_limit_Env_c2, Option.bind_some]
          refine ⟨_, rfl, rfl, by simp⟩
    · simp only [Bool.not_eq_true] at hv
      rw [hv]
      exact ⟨_, rfl, rfl, by simp⟩
  · simp only [Bool.not_eq_true] at q2
    rw [q2]
    exact ⟨_, rfl, rfl, by simp⟩
theorem live_ok : F_law25_live 300 = some true := by kernel_rfl
theorem law_ok (b : ApiBooks) (q : Corebanklaw25Query) : F_law25_LimitEnv 300 b q = some true := by
  obtain ⟨g, h1, h2⟩ := r25_ok b
  rw [F_law25_LimitEnv, h1, Option.bind_some]
  cases g
  · have hf := h2 rfl
    obtain ⟨r, f1, f2, f3⟩ := F_Env_spec b hf q.Id_ q.Day_ q.Amount_
    have hm : r.1.length ≤ maxLen := by unfold maxLen; omega
    simp only [f1, f2, Option.bind_some, cond_false, decide_true, cond_true, same_refl 300 r.1 (by omega) hm, live_ok]
  · simp only [cond_true, live_ok, Option.bind_some]
theorem main (b : ApiBooks) (q : Corebanklaw25Query) : Pure Tryz.prog (Gl.at 0) 3 [b.v, q.v] (.bool true) := P_law25_LimitEnv (law_ok b q)

end
end Go.TL
