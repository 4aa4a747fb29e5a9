/- The plain law: dates. -/
import Derived.Test.YthhhejockehncaaGreatDoorTlGe3
import Derived.IntWalk
set_option maxRecDepth 20000
set_option linter.all false
set_option linter.unusedVariables false
namespace Go.TL
open Go Go.Proofs
noncomputable section
/-! plain law: helpers -/
theorem getI_nat {α : Type} {l : List α} {i : Nat} (h : i < l.length) : getI l (i : Int) = some l[i] := by
  unfold getI
  rw [if_pos (by omega)]
  simp [h]
theorem wrap_idx {i n : Nat} (h : i < n) (hn : n ≤ maxLen) : IntKind.wrap .i64 ((i : Int) + 1) = ((i + 1 : Nat) : Int) := by
  rw [IntWalk.i64_in _ (by unfold maxLen at hn; omega)]
  simp

def noAccount : ApiAccount := ⟨0, 0, 0, 0, [], [], []⟩
def findR (l : List ApiAccount) (a : Int) : ApiAccount × Bool := match l.find? (fun x => decide (x.Id_ = a)) with
  | some x => (x, true)
  | none => (noAccount, false)

theorem L33_spec_spec (N : Nat) (b : ApiBooks) (a : Int) (hl : b.Accounts_.length ≤ maxLen) : ∀ (m i : Nat), i ≤ b.Accounts_.length → b.Accounts_.length - i < m →
    L_r24_Find_1 N b a m i = some (match (b.Accounts_.drop i).find? (fun x => decide (x.Id_ = a)) with | some x => .ret (x, true) | none => .brk ()) := by
  intro m
  induction m with
  | zero => intro i _ h; omega
  | succ m ih =>
    intro i hi hm
    rw [L_r24_Find_1]
    by_cases h : i < b.Accounts_.length
    · have e := wrap_idx h hl
      rw [List.drop_eq_getElem_cons h]
      simp only [h, Int.ofNat_lt, decide_true, cond_true, getI_nat h, Option.bind_some, e, List.find?_cons]
      by_cases h1 : b.Accounts_[i].Id_ = a
      · simp [h1]
      · simp only [h1, decide_false, cond_false]
        exact ih _ (by omega) (by omega)
    · have : i = b.Accounts_.length := by omega
      subst this
      simp

theorem F_r24_Find_spec (N : Nat) (b : ApiBooks) (a : Int) (hl : b.Accounts_.length ≤ maxLen) (hN : b.Accounts_.length < N) : F_r24_Find N b a = some (findR b.Accounts_ a) := by
  have := L33_spec_spec N b a hl N 0 (by omega) (by omega)
  simp only [F_r24_Find]
  rw [show ((0 : Nat) : Int) = 0 from rfl] at this
  rw [this]
  simp only [List.drop_zero, Option.bind_some, findR]
  cases b.Accounts_.find? (fun x => decide (x.Id_ = a)) <;> rfl

theorem L79_spec_spec (N : Nat) (l : List ApiAccount) (a : Int) (hl : l.length ≤ maxLen) : ∀ (m i : Nat), i ≤ l.length → l.length - i < m →
    (∃ j, ∃ hj : j < l.length, L_slices_IndexFunc_api_Account_v618_1 N l a m i = some (.ret (j : Int)) ∧ (l.drop i).find? (fun x => decide (x.Id_ = a)) = some l[j]) ∨ (L_slices_IndexFunc_api_Account_v618_1 N l a m i = some (.brk ()) ∧ (l.drop i).find? (fun x => decide (x.Id_ = a)) = none) := by
  intro m
  induction m with
  | zero => intro i _ h; omega
  | succ m ih =>
    intro i hi hm
    rw [L_slices_IndexFunc_api_Account_v618_1]
    by_cases h : i < l.length
    · have e := wrap_idx h hl
      rw [List.drop_eq_getElem_cons h]
      simp only [h, Int.ofNat_lt, decide_true, cond_true, getI_nat h, Option.bind_some, e, List.find?_cons, F_account_index_c1_vb45]
      by_cases h1 : l[i].Id_ = a
      · simp only [h1, decide_true, cond_true]
        exact .inl ⟨i, h, rfl, rfl⟩
      · simp only [h1, decide_false, cond_false]
        exact ih _ (by omega) (by omega)
    · have : i = l.length := by omega
      subst this
      simp

theorem F_account_Find_spec (N : Nat) (b : ApiBooks) (a : Int) (hl : b.Accounts_.length ≤ maxLen) (hN : b.Accounts_.length < N) : F_account_Find N b a = some (findR b.Accounts_ a) := by
  simp only [F_account_Find, F_account_index, F_slices_IndexFunc_api_Account_v618]
  have := L79_spec_spec N b.Accounts_ a hl N 0 (by omega) (by omega)
  rw [show ((0 : Nat) : Int) = 0 from rfl, List.drop_zero] at this
  rcases this with ⟨j, hj, h1, h2⟩ | ⟨h1, h2⟩
  · rw [h1]
    simp only [Option.bind_some, K_slices_IndexFunc_api_Account_v618_1, findR, h2]
    rw [show decide ((j : Int) < 0) = false by simp]
    simp only [cond_false, getI_nat hj, Option.bind_some]
  · rw [h1]
    simp only [Option.bind_some, K_slices_IndexFunc_api_Account_v618_1, findR, h2]
    rfl

/-! balance.Of -/
def negLegs (a : Int) : List ApiLeg → Int → Int
  | [], n => n
  | x :: l, n => negLegs a l (if x.Account_ = a then IntKind.wrap .i64 (n - x.Amount_) else n)
def balanceOf (a : Int) : List ApiEntry → Int → Int
  | [], n => n
  | e :: l, n => balanceOf a l (negLegs a e.Legs_ n)
theorem F_balance_Of_spec (N : Nat) (j : List ApiEntry) (a : Int) (hs : smallJ j = true) : F_balance_Of N j a = some (balanceOf a j 0) := by
  unfold F_balance_Of
  rw [if_pos hs]
  congr 1
  clear hs
  generalize (0 : Int) = n
  induction j generalizing n with
  | nil => rfl
  | cons e j ih =>
    rw [balanceOf, ← ih, moves, List.flatMap_cons, List.foldl_append]
    congr 1
    generalize e.Legs_ = l
    induction l generalizing n with
    | nil => rfl
    | cons x l ihl =>
      rw [negLegs]
      by_cases h : x.Account_ = a
      · rw [List.filter_cons_of_pos (by simpa using h), if_pos h, List.map_cons, List.foldl_cons]
        exact ihl _
      · rw [List.filter_cons_of_neg (by simpa using h), if_neg h]
        exact ihl _
theorem negLegs_wrap (a : Int) (l : List ApiLeg) : ∀ n : Int, negLegs a l (IntKind.wrap .i64 n) = IntKind.wrap .i64 (n + negLegs a l 0) := by
  induction l with
  | nil => intro n; simp [negLegs]
  | cons x l ih =>
    intro n
    by_cases h : x.Account_ = a
    · simp only [negLegs, h, if_true]
      have e : IntKind.wrap .i64 (IntKind.wrap .i64 n - x.Amount_) = IntKind.wrap .i64 (n - x.Amount_) := by
        simp only [IntWalk.i64_left, RowKit.wrap64]
        omega
      rw [e, ih, ih]
      simp only [IntWalk.i64_left, RowKit.wrap64]
      omega
    · simp only [negLegs, h, if_false]
      exact ih n
theorem L63_spec_spec (N : Nat) (a : Int) (e : ApiEntry) (hl : e.Legs_.length ≤ maxLen) : ∀ (m i : Nat) (n : Int), i ≤ e.Legs_.length → e.Legs_.length - i < m → L_r21_moved_1 N e a m n i = some (negLegs a (e.Legs_.drop i) n) := by
  intro m
  induction m with
  | zero => intro i n _ h; omega
  | succ m ih =>
    intro i n hi hm
    rw [L_r21_moved_1]
    by_cases h : i < e.Legs_.length
    · have w := wrap_idx h hl
      rw [List.drop_eq_getElem_cons h]
      simp only [h, Int.ofNat_lt, decide_true, cond_true, getI_nat h, Option.bind_some, negLegs, w]
      by_cases h1 : e.Legs_[i].Account_ = a <;> simp only [h1, decide_true, decide_false, cond_true, cond_false, if_true, if_false] <;> exact ih _ _ (by omega) (by omega)
    · have : i = e.Legs_.length := by omega
      subst this
      simp [negLegs]
theorem F_r21_moved_spec (N : Nat) (e : ApiEntry) (a : Int) (hl : e.Legs_.length ≤ maxLen) (hN : e.Legs_.length < N) : F_r21_moved N e a = some (negLegs a e.Legs_ 0) := by
  have := L63_spec_spec N a e hl N 0 0 (by omega) (by omega)
  rw [show ((0 : Nat) : Int) = 0 from rfl] at this
  simp [F_r21_moved, this, K_r21_moved_1]
theorem L40_spec_spec (N : Nat) (l : List ApiEntry) (a : Int) (hl : l.length ≤ maxLen) (hd : ∀ e ∈ l, e.Legs_.length ≤ maxLen ∧ e.Legs_.length < N) : ∀ (m i : Nat) (n : Int), i ≤ l.length → l.length - i < m → L_r21_Of_1 N l a m (IntKind.wrap .i64 n) i = some (balanceOf a (l.drop i) (IntKind.wrap .i64 n)) := by
  intro m
  induction m with
  | zero => intro i n _ h; omega
  | succ m ih =>
    intro i n hi hm
    rw [L_r21_Of_1]
    by_cases h : i < l.length
    · have w := wrap_idx h hl
      obtain ⟨g1, g2⟩ := hd _ (List.getElem_mem h)
      have e : IntKind.wrap .i64 (IntKind.wrap .i64 n + negLegs a l[i].Legs_ 0) = IntKind.wrap .i64 (n + negLegs a l[i].Legs_ 0) := by
        simp only [IntWalk.i64_left, RowKit.wrap64]
        omega
      rw [List.drop_eq_getElem_cons h]
      simp only [h, Int.ofNat_lt, decide_true, cond_true, getI_nat h, Option.bind_some, balanceOf, w, F_r21_moved_spec N l[i] a g1 g2, e, negLegs_wrap]
      exact ih _ _ (by omega) (by omega)
    · have : i = l.length := by omega
      subst this
      simp [balanceOf]
theorem F_r21_Of_spec (N : Nat) (l : List ApiEntry) (a : Int) (hl : l.length ≤ maxLen) (hN : l.length < N) (hd : ∀ e ∈ l, e.Legs_.length ≤ maxLen ∧ e.Legs_.length < N) : F_r21_Of N l a = some (balanceOf a l 0) := by
  have := L40_spec_spec N l a hl hd N 0 0 (by omega) (by omega)
  rw [show ((0 : Nat) : Int) = 0 from rfl, show IntKind.wrap .i64 0 = 0 from rfl] at this
  simp [F_r21_Of, this, K_r21_Of_1]


/-! the bounds -/
theorem count_ok : ∀ (N m : Nat) (e : ApiExpr), m + 1 < N → m ≤ 1000 → ∃ r : Nat, F_r10_count N e (m : Int) = some (r : Int) ∧ 1 ≤ r ∧ r ≤ m + 1 := by
  intro N
  induction N with
  | zero => intro m e h; omega
  | succ N ih =>
    intro m e h hm
    have key : ∀ (k n i : Nat), 1 ≤ n → n ≤ m + 1 → m + 2 - n ≤ k → i < n → ∃ r : Nat, L_r10_count_1 N e (m : Int) (F_r10_count N) k (n : Int) (i : Int) = some (r : Int) ∧ n ≤ r ∧ r ≤ m + 1 := by
      intro k
      induction k with
      | zero => intro n i h1 h2 h3; omega
      | succ k ihk =>
        intro n i h1 h2 h3 h4
        rw [L_r10_count_1]
        by_cases hl : i < e.Args_.length
        · by_cases hn : n ≤ m
          · obtain ⟨r, e1, e2, e3⟩ := ih (m - n) e.Args_[i] (by omega) (by omega)
            have w1 : IntKind.wrap .i64 ((m : Int) - (n : Int)) = ((m - n : Nat) : Int) := by rw [IntWalk.i64_in _ (by omega)]; omega
            have w2 : IntKind.wrap .i64 ((n : Int) + (r : Int)) = ((n + r : Nat) : Int) := by rw [IntWalk.i64_in _ (by omega)]; omega
            have w3 : IntKind.wrap .i64 ((i : Int) + 1) = ((i + 1 : Nat) : Int) := by rw [IntWalk.i64_in _ (by omega)]; omega
            simp only [hl, hn, Int.ofNat_lt, Int.ofNat_le, decide_true, cond_true, getI_nat hl, Option.bind_some, w1, e1, w2, w3]
            obtain ⟨r', f1, f2, f3⟩ := ihk (n + r) (i + 1) (by omega) (by omega) (by omega) (by omega)
            exact ⟨r', f1, by omega, f3⟩
          · simp only [hl, hn, Int.ofNat_lt, Int.ofNat_le, decide_true, decide_false, cond_true, cond_false]
            exact ⟨n, rfl, by omega, h2⟩
        · simp only [hl, Int.ofNat_lt, decide_false, cond_false]
          exact ⟨n, rfl, by omega, h2⟩
    obtain ⟨r, e1, e2, e3⟩ := key N 1 0 (by omega) (by omega) (by omega) (by omega)
    refine ⟨r, ?_, e2, e3⟩
    rw [F_r10_count]
    have e1' : L_r10_count_1 N e (m : Int) (F_r10_count N) N 1 0 = some (r : Int) := e1
    rw [e1']
    rfl
theorem r10_ok (e : ApiExpr) : ∃ r, F_r10_Great 300 e 100 = some r := by
  obtain ⟨r, h, -⟩ := count_ok 300 100 e (by omega) (by omega)
  have h' : F_r10_count 300 e 100 = some (r : Int) := h
  exact ⟨_, by simp only [F_r10_Great, h', Option.bind_some]; rfl⟩
/-- 'if c then true else X' is known. -/
theorem orK {b : Bool} {X : Option Bool} {A : Prop} (h : b = false → ∃ g, X = some g ∧ (g = false → A)) : ∃ g, (bif b then some true else X) = some g ∧ (g = false → b = false ∧ A) := by
  cases b
  · obtain ⟨g, h1, h2⟩ := h rfl
    exact ⟨g, h1, fun hg => ⟨rfl, h2 hg⟩⟩
  · exact ⟨true, rfl, fun hg => by cases hg⟩
theorem orT {b : Bool} {X : Option Bool} (h : b = false → ∃ g, X = some g) : ∃ g, (bif b then some true else X) = some g := by
  cases b
  · exact h rfl
  · exact ⟨true, rfl⟩
theorem ofF {p : Prop} [Decidable p] (h : decide p = false) : ¬ p := of_decide_eq_false h
theorem L_r16_1 (p : ApiProduct) (hl : p.Fees_.length ≤ 10) : ∀ (m i : Nat), i ≤ p.Fees_.length → p.Fees_.length - i < m → ∃ r, L_r16_Great_1 300 p m i = some r := by
  intro m
  induction m with
  | zero => intro i _ h; omega
  | succ m ih =>
    intro i hi hm
    rw [L_r16_Great_1]
    by_cases h : i < p.Fees_.length
    · have w := wrap_idx h (by unfold maxLen; omega)
      obtain ⟨r1, g1⟩ := r10_ok p.Fees_[i].When_
      obtain ⟨r2, g2⟩ := r10_ok p.Fees_[i].Amount_
      simp only [h, Int.ofNat_lt, decide_true, cond_true, getI_nat h, Option.bind_some, w, g1, g2]
      cases decide (100 < (p.Fees_[i].Name_.length : Int))
      · cases r1
        · cases r2
          · exact ih _ (by omega) (by omega)
          · exact ⟨_, rfl⟩
        · exact ⟨_, rfl⟩
      · exact ⟨_, rfl⟩
    · simp only [h, Int.ofNat_lt, decide_false, cond_false]
      exact ⟨_, rfl⟩
theorem L_r16_2 (p : ApiProduct) (hl : p.Rules_.length ≤ 10) : ∀ (m i : Nat), i ≤ p.Rules_.length → p.Rules_.length - i < m → ∃ r, L_r16_Great_2 300 p m i = some r := by
  intro m
  induction m with
  | zero => intro i _ h; omega
  | succ m ih =>
    intro i hi hm
    rw [L_r16_Great_2]
    by_cases h : i < p.Rules_.length
    · have w := wrap_idx h (by unfold maxLen; omega)
      obtain ⟨r2, g2⟩ := r10_ok p.Rules_[i].Amount_
      simp only [h, Int.ofNat_lt, decide_true, cond_true, getI_nat h, Option.bind_some, w, g2]
      cases decide (100 < (p.Rules_[i].Name_.length : Int))
      · cases r2
        · exact ih _ (by omega) (by omega)
        · exact ⟨_, rfl⟩
      · exact ⟨_, rfl⟩
    · simp only [h, Int.ofNat_lt, decide_false, cond_false]
      exact ⟨_, rfl⟩
theorem r16_ok (p : ApiProduct) : ∃ r, F_r16_Great 300 p = some r := by
  unfold F_r16_Great
  refine orT fun _ => orT fun _ => orT fun _ => orT fun _ => orT fun _ => orT fun h6 => orT fun h7 => ?_
  have h6 := ofF h6
  have h7 := ofF h7
  obtain ⟨r1, g1⟩ := L_r16_1 p (by omega) 300 0 (by omega) (by omega)
  obtain ⟨r2, g2⟩ := L_r16_2 p (by omega) 300 0 (by omega) (by omega)
  rw [show ((0 : Nat) : Int) = 0 from rfl] at g1 g2
  rw [g1]
  cases r1
  · exact ⟨_, rfl⟩
  · simp only [Option.bind_some, K_r16_Great_1, g2]
    cases r2 <;> exact ⟨_, rfl⟩
theorem L_r22_1 (l : List ApiHold) (hl : l.length ≤ 100) : ∀ (m i : Nat), i ≤ l.length → l.length - i < m → ∃ r, L_r22_Great_1 300 l m i = some r := by
  intro m
  induction m with
  | zero => intro i _ h; omega
  | succ m ih =>
    intro i hi hm
    rw [L_r22_Great_1]
    by_cases h : i < l.length
    · have w := wrap_idx h (by unfold maxLen; omega)
      simp only [h, Int.ofNat_lt, decide_true, cond_true, getI_nat h, Option.bind_some, w]
      cases decide (200 < (l[i].Key_.length : Int))
      · exact ih _ (by omega) (by omega)
      · exact ⟨_, rfl⟩
    · simp only [h, Int.ofNat_lt, decide_false, cond_false]
      exact ⟨_, rfl⟩
theorem r22_ok (l : List ApiHold) : ∃ g, F_r22_Great 300 l = some g ∧ (g = false → l.length ≤ 100) := by
  have : ∃ g, F_r22_Great 300 l = some g ∧ (g = false → decide (100 < (l.length : Int)) = false ∧ True) := by
    unfold F_r22_Great
    refine orK fun h => ?_
    have hl : l.length ≤ 100 := by have := ofF h; omega
    obtain ⟨r, g⟩ := L_r22_1 l hl 300 0 (by omega) (by omega)
    rw [show ((0 : Nat) : Int) = 0 from rfl] at g
    rw [g]
    cases r <;> exact ⟨_, rfl, fun _ => trivial⟩
  obtain ⟨g, h1, h2⟩ := this
  exact ⟨g, h1, fun hg => by have := ofF (h2 hg).1; omega⟩
theorem L_r19_1 (e : ApiEntry) (hl : e.Legs_.length ≤ 30) : ∀ (m i : Nat), i ≤ e.Legs_.length → e.Legs_.length - i < m → ∃ r, L_r19_Great_1 300 e m i = some r := by
  intro m
  induction m with
  | zero => intro i _ h; omega
  | succ m ih =>
    intro i hi hm
    rw [L_r19_Great_1]
    by_cases h : i < e.Legs_.length
    · have w := wrap_idx h (by unfold maxLen; omega)
      simp only [h, Int.ofNat_lt, decide_true, cond_true, getI_nat h, Option.bind_some, w]
      cases decide (100 < (e.Legs_[i].Currency_.length : Int))
      · exact ih _ (by omega) (by omega)
      · exact ⟨_, rfl⟩
    · simp only [h, Int.ofNat_lt, decide_false, cond_false]
      exact ⟨_, rfl⟩
theorem r19_ok (e : ApiEntry) : ∃ g, F_r19_Great 300 e = some g ∧ (g = false → e.Legs_.length ≤ 30) := by
  have : ∃ g, F_r19_Great 300 e = some g ∧ (g = false → decide (30 < (e.Legs_.length : Int)) = false ∧ decide (1000 < (e.Key_.length : Int)) = false ∧ decide (1000 < (e.Text_.length : Int)) = false ∧ True) := by
    unfold F_r19_Great
    refine orK fun h => orK fun _ => orK fun _ => ?_
    have hl : e.Legs_.length ≤ 30 := by have := ofF h; omega
    obtain ⟨r, g⟩ := L_r19_1 e hl 300 0 (by omega) (by omega)
    rw [show ((0 : Nat) : Int) = 0 from rfl] at g
    rw [g]
    cases r <;> exact ⟨_, rfl, fun _ => trivial⟩
  obtain ⟨g, h1, h2⟩ := this
  exact ⟨g, h1, fun hg => by have := ofF (h2 hg).1; omega⟩
theorem L_r25_1 (b : ApiBooks) (hl : b.Products_.length ≤ 20) : ∀ (m i : Nat), i ≤ b.Products_.length → b.Products_.length - i < m → ∃ r, L_r25_Great_1 300 b m i = some r ∧ (r = .ret true ∨ r = .brk ()) := by
  intro m
  induction m with
  | zero => intro i _ h; omega
  | succ m ih =>
    intro i hi hm
    rw [L_r25_Great_1]
    by_cases h : i < b.Products_.length
    · have w := wrap_idx h (by unfold maxLen; omega)
      obtain ⟨r, g⟩ := r16_ok b.Products_[i]
      simp only [h, Int.ofNat_lt, decide_true, cond_true, getI_nat h, Option.bind_some, w, g]
      cases r
      · exact ih _ (by omega) (by omega)
      · exact ⟨_, rfl, .inl rfl⟩
    · simp only [h, Int.ofNat_lt, decide_false, cond_false]
      exact ⟨_, rfl, .inr rfl⟩
theorem L_r25_2 (b : ApiBooks) (hl : b.Journal_.length ≤ 150) : ∀ (m i : Nat), i ≤ b.Journal_.length → b.Journal_.length - i < m → ∃ r, L_r25_Great_2 300 b m i = some r ∧ (r = .ret true ∨ r = .brk () ∧ ∀ e ∈ b.Journal_.drop i, e.Legs_.length ≤ 30) := by
  intro m
  induction m with
  | zero => intro i _ h; omega
  | succ m ih =>
    intro i hi hm
    rw [L_r25_Great_2]
    by_cases h : i < b.Journal_.length
    · have w := wrap_idx h (by unfold maxLen; omega)
      obtain ⟨r, g, gl⟩ := r19_ok b.Journal_[i]
      simp only [h, Int.ofNat_lt, decide_true, cond_true, getI_nat h, Option.bind_some, w, g]
      cases r
      · obtain ⟨r, g1, g2⟩ := ih (i + 1) (by omega) (by omega)
        refine ⟨r, g1, g2.imp id ?_⟩
        rintro ⟨e, ha⟩
        refine ⟨e, fun x hx => ?_⟩
        rw [List.drop_eq_getElem_cons h] at hx
        rcases List.mem_cons.1 hx with rfl | hx
        · exact gl rfl
        · exact ha x hx
      · exact ⟨_, rfl, .inl rfl⟩
    · simp only [h, Int.ofNat_lt, decide_false, cond_false]
      refine ⟨_, rfl, .inr ⟨rfl, fun x hx => ?_⟩⟩
      rw [List.drop_eq_nil_of_le (by omega)] at hx
      cases hx
theorem L_r25_3 (b : ApiBooks) (hl : b.Calendars_.length ≤ 10) : ∀ (m i : Nat), i ≤ b.Calendars_.length → b.Calendars_.length - i < m → ∃ r, L_r25_Great_3 300 b m i = some r := by
  intro m
  induction m with
  | zero => intro i _ h; omega
  | succ m ih =>
    intro i hi hm
    rw [L_r25_Great_3]
    by_cases h : i < b.Calendars_.length
    · have w := wrap_idx h (by unfold maxLen; omega)
      simp only [h, Int.ofNat_lt, decide_true, cond_true, getI_nat h, Option.bind_some, w]
      cases decide (400 < (b.Calendars_[i].Holidays_.length : Int))
      · cases decide (20 < (b.Calendars_[i].Weekend_.length : Int))
        · exact ih _ (by omega) (by omega)
        · exact ⟨_, rfl⟩
      · exact ⟨_, rfl⟩
    · simp only [h, Int.ofNat_lt, decide_false, cond_false]
      exact ⟨_, rfl⟩
/-- Books that are not great. -/
structure Fine (b : ApiBooks) : Prop where
  acc : b.Accounts_.length ≤ 40
  pro : b.Products_.length ≤ 20
  jou : b.Journal_.length ≤ 150
  hol : b.Holds_.length ≤ 100
  blo : b.Blocks_.length ≤ 100
  leg : ∀ e ∈ b.Journal_, e.Legs_.length ≤ 30
theorem r25_ok (b : ApiBooks) : ∃ g, F_r25_Great 300 b = some g ∧ (g = false → Fine b) := by
  have : ∃ g, F_r25_Great 300 b = some g ∧ (g = false → decide (20 < (b.Currencies_.length : Int)) = false ∧ decide (10 < (b.Calendars_.length : Int)) = false ∧ decide (60 < (b.Chart_.length : Int)) = false ∧ decide (20 < (b.Products_.length : Int)) = false ∧ decide (40 < (b.Accounts_.length : Int)) = false ∧
      decide (150 < (b.Journal_.length : Int)) = false ∧ b.Holds_.length ≤ 100 ∧ decide (100 < (b.Blocks_.length : Int)) = false ∧ ∀ e ∈ b.Journal_, e.Legs_.length ≤ 30) := by
    unfold F_r25_Great
    refine orK fun _ => orK fun hc => orK fun _ => orK fun hp => orK fun _ => orK fun hj => ?_
    have hc := ofF hc
    have hp := ofF hp
    have hj := ofF hj
    obtain ⟨gh, h1, h2⟩ := r22_ok b.Holds_
    rw [h1, Option.bind_some]
    obtain ⟨r1, g1, g1'⟩ := L_r25_1 b (by omega) 300 0 (by omega) (by omega)
    obtain ⟨r2, g2, g2'⟩ := L_r25_2 b (by omega) 300 0 (by omega) (by omega)
    obtain ⟨r3, g3⟩ := L_r25_3 b (by omega) 300 0 (by omega) (by omega)
    rw [show ((0 : Nat) : Int) = 0 from rfl] at g1 g2 g3
    have hrest : ∃ g, (L_r25_Great_1 300 b 300 0).bind (K_r25_Great_1 300 b) = some g ∧ (g = false → ∀ e ∈ b.Journal_, e.Legs_.length ≤ 30) := by
      rw [g1]
      rcases g1' with rfl | rfl
      · exact ⟨_, rfl, fun h => by cases h⟩
      · simp only [Option.bind_some, K_r25_Great_1, g2]
        rcases g2' with rfl | ⟨rfl, hx⟩
        · exact ⟨_, rfl, fun h => by cases h⟩
        · simp only [Option.bind_some, K_r25_Great_2, g3]
          cases r3 <;> exact ⟨_, rfl, fun _ => hx⟩
    obtain ⟨g, e1, e2⟩ := orK (b := gh) (fun _ => orK (b := decide (100 < (b.Blocks_.length : Int))) fun _ => hrest)
    exact ⟨g, e1, fun hg => by obtain ⟨a, b, c⟩ := e2 hg; exact ⟨h2 a, b, c⟩⟩
  obtain ⟨g, h1, h2⟩ := this
  refine ⟨g, h1, fun hg => ?_⟩
  obtain ⟨-, -, -, a, c, d, e, f, k⟩ := h2 hg
  have a := ofF a
  have c := ofF c
  have d := ofF d
  have f := ofF f
  exact ⟨by omega, by omega, by omega, e, by omega, k⟩
theorem Fine.small {b : ApiBooks} (h : Fine b) : smallJ b.Journal_ = true := by
  have := h.jou
  simp only [smallJ, Bool.and_eq_true, decide_eq_true_eq, List.all_eq_true]
  exact ⟨by omega, fun e he => by have := h.leg e he; omega⟩

end
end Go.TL
