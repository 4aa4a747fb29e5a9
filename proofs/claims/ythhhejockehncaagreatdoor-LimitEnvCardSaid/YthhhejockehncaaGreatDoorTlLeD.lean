/- The plain law: dates. -/
import Derived.Test.YthhhejockehncaaGreatDoorTlLeA
import Derived.IntWalk
set_option maxRecDepth 20000
set_option linter.all false
set_option linter.unusedVariables false
namespace Go.TL
open Go Go.Proofs
noncomputable section

/-! the first day of a month -/
def lp (y : Int) : Bool := decide (y % 4 = 0) && (!decide (y % 100 = 0) || decide (y % 400 = 0))
def yl (y : Int) : Int := if lp y then 366 else 365
def bg (y : Int) : Int := 365 * (y - 2000) + (y - 2000 + 3) / 4 - (if 2100 < y then 1 else 0)
def ln (y : Int) : Nat → Int
  | 1 | 3 | 5 | 7 | 8 | 10 | 12 => 31
  | 4 | 6 | 9 | 11 => 30
  | 2 => if lp y then 29 else 28
  | _ => 0
def cum (y : Int) : Nat → Int
  | 0 => 0
  | m + 1 => cum y m + ln y m
theorem w64 {n : Int} (h : -9223372036854775808 ≤ n ∧ n ≤ 9223372036854775807) : IntKind.wrap .i64 n = n := IntWalk.i64_in _ (by omega)
theorem lp_iff (y : Int) : lp y = true ↔ y % 4 = 0 ∧ (¬ y % 100 = 0 ∨ y % 400 = 0) := by
  simp [lp]
theorem bg_succ (y : Int) (h1 : 2000 ≤ y) (h2 : y ≤ 2199) : bg (y + 1) = bg y + yl y := by
  have hl := lp_iff y
  unfold bg yl
  by_cases h : lp y = true
  · have h' := hl.1 h
    rw [if_pos h]
    by_cases a : 2100 < y <;> by_cases b : 2100 < y + 1 <;> simp only [a, b, if_true, if_false] <;> omega
  · have h' : ¬ (y % 4 = 0 ∧ (¬ y % 100 = 0 ∨ y % 400 = 0)) := fun x => h (hl.2 x)
    rw [if_neg h]
    by_cases a : 2100 < y <;> by_cases b : 2100 < y + 1 <;> simp only [a, b, if_true, if_false] <;> omega
theorem bg_mono (y : Int) (h1 : 2000 ≤ y) (h2 : y ≤ 2200) : 0 ≤ bg y ∧ bg y ≤ 73049 := by
  unfold bg
  by_cases a : 2100 < y <;> simp only [a, if_true, if_false] <;> omega
theorem yl_pos (y : Int) : 365 ≤ yl y ∧ yl y ≤ 366 := by
  unfold yl
  split <;> omega
theorem tmodp {a b : Int} (h : 0 ≤ a) : Int.tmod a b = a % b := Int.tmod_eq_emod_of_nonneg h
theorem leap_ok (N : Nat) (y : Int) (h : 0 ≤ y) : F_date_Leap N y = some (lp y) ∧ F_r04_Leap N y = some (lp y) := by
  constructor
  · simp only [F_date_Leap, tmodp h, lp]
    cases decide (y % 4 = 0) <;> cases decide (y % 100 = 0) <;> rfl
  · simp only [F_r04_Leap, tmodp h, lp]
    cases decide (y % 4 = 0) <;> cases decide (y % 100 = 0) <;> rfl
theorem yl_ok (N : Nat) (y : Int) (h : 0 ≤ y) : F_r04_yearLength N y = some (yl y) := by
  simp only [F_r04_yearLength, (leap_ok N y h).2, Option.bind_some, yl]
  cases lp y <;> rfl
theorem begin_ok (N : Nat) (y : Int) (h1 : 2000 ≤ y) (h2 : y ≤ 2200) : F_date_begin N y = some (bg y) := by
  have e1 : IntKind.wrap .i64 (y - 2000) = y - 2000 := w64 (by omega)
  have e2 : IntKind.wrap .i64 (y - 2000 + 3) = y - 2000 + 3 := w64 (by omega)
  have e3 : Int.tdiv (y - 2000 + 3) 4 = (y - 2000 + 3) / 4 := Int.tdiv_eq_ediv_of_nonneg (by omega)
  have e4 : IntKind.wrap .i64 ((y - 2000 + 3) / 4) = (y - 2000 + 3) / 4 := w64 (by omega)
  have e5 : IntKind.wrap .i64 (365 * (y - 2000)) = 365 * (y - 2000) := w64 (by omega)
  have e6 : IntKind.wrap .i64 ((y - 2000 + 3) / 4 - 1) = (y - 2000 + 3) / 4 - 1 := w64 (by omega)
  have e7 : IntKind.wrap .i64 (365 * (y - 2000) + ((y - 2000 + 3) / 4 - 1)) = 365 * (y - 2000) + ((y - 2000 + 3) / 4 - 1) := w64 (by omega)
  have e8 : IntKind.wrap .i64 (365 * (y - 2000) + (y - 2000 + 3) / 4) = 365 * (y - 2000) + (y - 2000 + 3) / 4 := w64 (by omega)
  simp only [F_date_begin, e1, e2, e3, e4, e5, e6, e7, e8, bg]
  by_cases a : 2100 < y
  · simp only [a, decide_true, cond_true, if_true]
    congr 1
    omega
  · simp only [a, decide_false, cond_false, if_false]
    congr 1
    omega
theorem ln_ok (N : Nat) (y : Int) (m : Nat) (h : 0 ≤ y) (h1 : 1 ≤ m) (h2 : m ≤ 12) : F_date_length N y (m : Int) = some (ln y m) ∧ F_r04_Length N y (m : Int) = some (ln y m) := by
  have hl := leap_ok N y h
  have hm : m = 1 ∨ m = 2 ∨ m = 3 ∨ m = 4 ∨ m = 5 ∨ m = 6 ∨ m = 7 ∨ m = 8 ∨ m = 9 ∨ m = 10 ∨ m = 11 ∨ m = 12 := by omega
  rcases hm with rfl | rfl | rfl | rfl | rfl | rfl | rfl | rfl | rfl | rfl | rfl | rfl <;>
    first
    | exact ⟨rfl, rfl⟩
    | (constructor
       · show (F_date_Leap N y).bind _ = _
         rw [hl.1]
         simp only [Option.bind_some, ln]
         cases lp y <;> rfl
       · show (F_r04_Leap N y).bind _ = _
         rw [hl.2]
         simp only [Option.bind_some, ln]
         cases lp y <;> rfl)
theorem ln_pos (y : Int) (m : Nat) (h1 : 1 ≤ m) (h2 : m ≤ 12) : 28 ≤ ln y m ∧ ln y m ≤ 31 := by
  have hm : m = 1 ∨ m = 2 ∨ m = 3 ∨ m = 4 ∨ m = 5 ∨ m = 6 ∨ m = 7 ∨ m = 8 ∨ m = 9 ∨ m = 10 ∨ m = 11 ∨ m = 12 := by omega
  rcases hm with rfl | rfl | rfl | rfl | rfl | rfl | rfl | rfl | rfl | rfl | rfl | rfl <;> simp only [ln] <;> first | omega | (split <;> omega)
theorem cum_13 (y : Int) : cum y 13 = yl y := by
  simp only [cum, ln, yl]
  split <;> omega
theorem cum_mono (y : Int) (m k : Nat) (h : m ≤ k) (hk : k ≤ 13) : cum y m ≤ cum y k := by
  induction k with
  | zero => have : m = 0 := by omega
            subst this; exact Int.le_refl _
  | succ k ih =>
    by_cases e : m = k + 1
    · subst e; exact Int.le_refl _
    · have := ih (by omega) (by omega)
      rw [cum]
      by_cases h0 : k = 0
      · subst h0; simp only [ln]; omega
      · have := ln_pos y k (by omega) (by omega); omega
/-- Both years' loops. -/
theorem years (N : Nat) (day : Int) (h0 : 0 ≤ day) (h9 : day ≤ 73048) : ∀ (k : Nat) (y : Int), 2000 ≤ y → y ≤ 2199 → 2200 - y ≤ k → bg y ≤ day → ∃ Y, 2000 ≤ Y ∧ Y ≤ 2199 ∧ bg Y ≤ day ∧ day < bg (Y + 1) ∧ L_date_Civil_1 N day k y = some Y := by
  intro k
  induction k with
  | zero => intro y h1 h2 h3; omega
  | succ k ih =>
    intro y h1 h2 h3 h4
    have e : IntKind.wrap .i64 (y + 1) = y + 1 := w64 (by omega)
    rw [L_date_Civil_1, e, begin_ok N (y + 1) (by omega) (by omega), Option.bind_some]
    by_cases hc : bg (y + 1) ≤ day
    · have h2' : y + 1 ≤ 2199 := by
        by_cases h : y + 1 ≤ 2199
        · exact h
        · have : y = 2199 := by omega
          subst this
          have : bg (2199 + 1) = 73049 := by decide
          omega
      simp only [hc, decide_true, cond_true]
      exact ih (y + 1) (by omega) h2' (by omega) hc
    · simp only [hc, decide_false, cond_false]
      exact ⟨y, h1, h2, h4, by omega, rfl⟩
theorem years' (N : Nat) (day : Int) (h0 : 0 ≤ day) (h9 : day ≤ 73048) : ∀ (k : Nat) (y : Int), 2000 ≤ y → y ≤ 2199 → 2200 - y ≤ k → bg y ≤ day → ∃ Y, 2000 ≤ Y ∧ Y ≤ 2199 ∧ bg Y ≤ day ∧ day < bg (Y + 1) ∧ L_r04_Civil_1 N k (day - bg y) y = some (day - bg Y, Y) := by
  intro k
  induction k with
  | zero => intro y h1 h2 h3; omega
  | succ k ih =>
    intro y h1 h2 h3 h4
    have e : IntKind.wrap .i64 (y + 1) = y + 1 := w64 (by omega)
    have hy := yl_pos y
    have hb := bg_mono y h1 (by omega)
    have e2 : IntKind.wrap .i64 (day - bg y - yl y) = day - bg (y + 1) := by rw [bg_succ y h1 h2, w64 (by omega)]; omega
    rw [L_r04_Civil_1, yl_ok N y (by omega), Option.bind_some, e]
    simp only [Option.bind_some, e2]
    have hs := bg_succ y h1 h2
    by_cases hc : yl y ≤ day - bg y
    · have hc' : bg (y + 1) ≤ day := by omega
      have h2' : y + 1 ≤ 2199 := by
        by_cases h : y + 1 ≤ 2199
        · exact h
        · have : y = 2199 := by omega
          subst this
          have : bg (2199 + 1) = 73049 := by decide
          omega
      simp only [hc, decide_true, cond_true]
      exact ih (y + 1) (by omega) h2' (by omega) hc'
    · simp only [hc, decide_false, cond_false]
      exact ⟨y, h1, h2, h4, by omega, rfl⟩
theorem bg_lt {a b : Int} (ha : 2000 ≤ a) (hb : b ≤ 2200) (h : a ≤ b) : bg a ≤ bg b := by
  unfold bg
  by_cases x : 2100 < a <;> by_cases y : 2100 < b <;> simp only [x, y, if_true, if_false] <;> omega
theorem one_year {day Y Z : Int} (h1 : 2000 ≤ Y) (h2 : Y ≤ 2199) (h3 : bg Y ≤ day) (h4 : day < bg (Y + 1)) (k1 : 2000 ≤ Z) (k2 : Z ≤ 2199) (k3 : bg Z ≤ day) (k4 : day < bg (Z + 1)) : Y = Z := by
  rcases Int.lt_trichotomy Y Z with h | h | h
  · have := bg_lt (a := Y + 1) (b := Z) (by omega) (by omega) (by omega); omega
  · exact h
  · have := bg_lt (a := Z + 1) (b := Y) (by omega) (by omega) (by omega); omega
/-- Both months' loops. -/
theorem months (N : Nat) (Y : Int) (hY : 2000 ≤ Y) : ∀ (k m : Nat) (d : Int), 1 ≤ m → m ≤ 12 → 13 - m ≤ k → 0 ≤ d → d + cum Y m < yl Y → ∃ (M : Nat) (e : Int), m ≤ M ∧ M ≤ 12 ∧ 0 ≤ e ∧ e ≤ 30 ∧ e + cum Y M = d + cum Y m ∧ L_date_Civil_2 N Y k d (m : Int) = some (e, (M : Int)) ∧ L_r04_Civil_2 N Y k d (m : Int) = some (e, (M : Int)) := by
  intro k
  induction k with
  | zero => intro m d h1 h2 h3; omega
  | succ k ih =>
    intro m d h1 h2 h3 h4 h5
    obtain ⟨l1, l2⟩ := ln_ok N Y m (by omega) h1 h2
    have hp := ln_pos Y m h1 h2
    have hy := yl_pos Y
    have c0 := cum_mono Y 0 m (by omega) (by omega)
    have e1 : IntKind.wrap .i64 ((m : Int) + 1) = ((m + 1 : Nat) : Int) := by rw [w64 (by omega)]; omega
    have e2 : IntKind.wrap .i64 (d - ln Y m) = d - ln Y m := w64 (by simp only [cum] at c0; omega)
    rw [L_date_Civil_2, L_r04_Civil_2, l1, l2]
    simp only [Option.bind_some, e1, e2]
    by_cases hc : ln Y m ≤ d
    · simp only [hc, decide_true, cond_true]
      have hcm : cum Y (m + 1) = cum Y m + ln Y m := rfl
      have hm12 : m + 1 ≤ 12 := by
        by_cases h : m + 1 ≤ 12
        · exact h
        · have : m = 12 := by omega
          subst this
          have : cum Y (12 + 1) = yl Y := cum_13 Y
          omega
      obtain ⟨M, e, g1, g2, g3, g30, g4, g5, g6⟩ := ih (m + 1) (d - ln Y m) (by omega) hm12 (by omega) (by omega) (by omega)
      exact ⟨M, e, by omega, g2, g3, g30, by omega, g5, g6⟩
    · simp only [hc, decide_false, cond_false]
      exact ⟨m, d, Nat.le_refl _, h2, h4, by omega, rfl, rfl, rfl⟩
theorem dayloop (N : Nat) (Y : Int) (hY : 2000 ≤ Y) (M : Nat) (hM : M ≤ 12) : ∀ (k m : Nat) (n : Int), 1 ≤ m → m ≤ M → M - m < k → 0 ≤ n → n ≤ 100000 + 31 * m → L_date_Day_1 N Y (M : Int) k n (m : Int) = some (n + cum Y M - cum Y m) := by
  intro k
  induction k with
  | zero => intro m n h1 h2 h3; omega
  | succ k ih =>
    intro m n h1 h2 h3 h4 h5
    obtain ⟨l1, -⟩ := ln_ok N Y m (by omega) h1 (by omega)
    have hp := ln_pos Y m h1 (by omega)
    have e1 : IntKind.wrap .i64 ((m : Int) + 1) = ((m + 1 : Nat) : Int) := by rw [w64 (by omega)]; omega
    have e2 : IntKind.wrap .i64 (n + ln Y m) = n + ln Y m := w64 (by omega)
    rw [L_date_Day_1]
    by_cases hc : m < M
    · simp only [hc, Int.ofNat_lt, decide_true, cond_true, l1, Option.bind_some, e1, e2]
      rw [ih (m + 1) (n + ln Y m) (by omega) (by omega) (by omega) (by omega) (by omega)]
      have hcm : cum Y (m + 1) = cum Y m + ln Y m := rfl
      congr 1
      omega
    · have : m = M := by omega
      subst this
      simp only [hc, Int.ofNat_lt, decide_false, cond_false]
      congr 1
      omega
theorem valid_ok (N : Nat) (d : Int) : F_date_Valid N d = some (decide (0 ≤ d) && decide (d ≤ 73048)) ∧ F_r04_Valid N d = some (decide (0 ≤ d) && decide (d ≤ 73048)) := by
  constructor
  · simp only [F_date_Valid]; cases decide (0 ≤ d) <;> rfl
  · simp only [F_r04_Valid]; cases decide (0 ≤ d) <;> rfl
theorem month_ok (N : Nat) (hN : 300 ≤ N) (day : Int) (h0 : 0 ≤ day) (h9 : day ≤ 73048) : ∃ r, F_limit_month N day = some r ∧ F_r25_First N day = some r ∧ 0 ≤ r ∧ r ≤ day ∧ day ≤ r + 30 := by
  have hv := valid_ok N day
  have hvt : (decide (0 ≤ day) && decide (day ≤ 73048)) = true := by simp [h0, h9]
  rw [hvt] at hv
  -- the year
  have q : Int.tdiv day 366 = day / 366 := Int.tdiv_eq_ediv_of_nonneg h0
  have e1 : IntKind.wrap .i64 (day / 366) = day / 366 := w64 (by omega)
  have e2 : IntKind.wrap .i64 (2000 + day / 366) = 2000 + day / 366 := w64 (by omega)
  have b0 : bg (2000 + day / 366) ≤ day := by
    unfold bg
    by_cases a : 2100 < 2000 + day / 366 <;> simp only [a, if_true, if_false] <;> omega
  obtain ⟨Y, y1, y2, y3, y4, y5⟩ := years N day h0 h9 N (2000 + day / 366) (by omega) (by omega) (by omega) b0
  have bz : bg 2000 = 0 := by decide
  obtain ⟨Z, z1, z2, z3, z4, z5⟩ := years' N day h0 h9 N 2000 (by omega) (by omega) (by omega) (by omega)
  obtain rfl := one_year y1 y2 y3 y4 z1 z2 z3 z4
  rw [bz, Int.sub_zero] at z5
  have hb := bg_mono Y y1 (by omega)
  have e3 : IntKind.wrap .i64 (day - bg Y) = day - bg Y := w64 (by omega)
  have hs := bg_succ Y y1 y2
  have c1 : cum Y 1 = 0 := rfl
  obtain ⟨M, e, g1, g2, g3, g30, g4, g5, g6⟩ := months N Y y1 N 1 (day - bg Y) (by omega) (by omega) (by omega) (by omega) (by omega)
  have hyl := yl_pos Y
  have cM := cum_mono Y 0 M (by omega) (by omega)
  have cM' : (0 : Int) ≤ cum Y M := cM
  have e4 : IntKind.wrap .i64 (e + 1) = e + 1 := w64 (by omega)
  have hciv : F_date_Civil N day = some (Y, (M : Int), e + 1) := by
    simp only [F_date_Civil, hv.1, Option.bind_some, Bool.not_true, cond_false, q, e1, e2, y5, K_date_Civil_1, begin_ok N Y y1 (by omega), e3]
    have g5' : L_date_Civil_2 N Y N (day - bg Y) 1 = some (e, (M : Int)) := g5
    simp only [g5', Option.bind_some, K_date_Civil_2, e4]
  have hciv' : F_r04_Civil N day = some (Y, (M : Int), e + 1) := by
    simp only [F_r04_Civil, hv.2, Option.bind_some, Bool.not_true, cond_false, z5, K_r04_Civil_1]
    have g6' : L_r04_Civil_2 N Y N (day - bg Y) 1 = some (e, (M : Int)) := g6
    simp only [g6', Option.bind_some, K_r04_Civil_2, e4]
  obtain ⟨l1, -⟩ := ln_ok N Y M (by omega) (by omega) g2
  have hp := ln_pos Y M (by omega) g2
  have e5 : IntKind.wrap .i64 (bg Y + 1) = bg Y + 1 := w64 (by omega)
  have e6 : IntKind.wrap .i64 (bg Y + 1 - 1) = bg Y := by rw [w64 (by omega)]; omega
  have hd := dayloop N Y y1 M g2 N 1 (bg Y) (by omega) (by omega) (by omega) (by omega) (by omega)
  have hd' : L_date_Day_1 N Y (M : Int) N (bg Y) 1 = some (bg Y + cum Y M - cum Y 1) := hd
  have hday : F_date_Day N Y (M : Int) 1 = some (bg Y + cum Y M, 0) := by
    simp only [F_date_Day, show decide (Y < 2000) = false by simp; omega, show decide (2199 < Y) = false by simp; omega, show decide ((M : Int) < 1) = false by simp; omega, show decide ((12 : Int) < (M : Int)) = false by simp; omega, show decide ((1 : Int) < 1) = false by decide, cond_false, l1, Option.bind_some,
      show decide (ln Y M < 1) = false by simp; omega, begin_ok N Y y1 (by omega), e5, e6, hd', K_date_Day_1, c1, Int.sub_zero]
  have e7 : IntKind.wrap .i64 (day - (e + 1)) = day - (e + 1) := w64 (by omega)
  have e8 : IntKind.wrap .i64 (day - (e + 1) + 1) = bg Y + cum Y M := by rw [w64 (by omega)]; omega
  refine ⟨bg Y + cum Y M, ?_, ?_, by omega, by omega, by omega⟩
  · simp only [F_limit_month, hciv, Option.bind_some, hday]
  · simp only [F_r25_First, hciv', Option.bind_some, e7, e8]

end
end Go.TL
