/- The plain law: dates. -/
import Derived.Test.YthhhejockehncaaGreatDoorTlLeD
import Derived.IntWalk
set_option maxRecDepth 20000
set_option linter.all false
set_option linter.unusedVariables false
namespace Go.TL
open Go Go.Proofs
noncomputable section
/-! lists of numbers, told by what each place holds -/
def Rep (l : List Int) (n : Nat) (g : Nat → Int) : Prop := l.length = n ∧ ∀ k, k < n → l.getD k 0 = IntKind.wrap .i64 (g k)
theorem Rep.ext {l l' : List Int} {n : Nat} {g g' : Nat → Int} (h : Rep l n g) (h' : Rep l' n g') (e : ∀ k, k < n → IntKind.wrap .i64 (g k) = IntKind.wrap .i64 (g' k)) : l = l' := by
  apply List.ext_getElem (by rw [h.1, h'.1])
  intro k h1 h2
  have a := h.2 k (by rw [← h.1]; exact h1)
  have b := h'.2 k (by rw [← h.1]; exact h1)
  rw [List.getD_eq_getElem?_getD, List.getElem?_eq_getElem h1, Option.getD_some] at a
  rw [List.getD_eq_getElem?_getD, List.getElem?_eq_getElem h2, Option.getD_some] at b
  rw [a, b, e k (by rw [← h.1]; exact h1)]
theorem Rep.congr {l : List Int} {n : Nat} {g g' : Nat → Int} (h : Rep l n g) (e : ∀ k, k < n → g k = g' k) : Rep l n g' :=
  ⟨h.1, fun k hk => by rw [h.2 k hk, e k hk]⟩
theorem Rep.set {l : List Int} {n : Nat} {g : Nat → Int} (h : Rep l n g) (i : Nat) (z v : Int) (hz : z = IntKind.wrap .i64 v) : Rep (l.set i z) n (fun k => if k = i then v else g k) := by
  refine ⟨by rw [List.length_set, h.1], fun k hk => ?_⟩
  by_cases e : k = i
  · subst e
    rw [List.getD_eq_getElem?_getD, List.getElem?_set_self (by rw [h.1]; exact hk)]
    simp [hz]
  · rw [List.getD_eq_getElem?_getD, List.getElem?_set_ne (fun x => e x.symm), ← List.getD_eq_getElem?_getD, h.2 k hk]
    simp [e]
theorem wrap_l (a b : Int) : IntKind.wrap .i64 (IntKind.wrap .i64 a + b) = IntKind.wrap .i64 (a + b) := by
  simp only [IntWalk.i64_left, RowKit.wrap64]; omega
theorem wrap_r (a b : Int) : IntKind.wrap .i64 (a + IntKind.wrap .i64 b) = IntKind.wrap .i64 (a + b) := by
  simp only [IntWalk.i64_left, RowKit.wrap64]; omega
theorem wrap_s (a b : Int) : IntKind.wrap .i64 (IntKind.wrap .i64 a - b) = IntKind.wrap .i64 (a - b) := by
  simp only [IntWalk.i64_left, RowKit.wrap64]; omega
theorem wrap_w (a : Int) : IntKind.wrap .i64 (IntKind.wrap .i64 a) = IntKind.wrap .i64 a := by
  simp only [IntWalk.i64_left, RowKit.wrap64]; omega
/-- What movements up to a day come to. -/
def upTo (d : Int) : List (ApiEntry × Int) → Int
  | [] => 0
  | x :: l => upTo d l - (if x.1.Value_ ≤ d then x.2 else 0)
/-- What movements at one place come to. -/
def atK (f t : Int) (k : Nat) : List (ApiEntry × Int) → Int
  | [] => 0
  | x :: l => atK f t k l - (if x.1.Value_ ≤ t ∧ (max f x.1.Value_ - f).toNat = k then x.2 else 0)
def sumK (g : Nat → Int) : Nat → Int
  | 0 => g 0
  | k + 1 => sumK g k + g (k + 1)
theorem sumK_atK (f t : Int) (l : List (ApiEntry × Int)) : ∀ k : Nat, f + k ≤ t → sumK (fun k => atK f t k l) k = upTo (f + k) l := by
  induction l with
  | nil =>
    intro k _
    induction k with
    | zero => rfl
    | succ k ih => rw [sumK, ih (by omega)]; rfl
  | cons x l ih =>
    have key : ∀ k : Nat, f + k ≤ t → sumK (fun k => atK f t k (x :: l)) k = sumK (fun k => atK f t k l) k - (if x.1.Value_ ≤ f + k then x.2 else 0) := by
      intro k
      induction k with
      | zero =>
        intro hk
        simp only [sumK, atK]
        by_cases h : x.1.Value_ ≤ f + ((0 : Nat) : Int)
        · rw [if_pos h, if_pos ⟨by omega, by omega⟩]
        · rw [if_neg h, if_neg (fun h' => h (by omega))]
      | succ k ihk =>
        intro hk
        simp only [sumK]
        rw [ihk (by omega)]
        simp only [atK]
        by_cases h : x.1.Value_ ≤ f + (k : Int)
        · rw [if_pos h, if_pos (show x.1.Value_ ≤ f + ((k + 1 : Nat) : Int) by omega), if_neg (show ¬ (x.1.Value_ ≤ t ∧ (max f x.1.Value_ - f).toNat = k + 1) by omega)]
          omega
        · by_cases h' : x.1.Value_ ≤ f + ((k + 1 : Nat) : Int)
          · rw [if_neg h, if_pos h', if_pos (show x.1.Value_ ≤ t ∧ (max f x.1.Value_ - f).toNat = k + 1 by omega)]
            omega
          · rw [if_neg h, if_neg h', if_neg (show ¬ (x.1.Value_ ≤ t ∧ (max f x.1.Value_ - f).toNat = k + 1) by omega)]
            omega
    intro k hk
    rw [key k hk, ih k hk, upTo]
theorem rep_days (f t : Int) (n : Nat) : ∀ (l : List (ApiEntry × Int)) (s : List Int) (g : Nat → Int), Rep s n g → (∀ x ∈ l, x.1.Value_ ≤ t → (max f x.1.Value_ - f).toNat < n) → Rep (l.foldl (fun s x => dayStep f t s x.1.Value_ x.2) s) n (fun k => g k + atK f t k l) := by
  intro l
  induction l with
  | nil => intro s g h _; exact h.congr (fun k _ => by simp [atK])
  | cons x l ih =>
    intro s g h hx
    rw [List.foldl_cons]
    by_cases hc : x.1.Value_ ≤ t
    · have hn := hx x (List.mem_cons_self ..) hc
      have e : dayStep f t s x.1.Value_ x.2 = s.set (max f x.1.Value_ - f).toNat (IntKind.wrap .i64 (s.getD (max f x.1.Value_ - f).toNat 0 - x.2)) := by
        unfold dayStep; rw [if_pos hc]
      rw [e]
      have hs := h.set (max f x.1.Value_ - f).toNat (IntKind.wrap .i64 (s.getD (max f x.1.Value_ - f).toNat 0 - x.2)) (g (max f x.1.Value_ - f).toNat - x.2) (by rw [h.2 _ hn, wrap_s])
      refine (ih _ _ hs (fun y hy => hx y (List.mem_cons_of_mem _ hy))).congr (fun k hk => ?_)
      simp only [atK]
      by_cases e : k = (max f x.1.Value_ - f).toNat
      · subst e
        rw [if_pos rfl, if_pos ⟨hc, rfl⟩]
        omega
      · rw [if_neg e, if_neg (fun h' => e h'.2.symm)]
        omega
    · have e : dayStep f t s x.1.Value_ x.2 = s := by unfold dayStep; rw [if_neg hc]
      rw [e]
      refine (ih _ _ h (fun y hy => hx y (List.mem_cons_of_mem _ hy))).congr (fun k hk => ?_)
      simp only [atK]
      rw [if_neg (fun h' => hc h'.1)]
      omega
theorem rep_psums (s : List Int) (n : Nat) (g : Nat → Int) (h : Rep s n g) : ∀ m : Nat, 1 ≤ m → m ≤ n → Rep (psums s m) n (fun k => if k < m then sumK g k else g k) := by
  intro m
  induction m with
  | zero => intro h1; omega
  | succ m ih =>
    intro _ h2
    by_cases h0 : m = 0
    · subst h0
      refine h.congr (fun k hk => ?_)
      by_cases e : k < 0 + 1
      · have : k = 0 := by omega
        subst this
        rfl
      · rw [if_neg e]
    · obtain ⟨q, rfl⟩ := Nat.exists_eq_succ_of_ne_zero h0
      have hi := ih (by omega) (by omega)
      show Rep (psum (psums s (q + 1)) (q + 1)) n _
      have e1 : (psums s (q + 1))[q + 1]! = IntKind.wrap .i64 (g (q + 1)) := by
        have this : _ = IntKind.wrap .i64 (if q + 1 < q + 1 then sumK g (q + 1) else g (q + 1)) := hi.2 (q + 1) (by omega)
        rw [if_neg (by omega)] at this
        rw [← this]
        simp [List.getElem!_eq_getElem?_getD]
      have e2 : (psums s (q + 1))[q]! = IntKind.wrap .i64 (sumK g q) := by
        have this : _ = IntKind.wrap .i64 (if q < q + 1 then sumK g q else g q) := hi.2 q (by omega)
        rw [if_pos (by omega)] at this
        rw [← this]
        simp [List.getElem!_eq_getElem?_getD]
      unfold psum
      have hs := hi.set (q + 1) (IntKind.wrap .i64 ((psums s (q + 1))[q + 1]! + (psums s (q + 1))[q + 1 - 1]!)) (sumK g (q + 1)) (by
        rw [Nat.add_sub_cancel, e1, e2, wrap_l, wrap_r, sumK, Int.add_comm])
      refine hs.congr (fun k hk => ?_)
      by_cases e : k = q + 1
      · subst e
        rw [if_pos rfl, if_pos (by omega)]
      · rw [if_neg e]
        by_cases e' : k < q + 1
        · rw [if_pos e', if_pos (by omega)]
        · rw [if_neg e', if_neg (by omega)]
theorem rep_daily (j : List ApiEntry) (a f t : Int) (h0 : 0 ≤ f) (h1 : f ≤ t) : Rep (daily j a f t) (t - f + 1).toNat (fun k => upTo (f + k) (moves a j)) := by
  have hz : Rep (List.replicate (t - f + 1).toNat 0) (t - f + 1).toNat (fun _ => 0) := by
    refine ⟨by simp, fun k hk => ?_⟩
    rw [List.getD_eq_getElem?_getD, List.getElem?_replicate]
    simp [hk]
    rfl
  have hd := rep_days f t (t - f + 1).toNat (moves a j) _ _ hz (fun x _ hx => by omega)
  have hp := rep_psums _ _ _ hd (t - f + 1).toNat (by omega) (Nat.le_refl _)
  refine hp.congr (fun k hk => ?_)
  rw [if_pos hk, ← sumK_atK f t _ k (by omega)]
  congr 1
  funext k
  exact Int.zero_add _

/-! the reference's days -/
def nl (a : Int) : List ApiLeg → Int
  | [] => 0
  | x :: l => nl a l - (if x.Account_ = a then x.Amount_ else 0)
theorem negLegs_nl (a : Int) : ∀ (l : List ApiLeg) (n : Int), IntKind.wrap .i64 (negLegs a l n) = IntKind.wrap .i64 (n + nl a l) := by
  intro l
  induction l with
  | nil => intro n; simp [negLegs, nl]
  | cons x l ih =>
    intro n
    rw [negLegs, ih, nl]
    by_cases h : x.Account_ = a
    · rw [if_pos h, if_pos h, wrap_l]
      congr 1
      omega
    · rw [if_neg h, if_neg h]
      congr 1
      omega
def rr (a d : Int) : List ApiEntry → Int
  | [] => 0
  | e :: l => rr a d l + (if e.Value_ ≤ d then negLegs a e.Legs_ 0 else 0)
theorem upTo_append (d : Int) (x y : List (ApiEntry × Int)) : upTo d (x ++ y) = upTo d x + upTo d y := by
  induction x with
  | nil => simp [upTo]
  | cons z x ih => rw [List.cons_append, upTo, upTo, ih]; omega
theorem upTo_legs (a d : Int) (e : ApiEntry) (l : List ApiLeg) : upTo d ((l.filter fun x => decide (x.Account_ = a)).map fun x => (e, x.Amount_)) = if e.Value_ ≤ d then nl a l else 0 := by
  induction l with
  | nil => simp [upTo, nl]
  | cons x l ih =>
    by_cases h : x.Account_ = a
    · rw [List.filter_cons_of_pos (by simpa using h), List.map_cons, upTo, ih, nl, if_pos h]
      by_cases hd : e.Value_ ≤ d
      · simp only [hd, if_true]
      · simp only [hd, if_false]; omega
    · rw [List.filter_cons_of_neg (by simpa using h), ih, nl, if_neg h, Int.sub_zero]
theorem upTo_moves (a d : Int) : ∀ j : List ApiEntry, IntKind.wrap .i64 (upTo d (moves a j)) = IntKind.wrap .i64 (rr a d j) := by
  intro j
  induction j with
  | nil => rfl
  | cons e j ih =>
    have e1 : moves a (e :: j) = ((e.Legs_.filter fun x => decide (x.Account_ = a)).map fun x => (e, x.Amount_)) ++ moves a j := rfl
    rw [e1, upTo_append, upTo_legs, rr]
    by_cases hd : e.Value_ ≤ d
    · rw [if_pos hd, if_pos hd, ← wrap_r, ih, wrap_r, ← wrap_r (rr a d j), negLegs_nl, wrap_r, Int.zero_add, Int.add_comm]
    · rw [if_neg hd, if_neg hd, ← wrap_r, ih, wrap_r, Int.zero_add, Int.add_zero]
theorem inner_days (N : Nat) (f t r : Int) (n : Nat) (h0 : 0 ≤ f) (h9 : t ≤ 73048) (hn : n = (t - f + 1).toNat) : ∀ (m : Nat) (v : Int) (l : List Int) (g : Nat → Int), f ≤ v → (t + 1 - v).toNat < m → Rep l n g →
    ∃ l', L_r21_Daily_2 N f t r m v l = some l' ∧ Rep l' n (fun k => g k + if v ≤ f + k then r else 0) := by
  intro m
  induction m with
  | zero => intro v l g _ h; omega
  | succ m ih =>
    intro v l g hv hm hr
    rw [L_r21_Daily_2]
    by_cases hc : v ≤ t
    · by_cases hz : r = 0
      · subst hz
        simp only [hc, decide_true, cond_true, Bool.not_true, cond_false]
        exact ⟨l, rfl, hr.congr (fun k _ => by split <;> omega)⟩
      · have e1 : IntKind.wrap .i64 (v - f) = v - f := w64 (by omega)
        have e2 : IntKind.wrap .i64 (v + 1) = v + 1 := w64 (by omega)
        have hk : (v - f).toNat < n := by omega
        have hg : getI l (v - f) = some (IntKind.wrap .i64 (g (v - f).toNat)) := by
          have := hr.2 _ hk
          unfold getI
          rw [if_pos (by omega), ← this, List.getD_eq_getElem?_getD, List.getElem?_eq_getElem (by rw [hr.1]; exact hk)]
          rfl
        simp only [hc, hz, decide_true, decide_false, cond_true, Bool.not_false, e1, e2, hg, Option.bind_some, setI]
        obtain ⟨l', h1, h2⟩ := ih (v + 1) _ _ (by omega) (by omega) (hr.set (v - f).toNat (IntKind.wrap .i64 (IntKind.wrap .i64 (g (v - f).toNat) + r)) (g (v - f).toNat + r) (wrap_l _ _))
        refine ⟨l', h1, h2.congr (fun k hkn => ?_)⟩
        by_cases e : k = (v - f).toNat
        · subst e
          rw [if_pos rfl, if_neg (by omega), if_pos (by omega)]
          omega
        · rw [if_neg e]
          by_cases h' : v + 1 ≤ f + (k : Int)
          · rw [if_pos h', if_pos (by omega)]
          · rw [if_neg h', if_neg (by omega)]
    · simp only [hc, decide_false, cond_false]
      exact ⟨l, rfl, hr.congr (fun k _ => by rw [if_neg (by omega)]; omega)⟩
theorem outer_days (N : Nat) (j : List ApiEntry) (a f t : Int) (n : Nat) (h0 : 0 ≤ f) (h9 : t ≤ 73048) (hn : n = (t - f + 1).toNat) (hN : n < N) (hl : j.length ≤ maxLen) (hd : ∀ e ∈ j, e.Legs_.length ≤ maxLen ∧ e.Legs_.length < N) : ∀ (m i : Nat) (l : List Int) (g : Nat → Int), i ≤ j.length → j.length - i < m → Rep l n g →
    ∃ l', L_r21_Daily_1 N j a f t m i l = some l' ∧ Rep l' n (fun k => g k + rr a (f + k) (j.drop i)) := by
  intro m
  induction m with
  | zero => intro i l g _ h; omega
  | succ m ih =>
    intro i l g hi hm hr
    rw [L_r21_Daily_1]
    by_cases h : i < j.length
    · have w := wrap_idx h hl
      obtain ⟨g1, g2⟩ := hd _ (List.getElem_mem h)
      obtain ⟨l1, k1, k2⟩ := inner_days N f t (negLegs a j[i].Legs_ 0) n h0 h9 hn N (if f < j[i].Value_ then j[i].Value_ else f) l g (by split <;> omega) (by split <;> omega) hr
      obtain ⟨l2, q1, q2⟩ := ih (i + 1) l1 _ (by omega) (by omega) k2
      simp only [h, Int.ofNat_lt, decide_true, cond_true, getI_nat h, Option.bind_some, F_r21_moved_spec N j[i] a g1 g2, k1, K_r21_Daily_2, w, q1]
      refine ⟨l2, rfl, q2.congr (fun k hk => ?_)⟩
      rw [List.drop_eq_getElem_cons h, rr]
      by_cases hv : j[i].Value_ ≤ f + (k : Int)
      · rw [if_pos hv, if_pos (by split <;> omega)]
        omega
      · rw [if_neg hv, if_neg (by split <;> omega)]
        omega
    · have : i = j.length := by omega
      subst this
      simp only [h, Int.ofNat_lt, decide_false, cond_false]
      refine ⟨l, rfl, hr.congr (fun k _ => by simp [rr])⟩
theorem F_Daily_spec (N : Nat) (j : List ApiEntry) (a f t : Int) (h0 : 0 ≤ f) (h1 : f ≤ t) (h9 : t ≤ 73048) (h30 : t - f ≤ 30) (hN : 300 ≤ N) (hj : j.length < N) (hl : j.length ≤ maxLen) (hs : smallJ j = true) (hd : ∀ e ∈ j, e.Legs_.length ≤ maxLen ∧ e.Legs_.length < N) :
    ∃ l, F_balance_Daily N j a f t = some l ∧ F_r21_Daily N j a f t = some l ∧ 0 < l.length ∧ l.length ≤ 31 := by
  have hr := rep_daily j a f t h0 h1
  refine ⟨daily j a f t, ?_, ?_, by rw [hr.1]; omega, by rw [hr.1]; omega⟩
  · unfold F_balance_Daily
    rw [if_pos hs, show dailyOk f t = true by simp [dailyOk]; omega]
    rfl
  · have e1 : IntKind.wrap .i64 (t - f) = t - f := w64 (by omega)
    have e2 : IntKind.wrap .i64 (t - f + 1) = t - f + 1 := w64 (by omega)
    have em : makeI 8 (t - f + 1) (0 : Int) = some (List.replicate (t - f + 1).toNat 0) := by
      unfold makeI
      rw [if_pos (by omega)]
    have hz : Rep (List.replicate (t - f + 1).toNat 0) (t - f + 1).toNat (fun _ => 0) := by
      refine ⟨by simp, fun k hk => ?_⟩
      rw [List.getD_eq_getElem?_getD, List.getElem?_replicate]
      simp [hk]
      rfl
    obtain ⟨l', g1, g2⟩ := outer_days N j a f t _ h0 h9 rfl (by omega) hl hd N 0 _ _ (by omega) (by omega) hz
    rw [show ((0 : Nat) : Int) = 0 from rfl] at g1
    simp only [F_r21_Daily, show decide (f < 0) = false by simp; omega, show decide (73048 < t) = false by simp; omega, show decide (t < f) = false by simp; omega, show decide (4000 ≤ t - f) = false by simp; omega, cond_false, e1, e2, em, Option.bind_some, g1, K_r21_Daily_1]
    congr 1
    refine g2.ext hr (fun k hk => ?_)
    rw [List.drop_zero, Int.zero_add, upTo_moves]

end
end Go.TL
