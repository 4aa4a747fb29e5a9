/- slices.Insert of one element, walked. -/
import Derived.Test.YthhhejockehncaaGreatDoorTlTy
import Derived.Shelf.Spec.SlicesInsertGrow
set_option linter.all false
namespace Go.Proofs
open Go.Shelf Go.RowKit Go.Lib
namespace Ins
theorem t58 : Tryz.prog.underlying 58 = some (.slice 93) := by kernel_rfl
theorem follows : Tryz.prog.follows .mixedOrders = true := by kernel_rfl
set_option maxHeartbeats 4000000 in
set_option maxRecDepth 100000 in
/-- At the end. -/
theorem ends (base : Option Addr) (n c : Nat) (v3 : Value) (vb vo vc : Nat) (hv3 : v3 = .slice (some ⟨vb, vo, none⟩) 1 vc) (w : World) {vr : Value} {w' : World}
    (hrun : ∀ ty, (Builtin.append_ #[58, 58] ty #[.slice base n c, .slice (some ⟨vb, vo, none⟩) 1 vc]).run Tryz.prog w = .ok vr w') (hnc : n ≤ c) :
    Calls Tryz.prog 89 #[.slice base n c, .int .i64 n, v3] w fun e W' => e = .returned vr ∧ W' = w' := by
  subst hv3
  go_enter Tryz.func89, Tryz.ntmps89
  cases base with
  | none =>
    go_wp2_with (at_builtin; refine Lib.wpList_append_run _ rfl _ _ _ _ rfl _ _ rfl rfl _ _ (hrun _) ?_)
    all_goals (go_ret; exact ⟨rfl, rfl⟩)
  | some a =>
    obtain ⟨ab, ao, asp⟩ := a
    go_wp2_with (at_builtin; refine Lib.wpList_append_run _ rfl _ _ _ _ rfl _ _ rfl rfl _ _ (hrun _) ?_)
    all_goals (go_ret; exact ⟨rfl, rfl⟩)

set_option maxHeartbeats 4000000 in
set_option maxRecDepth 100000 in
/-- There is room. -/
theorem room (b p n c i vb vo vc : Nat) (w W1 W2 : World) (k1 k2 : Nat) (hi : i < n) (hn63 : n + 1 ≤ 9223372036854775807) (hroom : n + 1 ≤ c)
    (hov : ∀ lb cb, (callFunc 99 #[.slice (some ⟨vb, vo, none⟩) 1 vc, .slice (some ⟨b, p + (i + 1) * 3, none⟩) lb cb]).run Tryz.prog w = .ok (.value (.bool false)) w)
    (hcp1 : ∀ ty dc sc, (Builtin.copy_ #[58, 58] ty #[.slice (some ⟨b, p + (i + 1) * 3, none⟩) (n - i) dc, .slice (some ⟨b, p + i * 3, none⟩) (n + 1 - i) sc]).run Tryz.prog w.drew = .ok (goInt k1) W1)
    (hcp2 : ∀ ty dc, (Builtin.copy_ #[58, 58] ty #[.slice (some ⟨b, p + i * 3, none⟩) (n + 1 - i) dc, .slice (some ⟨vb, vo, none⟩) 1 vc]).run Tryz.prog W1 = .ok (goInt k2) W2) :
    Calls Tryz.prog 89 #[.slice (some ⟨b, p, none⟩) n c, .int .i64 i, .slice (some ⟨vb, vo, none⟩) 1 vc] w fun e W' => e = .returned (.slice (some ⟨b, p, none⟩) (n + 1) c) ∧ W' = W2 := by
  have mixed := follows
  have hz2 : ¬ ((i : Int) = (n : Int)) := by omega
  have hin : i ≤ n := by omega
  have hw1 : IntKind.i64.wrap ((i : Int) + 1) = (i : Int) + 1 := by rw [IntKind.wrap_i64]; omega
  have hw2 : IntKind.i64.wrap ((n : Int) + 1) = (n : Int) + 1 := by rw [IntKind.wrap_i64]; omega
  have hb1 : (0 : Int) ≤ (i : Int) + 1 := by omega
  have htn : ((i : Int) + 1).toNat = i + 1 := by omega
  have hb2 : ¬ (c = i + 1) := by omega
  have hb3 : (i : Int) ≤ (n : Int) + 1 := by omega
  have hb4 : ¬ (c = i) := by omega
  go_enter Tryz.func89, Tryz.ntmps89
  go_wp2_with (simp only [hov])
  go_region_law_o (refine step_copy_runI rfl _ _ 58 58 rfl _ _ (by simp [Act.eval, Act.put]) (by simp [Act.eval, Act.put]) (hcp1 _ _ _) ?_)
  go_wp2_with (at_builtin; refine wpList_copy_runI _ rfl _ _ 58 58 rfl _ _ rfl rfl (hcp2 _ _) ?_)
  go_ret
  exact ⟨rfl, rfl⟩

set_option maxHeartbeats 4000000 in
set_option maxRecDepth 100000 in
/-- There is no room. -/
theorem grow (b p n c i vb vo vc B G : Nat) (w W1 W2 W3 : World) (k1 k2 : Nat) (hi : i < n) (hnc : n ≤ c) (hroom : c < n + 1) (hn63 : n + 1 ≤ 9223372036854775807) (hG : n + 1 ≤ G)
    (hrz : ∀ ty, (Builtin.append_ #[58, 3] ty #[.slice (some ⟨b, p, none⟩) i c, .int .i64 ((n : Int) + 1 - (i : Int))]).run Tryz.prog w = .ok (.slice (some ⟨B, 0, none⟩) (n + 1) G) W1)
    (hcp1 : ∀ ty dc, (Builtin.copy_ #[58, 58] ty #[.slice (some ⟨B, i * 3, none⟩) (n + 1 - i) dc, .slice (some ⟨vb, vo, none⟩) 1 vc]).run Tryz.prog W1 = .ok (goInt k1) W2)
    (hcp2 : ∀ ty dc sc, (Builtin.copy_ #[58, 58] ty #[.slice (some ⟨B, (i + 1) * 3, none⟩) (n + 1 - (i + 1)) dc, .slice (some ⟨b, p + i * 3, none⟩) (n - i) sc]).run Tryz.prog W2.drew = .ok (goInt k2) W3) :
    Calls Tryz.prog 89 #[.slice (some ⟨b, p, none⟩) n c, .int .i64 i, .slice (some ⟨vb, vo, none⟩) 1 vc] w fun e W' => e = .returned (.slice (some ⟨B, 0, none⟩) (n + 1) G) ∧ W' = W3 := by
  have mixed := follows
  have hz2 : ¬ ((i : Int) = (n : Int)) := by omega
  have hz3 : (c : Int) < (n : Int) + 1 := by omega
  have hin : i ≤ n := by omega
  have hw1 : IntKind.i64.wrap ((i : Int) + 1) = (i : Int) + 1 := by rw [IntKind.wrap_i64]; omega
  have hw2 : IntKind.i64.wrap ((n : Int) + 1) = (n : Int) + 1 := by rw [IntKind.wrap_i64]; omega
  have hw3 : IntKind.i64.wrap ((n : Int) + 1 - (i : Int)) = (n : Int) + 1 - (i : Int) := by rw [IntKind.wrap_i64]; omega
  have hb1 : (0 : Int) ≤ (i : Int) + 1 := by omega
  have htn : ((i : Int) + 1).toNat = i + 1 := by omega
  have hGi : ¬ (G = i) := by omega
  have hGim : ¬ (G = i + 1) := by omega
  have hci : ¬ (c = i) := by omega
  have hb3 : (i : Int) ≤ (n : Int) := by omega
  go_enter Tryz.func89, Tryz.ntmps89
  go_wp2_with (first
    | (at_builtin; refine Lib.wpList_append_run _ rfl _ _ _ _ rfl _ _ rfl rfl _ _ (hrz _) ?_)
    | (at_builtin; refine wpList_copy_runI _ rfl _ _ 58 58 rfl _ _ rfl rfl (hcp1 _ _) ?_))
  go_region_law_o (refine step_copy_runI rfl _ _ 58 58 rfl (.slice (some ⟨B, (i + 1) * 3, none⟩) (n + 1 - (i + 1)) (G - (i + 1))) (.slice (some ⟨b, p + i * 3, none⟩) (n - i) (c - i)) (by simp [Act.eval, Act.put]) (by simp [Act.eval, Act.put]) (hcp2 _ _ _) ?_)
  go_wp2
  go_ret
  exact ⟨rfl, rfl⟩
end Ins
end Go.Proofs
