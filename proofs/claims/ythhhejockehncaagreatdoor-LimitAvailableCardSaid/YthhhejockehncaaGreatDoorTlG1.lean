/- The program's functions as Lean's own, with proofs. -/
import Derived.Test.YthhhejockehncaaGreatDoorTlG0
set_option maxRecDepth 20000
set_option linter.all false
set_option linter.unusedVariables false
namespace Go.TL
open Go Go.Proofs
noncomputable section
open Go.RowKit Go.Lib
/-! corebank/corebankref21.moved -/
def p63_21 : PC := .ret
def p63_22 : PC := (.seq (.reg (om 30 5 :: om 4 30 :: [])) p63_21)
def p63_14 : PC := (.reg (om 12 6 :: oo 13 (.bin .add .other true (.t 12) (.c (.int .i64 1))) :: om 6 13 :: []))
def p63_11 : PC := (.cond (.t 21) (.reg (om 22 5 :: oo 23 (.fa 8 (.t 2)) :: oo 24 (.ld1 (.t 23)) :: om 25 6 :: oo 26 (.ia 3 (.t 24) (.t 25)) :: oo 27 (.fa 1 (.t 26)) :: oo 28 (.ld1 (.t 27)) :: oo 29 (.bin .sub .other false (.t 22) (.t 28)) :: om 5 29 :: [])) .skip)
def p63_15 : PC := (.seq (.block 1 (.seq (.reg (oo 14 (.fa 8 (.t 2)) :: oo 15 (.ld1 (.t 14)) :: om 16 6 :: oo 17 (.ia 3 (.t 15) (.t 16)) :: oo 18 (.fa 0 (.t 17)) :: oo 19 (.ld1 (.t 18)) :: om 20 1 :: oo 21 (.bin .eql .other false (.t 19) (.t 20)) :: [])) p63_11)) p63_14)
def p63_6 : PC := (.cond (.t 11) .skip (.exit 0))
def p63_17 : PC := (.loop (.seq (.seq (.reg (om 7 6 :: oo 8 (.fa 8 (.t 2)) :: oo 9 (.ld1 (.t 8)) :: oo 10 (.len .slice (.t 9)) :: oo 11 (.bin .lss .other false (.t 7) (.t 10)) :: [])) p63_6) p63_15))
def p63_25 : PC := (.seq (.reg (oo 2 (.box (.t 0)) :: oo 4 (.mv (.c (.int .i64 0))) :: [])) (.seq (.reg (oo 5 (.mv (.c (.int .i64 0))) :: [])) (.seq (.seq (.reg (oo 6 (.mv (.c (.int .i64 0))) :: [])) (.block 0 p63_17)) p63_22)))
theorem fn63 : FnOk Tryz.prog 63 p63_25 31 [.t 4] := ⟨false, Tryz.f63, _, Tryz.func63, by decide, rfl, by kernel_rfl, rfl, by kernel_rfl⟩
def L_r21_moved_1 (N : Nat) (a1 : ApiEntry) (a2 : Int) : Nat → Int → Int → Option (Int)
  | 0, _, _ => none
  | m1 + 1, v1_0, v1_1 =>
    bif decide (v1_1 < (a1.Legs_.length : Int)) then
    ((getI a1.Legs_ v1_1).bind fun y8 =>
    bif decide (y8.Account_ = a2) then
    ((getI a1.Legs_ v1_1).bind fun y10 =>
    (L_r21_moved_1 N a1 a2 m1) (IntKind.wrap .i64 (v1_0 - y10.Amount_)) (IntKind.wrap .i64 (v1_1 + 1)))
    else
    ((L_r21_moved_1 N a1 a2 m1) v1_0 (IntKind.wrap .i64 (v1_1 + 1))))
    else
    (some v1_0)
def K_r21_moved_1 (N : Nat)  : (Int) → Option (Int)
  | x1_0 =>
    some x1_0
def F_r21_moved  (N : Nat) (a1 : ApiEntry) (a2 : Int) : Option (Int) :=
      (L_r21_moved_1 N a1 a2 N 0 0).bind (K_r21_moved_1 N)
theorem P_r21_moved  {N : Nat} {a1 : ApiEntry} {a2 : Int} {r : Int} (h : F_r21_moved N a1 a2 = some r) : Pure Tryz.prog (Gl.at 0) 63 [(ApiEntry.v a1), (i64 a2)] (i64 r) := by
  refine pure_run fn63 ?_
  rw [F_r21_moved] at h
  replace h := bs h
  change GG [.t 4] _ [.pc p63_25] (mk 31 [(0, (ApiEntry.v a1)), (1, (i64 a2))]) []
  refine gx mo [.pc p63_17, .blk 0, .pc p63_22] 31 [(1, (i64 a2)), (2, (.ref 0 0 0)), (5, (i64 0)), (6, (i64 0))] [.row 10 [(ApiEntry.v a1)]] 15 [] ?_
  refine go_cut (X := Int) (fun x => (K_r21_moved_1 N x).bind some = some r) ([.pc p63_22]) (fun x => (mk 31 [(5, (i64 x))])) (fun x => []) ?_ fun kont1_0 => ?_
  · rintro x1_0 h
    rw [K_r21_moved_1] at h
    refine gx mo [.pc p63_21] 31 [(4, (i64 x1_0))] [] 5 [] ?_
    obtain rfl := Option.some.inj h
    exact gf (i64 x1_0) (.same rfl)
  refine go_loop' (fun m t s => ∃ (v1_0 : Int) (v1_1 : Int), (L_r21_moved_1 N a1 a2 m v1_0 v1_1).bind (fun q => (K_r21_moved_1 N q).bind some) = some r ∧ t = (mk 31 [(1, (i64 a2)), (2, (.ref 0 0 0)), (5, (i64 v1_0)), (6, (i64 v1_1))]) ∧ s = [.row 10 [(ApiEntry.v a1)]]) N ⟨0, 0, go_assoc h, rfl, rfl⟩ ?_
  intro m1 J1 hJ1 t s
  rintro ⟨v1_0, v1_1, h, rfl, rfl⟩
  cases m1 with
  | zero => exact absurd h (by simp [L_r21_moved_1])
  | succ m1 =>
    rw [L_r21_moved_1] at h
    refine gx mo [.pc p63_6, .pc p63_15, .jp J1, .blk 0, .pc p63_22] 31 [(1, (i64 a2)), (2, (.ref 0 0 0)), (5, (i64 v1_0)), (6, (i64 v1_1)), (11, (.bool (decide (v1_1 < (a1.Legs_.length : Int)))))] [.row 10 [(ApiEntry.v a1)]] 9 [tw 3 (E_len [.row 10 [(ApiEntry.v a1)]] a1.Legs_ ApiLeg.v)] ?_
    refine go_if h (fun hb7 h => ?_) (fun hb7 h => ?_)
    · rw [hb7]
      refine go_bind h (fun y8 hy8 h => ?_)
      refine gx mo [.pc p63_11, .blk 1, .pc p63_14, .jp J1, .blk 0, .pc p63_22] 31 [(1, (i64 a2)), (2, (.ref 0 0 0)), (5, (i64 v1_0)), (6, (i64 v1_1)), (21, (.bool (decide (y8.Account_ = a2))))] [.row 10 [(ApiEntry.v a1)]] 15 [tw 4 (E_ia [.row 10 [(ApiEntry.v a1)]] ApiLeg.v .i64 hy8)] ?_
      refine go_if h (fun hb9 h => ?_) (fun hb9 h => ?_)
      · rw [hb9]
        refine go_bind h (fun y10 hy10 h => ?_)
        refine gx mo [.jp J1, .blk 0, .pc p63_22] 31 [(1, (i64 a2)), (2, (.ref 0 0 0)), (5, (i64 (IntKind.wrap .i64 (v1_0 - y10.Amount_)))), (6, (i64 (IntKind.wrap .i64 (v1_1 + 1))))] [.row 10 [(ApiEntry.v a1)]] 18 [tw 5 (E_ia [.row 10 [(ApiEntry.v a1)]] ApiLeg.v .i64 hy10)] ?_
        exact go_back rfl (hJ1 m1 _ _ (Nat.lt_succ_self m1) ⟨IntKind.wrap .i64 (v1_0 - y10.Amount_), IntKind.wrap .i64 (v1_1 + 1), h, rfl, rfl⟩)
      · rw [hb9]
        refine gx mo [.jp J1, .blk 0, .pc p63_22] 31 [(1, (i64 a2)), (2, (.ref 0 0 0)), (5, (i64 v1_0)), (6, (i64 (IntKind.wrap .i64 (v1_1 + 1))))] [.row 10 [(ApiEntry.v a1)]] 8 [] ?_
        exact go_back rfl (hJ1 m1 _ _ (Nat.lt_succ_self m1) ⟨v1_0, IntKind.wrap .i64 (v1_1 + 1), h, rfl, rfl⟩)
    · rw [hb7]
      refine gx mo [.pc p63_22] 31 [(5, (i64 v1_0))] [.row 10 [(ApiEntry.v a1)]] 2 [] ?_
      refine go_pick [] [] [(5, 0)] (t' := (mk 31 [(5, (i64 v1_0))])) (s' := []) (by kernel_rfl) trivial rfl ?_
      exact kont1_0 v1_0 h
/-! corebank/corebankref21.Of -/
def p40_17 : PC := .ret
def p40_18 : PC := (.seq (.reg (om 21 5 :: om 4 21 :: [])) p40_17)
def p40_11 : PC := (.seq (.block 1 (.reg (om 13 5 :: om 14 0 :: om 15 6 :: oo 16 (.ia 10 (.t 14) (.t 15)) :: oo 17 (.ldA 10 (.t 16)) :: om 18 1 :: ⟨some 19, .call 63 [.t 17, .t 18], none⟩ :: oo 20 (.bin .add .other false (.t 13) (.t 19)) :: om 5 20 :: []))) (.reg (om 11 6 :: oo 12 (.bin .add .other true (.t 11) (.c (.int .i64 1))) :: om 6 12 :: [])))
def p40_6 : PC := (.cond (.t 10) .skip (.exit 0))
def p40_13 : PC := (.loop (.seq (.seq (.reg (om 7 6 :: om 8 0 :: oo 9 (.len .slice (.t 8)) :: oo 10 (.bin .lss .other false (.t 7) (.t 9)) :: [])) p40_6) p40_11))
def p40_21 : PC := (.seq (.reg (oo 4 (.mv (.c (.int .i64 0))) :: [])) (.seq (.reg (oo 5 (.mv (.c (.int .i64 0))) :: [])) (.seq (.seq (.reg (oo 6 (.mv (.c (.int .i64 0))) :: [])) (.block 0 p40_13)) p40_18)))
theorem fn40 : FnOk Tryz.prog 40 p40_21 22 [.t 4] := ⟨false, Tryz.f40, _, Tryz.func40, by decide, rfl, by kernel_rfl, rfl, by kernel_rfl⟩
def L_r21_Of_1 (N : Nat) (a1 : List ApiEntry) (a2 : Int) : Nat → Int → Int → Option (Int)
  | 0, _, _ => none
  | m1 + 1, v1_0, v1_1 =>
    bif decide (v1_1 < (a1.length : Int)) then
    ((getI a1 v1_1).bind fun y7 =>
    (F_r21_moved N y7 a2).bind fun r8 =>
    (L_r21_Of_1 N a1 a2 m1) (IntKind.wrap .i64 (v1_0 + r8)) (IntKind.wrap .i64 (v1_1 + 1)))
    else
    (some v1_0)
def K_r21_Of_1 (N : Nat)  : (Int) → Option (Int)
  | x1_0 =>
    some x1_0
def F_r21_Of  (N : Nat) (a1 : List ApiEntry) (a2 : Int) : Option (Int) :=
      (L_r21_Of_1 N a1 a2 N 0 0).bind (K_r21_Of_1 N)
theorem P_r21_Of  {N : Nat} {a1 : List ApiEntry} {a2 : Int} {r : Int} (h : F_r21_Of N a1 a2 = some r) : Pure Tryz.prog (Gl.at 0) 40 [(.sl (a1.map ApiEntry.v)), (i64 a2)] (i64 r) := by
  refine pure_run fn40 ?_
  rw [F_r21_Of] at h
  replace h := bs h
  change GG [.t 4] _ [.pc p40_21] (mk 22 [(0, (.sl (a1.map ApiEntry.v))), (1, (i64 a2))]) []
  refine gx mo [.pc p40_13, .blk 0, .pc p40_18] 22 [(0, (.sl (a1.map ApiEntry.v))), (1, (i64 a2)), (5, (i64 0)), (6, (i64 0))] [] 14 [] ?_
  refine go_cut (X := Int) (fun x => (K_r21_Of_1 N x).bind some = some r) ([.pc p40_18]) (fun x => (mk 22 [(5, (i64 x))])) (fun x => []) ?_ fun kont1_0 => ?_
  · rintro x1_0 h
    rw [K_r21_Of_1] at h
    refine gx mo [.pc p40_17] 22 [(4, (i64 x1_0))] [] 5 [] ?_
    obtain rfl := Option.some.inj h
    exact gf (i64 x1_0) (.same rfl)
  refine go_loop' (fun m t s => ∃ (v1_0 : Int) (v1_1 : Int), (L_r21_Of_1 N a1 a2 m v1_0 v1_1).bind (fun q => (K_r21_Of_1 N q).bind some) = some r ∧ t = (mk 22 [(0, (.sl (a1.map ApiEntry.v))), (1, (i64 a2)), (5, (i64 v1_0)), (6, (i64 v1_1))]) ∧ s = []) N ⟨0, 0, go_assoc h, rfl, rfl⟩ ?_
  intro m1 J1 hJ1 t s
  rintro ⟨v1_0, v1_1, h, rfl, rfl⟩
  cases m1 with
  | zero => exact absurd h (by simp [L_r21_Of_1])
  | succ m1 =>
    rw [L_r21_Of_1] at h
    refine gx mo [.pc p40_6, .pc p40_11, .jp J1, .blk 0, .pc p40_18] 22 [(0, (.sl (a1.map ApiEntry.v))), (1, (i64 a2)), (5, (i64 v1_0)), (6, (i64 v1_1)), (10, (.bool (decide (v1_1 < (a1.length : Int)))))] [] 8 [tw 2 (E_len [] a1 ApiEntry.v)] ?_
    refine go_if h (fun hb6 h => ?_) (fun hb6 h => ?_)
    · rw [hb6]
      refine go_bind h (fun y7 hy7 h => ?_)
      refine go_bind h (fun r8 hr8 h => ?_)
      refine gx mo [.jp J1, .blk 0, .pc p40_18] 22 [(0, (.sl (a1.map ApiEntry.v))), (1, (i64 a2)), (5, (i64 (IntKind.wrap .i64 (v1_0 + r8)))), (6, (i64 (IntKind.wrap .i64 (v1_1 + 1))))] [] 21 [tw 4 (E_ia [] ApiEntry.v .i64 hy7), tc 7 [] (P_r21_moved hr8) (fg (fs fl_nil))] ?_
      exact go_back rfl (hJ1 m1 _ _ (Nat.lt_succ_self m1) ⟨IntKind.wrap .i64 (v1_0 + r8), IntKind.wrap .i64 (v1_1 + 1), h, rfl, rfl⟩)
    · rw [hb6]
      refine gx mo [.pc p40_18] 22 [(5, (i64 v1_0))] [] 2 [] ?_
      exact kont1_0 v1_0 h
/-! corebank/corebankref22.Total -/
def p47_21 : PC := .ret
def p47_22 : PC := (.seq (.reg (om 47 7 :: om 6 47 :: [])) p47_21)
def p47_14 : PC := (.reg (om 13 8 :: oo 14 (.bin .add .other true (.t 13) (.c (.int .i64 1))) :: om 8 14 :: []))
def p47_11 : PC := (.cond (.t 39) (.reg (om 40 7 :: om 41 0 :: om 42 8 :: oo 43 (.ia 6 (.t 41) (.t 42)) :: oo 44 (.fa 2 (.t 43)) :: oo 45 (.ld1 (.t 44)) :: oo 46 (.bin .add .other false (.t 40) (.t 45)) :: om 7 46 :: [])) .skip)
def p47_15 : PC := (.seq (.block 1 (.seq (.reg (om 15 0 :: om 16 8 :: oo 17 (.ia 6 (.t 15) (.t 16)) :: oo 18 (.fa 1 (.t 17)) :: oo 19 (.ld1 (.t 18)) :: om 20 1 :: oo 21 (.bin .eql .other false (.t 19) (.t 20)) :: om 22 21 :: ⟨some 23, .op (.mv (.t 2)), some (22, true)⟩ :: ⟨some 24, .op (.mv (.t 0)), some (22, true)⟩ :: ⟨some 25, .op (.mv (.t 8)), some (22, true)⟩ :: ⟨some 26, .op (.ia 6 (.t 24) (.t 25)), some (22, true)⟩ :: ⟨some 27, .op (.fa 3 (.t 26)), some (22, true)⟩ :: ⟨some 28, .op (.ld1 (.t 27)), some (22, true)⟩ :: ⟨some 29, .op (.bin .geq .other false (.t 23) (.t 28)), some (22, true)⟩ :: oo 30 (.pick (.t 22) (.t 29) (.c (.bool false))) :: om 31 30 :: ⟨some 32, .op (.mv (.t 2)), some (31, true)⟩ :: ⟨some 33, .op (.mv (.t 0)), some (31, true)⟩ :: ⟨some 34, .op (.mv (.t 8)), some (31, true)⟩ :: ⟨some 35, .op (.ia 6 (.t 33) (.t 34)), some (31, true)⟩ :: ⟨some 36, .op (.fa 4 (.t 35)), some (31, true)⟩ :: ⟨some 37, .op (.ld1 (.t 36)), some (31, true)⟩ :: ⟨some 38, .op (.bin .leq .other false (.t 32) (.t 37)), some (31, true)⟩ :: oo 39 (.pick (.t 31) (.t 38) (.c (.bool false))) :: [])) p47_11)) p47_14)
def p47_6 : PC := (.cond (.t 12) .skip (.exit 0))
def p47_17 : PC := (.loop (.seq (.seq (.reg (om 9 8 :: om 10 0 :: oo 11 (.len .slice (.t 10)) :: oo 12 (.bin .lss .other false (.t 9) (.t 11)) :: [])) p47_6) p47_15))
def p47_25 : PC := (.seq (.reg (oo 6 (.mv (.c (.int .i64 0))) :: [])) (.seq (.reg (oo 7 (.mv (.c (.int .i64 0))) :: [])) (.seq (.seq (.reg (oo 8 (.mv (.c (.int .i64 0))) :: [])) (.block 0 p47_17)) p47_22)))
theorem fn47 : FnOk Tryz.prog 47 p47_25 48 [.t 6] := ⟨false, Tryz.f47, _, Tryz.func47, by decide, rfl, by kernel_rfl, rfl, by kernel_rfl⟩
def L_r22_Total_1 (N : Nat) (a1 : List ApiHold) (a2 : Int) (a3 : Int) : Nat → Int → Int → Option (Int)
  | 0, _, _ => none
  | m1 + 1, v1_0, v1_1 =>
    bif decide (v1_1 < (a1.length : Int)) then
    ((getI a1 v1_1).bind fun y13 =>
    bif decide (y13.Account_ = a2) then
    ((getI a1 v1_1).bind fun y15 =>
    bif decide (y15.From_ ≤ a3) then
    ((getI a1 v1_1).bind fun y17 =>
    bif decide (a3 ≤ y17.To_) then
    ((getI a1 v1_1).bind fun y19 =>
    (L_r22_Total_1 N a1 a2 a3 m1) (IntKind.wrap .i64 (v1_0 + y19.Amount_)) (IntKind.wrap .i64 (v1_1 + 1)))
    else
    ((L_r22_Total_1 N a1 a2 a3 m1) v1_0 (IntKind.wrap .i64 (v1_1 + 1))))
    else
    ((L_r22_Total_1 N a1 a2 a3 m1) v1_0 (IntKind.wrap .i64 (v1_1 + 1))))
    else
    ((L_r22_Total_1 N a1 a2 a3 m1) v1_0 (IntKind.wrap .i64 (v1_1 + 1))))
    else
    (some v1_0)
def K_r22_Total_1 (N : Nat)  : (Int) → Option (Int)
  | x1_0 =>
    some x1_0
def F_r22_Total  (N : Nat) (a1 : List ApiHold) (a2 : Int) (a3 : Int) : Option (Int) :=
      (L_r22_Total_1 N a1 a2 a3 N 0 0).bind (K_r22_Total_1 N)
theorem P_r22_Total  {N : Nat} {a1 : List ApiHold} {a2 : Int} {a3 : Int} {r : Int} (h : F_r22_Total N a1 a2 a3 = some r) : Pure Tryz.prog (Gl.at 0) 47 [(.sl (a1.map ApiHold.v)), (i64 a2), (i64 a3)] (i64 r) := by
  refine pure_run fn47 ?_
  rw [F_r22_Total] at h
  replace h := bs h
  change GG [.t 6] _ [.pc p47_25] (mk 48 [(0, (.sl (a1.map ApiHold.v))), (1, (i64 a2)), (2, (i64 a3))]) []
  refine gx mo [.pc p47_17, .blk 0, .pc p47_22] 48 [(0, (.sl (a1.map ApiHold.v))), (1, (i64 a2)), (2, (i64 a3)), (7, (i64 0)), (8, (i64 0))] [] 14 [] ?_
  refine go_cut (X := Int) (fun x => (K_r22_Total_1 N x).bind some = some r) ([.pc p47_22]) (fun x => (mk 48 [(7, (i64 x))])) (fun x => []) ?_ fun kont1_0 => ?_
  · rintro x1_0 h
    rw [K_r22_Total_1] at h
    refine gx mo [.pc p47_21] 48 [(6, (i64 x1_0))] [] 5 [] ?_
    obtain rfl := Option.some.inj h
    exact gf (i64 x1_0) (.same rfl)
  refine go_loop' (fun m t s => ∃ (v1_0 : Int) (v1_1 : Int), (L_r22_Total_1 N a1 a2 a3 m v1_0 v1_1).bind (fun q => (K_r22_Total_1 N q).bind some) = some r ∧ t = (mk 48 [(0, (.sl (a1.map ApiHold.v))), (1, (i64 a2)), (2, (i64 a3)), (7, (i64 v1_0)), (8, (i64 v1_1))]) ∧ s = []) N ⟨0, 0, go_assoc h, rfl, rfl⟩ ?_
  intro m1 J1 hJ1 t s
  rintro ⟨v1_0, v1_1, h, rfl, rfl⟩
  cases m1 with
  | zero => exact absurd h (by simp [L_r22_Total_1])
  | succ m1 =>
    rw [L_r22_Total_1] at h
    refine gx mo [.pc p47_6, .pc p47_15, .jp J1, .blk 0, .pc p47_22] 48 [(0, (.sl (a1.map ApiHold.v))), (1, (i64 a2)), (2, (i64 a3)), (7, (i64 v1_0)), (8, (i64 v1_1)), (12, (.bool (decide (v1_1 < (a1.length : Int)))))] [] 8 [tw 2 (E_len [] a1 ApiHold.v)] ?_
    refine go_if h (fun hb12 h => ?_) (fun hb12 h => ?_)
    · rw [hb12]
      refine go_bind h (fun y13 hy13 h => ?_)
      refine go_if h (fun hb14 h => ?_) (fun hb14 h => ?_)
      · refine go_bind h (fun y15 hy15 h => ?_)
        refine go_if h (fun hb16 h => ?_) (fun hb16 h => ?_)
        · refine go_bind h (fun y17 hy17 h => ?_)
          refine gx mo [.pc p47_11, .blk 1, .pc p47_14, .jp J1, .blk 0, .pc p47_22] 48 [(0, (.sl (a1.map ApiHold.v))), (1, (i64 a2)), (2, (i64 a3)), (7, (i64 v1_0)), (8, (i64 v1_1)), (39, (.bool (decide (a3 ≤ y17.To_))))] [] 32 [tw 3 (E_ia [] ApiHold.v .i64 hy13), twb 7 [] (.bin .eql .other false (.c (i64 y13.Account_)) (.c (i64 a2))) (decide (y13.Account_ = a2)) true hb14, tw 12 (E_ia [] ApiHold.v .i64 hy15), twb 16 [] (.pick (.c (.bool true)) (.c (.bool (decide (y15.From_ ≤ a3)))) (.c (.bool false))) (decide (y15.From_ ≤ a3)) true hb16, tw 21 (E_ia [] ApiHold.v .i64 hy17)] ?_
          refine go_if h (fun hb18 h => ?_) (fun hb18 h => ?_)
          · rw [hb18]
            refine go_bind h (fun y19 hy19 h => ?_)
            refine gx mo [.jp J1, .blk 0, .pc p47_22] 48 [(0, (.sl (a1.map ApiHold.v))), (1, (i64 a2)), (2, (i64 a3)), (7, (i64 (IntKind.wrap .i64 (v1_0 + y19.Amount_)))), (8, (i64 (IntKind.wrap .i64 (v1_1 + 1))))] [] 17 [tw 4 (E_ia [] ApiHold.v .i64 hy19)] ?_
            exact go_back rfl (hJ1 m1 _ _ (Nat.lt_succ_self m1) ⟨IntKind.wrap .i64 (v1_0 + y19.Amount_), IntKind.wrap .i64 (v1_1 + 1), h, rfl, rfl⟩)
          · rw [hb18]
            refine gx mo [.jp J1, .blk 0, .pc p47_22] 48 [(0, (.sl (a1.map ApiHold.v))), (1, (i64 a2)), (2, (i64 a3)), (7, (i64 v1_0)), (8, (i64 (IntKind.wrap .i64 (v1_1 + 1))))] [] 8 [] ?_
            exact go_back rfl (hJ1 m1 _ _ (Nat.lt_succ_self m1) ⟨v1_0, IntKind.wrap .i64 (v1_1 + 1), h, rfl, rfl⟩)
        · refine gx mo [.jp J1, .blk 0, .pc p47_22] 48 [(0, (.sl (a1.map ApiHold.v))), (1, (i64 a2)), (2, (i64 a3)), (7, (i64 v1_0)), (8, (i64 (IntKind.wrap .i64 (v1_1 + 1))))] [] 40 [tw 3 (E_ia [] ApiHold.v .i64 hy13), twb 7 [] (.bin .eql .other false (.c (i64 y13.Account_)) (.c (i64 a2))) (decide (y13.Account_ = a2)) true hb14, tw 12 (E_ia [] ApiHold.v .i64 hy15), twb 16 [] (.pick (.c (.bool true)) (.c (.bool (decide (y15.From_ ≤ a3)))) (.c (.bool false))) (decide (y15.From_ ≤ a3)) false hb16] ?_
          exact go_back rfl (hJ1 m1 _ _ (Nat.lt_succ_self m1) ⟨v1_0, IntKind.wrap .i64 (v1_1 + 1), h, rfl, rfl⟩)
      · refine gx mo [.jp J1, .blk 0, .pc p47_22] 48 [(0, (.sl (a1.map ApiHold.v))), (1, (i64 a2)), (2, (i64 a3)), (7, (i64 v1_0)), (8, (i64 (IntKind.wrap .i64 (v1_1 + 1))))] [] 40 [tw 3 (E_ia [] ApiHold.v .i64 hy13), twb 7 [] (.bin .eql .other false (.c (i64 y13.Account_)) (.c (i64 a2))) (decide (y13.Account_ = a2)) false hb14] ?_
        exact go_back rfl (hJ1 m1 _ _ (Nat.lt_succ_self m1) ⟨v1_0, IntKind.wrap .i64 (v1_1 + 1), h, rfl, rfl⟩)
    · rw [hb12]
      refine gx mo [.pc p47_22] 48 [(7, (i64 v1_0))] [] 2 [] ?_
      exact kont1_0 v1_0 h
/-! corebank/corebankref23.Active -/
def p70_21 : PC := .ret
def p70_22 : PC := (.seq (.reg (om 48 7 :: om 6 48 :: [])) p70_21)
def p70_14 : PC := (.reg (om 14 8 :: oo 15 (.bin .add .other true (.t 14) (.c (.int .i64 1))) :: om 8 15 :: []))
def p70_11 : PC := (.cond (.t 40) (.reg (om 41 7 :: om 42 0 :: om 43 8 :: oo 44 (.ia 7 (.t 42) (.t 43)) :: oo 45 (.ldA 7 (.t 44)) :: oo 46 (.lit (.agg [.int .i64 0, .int .i64 0, .int .i64 0, .int .i64 0, .int .i64 0, .int .i64 0, .str []]) 1 [(0, .t 45)]) :: oo 47 (.app 7 64 (.t 41) (.t 46)) :: om 7 47 :: [])) .skip)
def p70_15 : PC := (.seq (.block 1 (.seq (.reg (om 16 0 :: om 17 8 :: oo 18 (.ia 7 (.t 16) (.t 17)) :: oo 19 (.fa 1 (.t 18)) :: oo 20 (.ld1 (.t 19)) :: om 21 1 :: oo 22 (.bin .eql .other false (.t 20) (.t 21)) :: om 23 22 :: ⟨some 24, .op (.mv (.t 0)), some (23, true)⟩ :: ⟨some 25, .op (.mv (.t 8)), some (23, true)⟩ :: ⟨some 26, .op (.ia 7 (.t 24) (.t 25)), some (23, true)⟩ :: ⟨some 27, .op (.fa 4 (.t 26)), some (23, true)⟩ :: ⟨some 28, .op (.ld1 (.t 27)), some (23, true)⟩ :: ⟨some 29, .op (.mv (.t 2)), some (23, true)⟩ :: ⟨some 30, .op (.bin .leq .other false (.t 28) (.t 29)), some (23, true)⟩ :: oo 31 (.pick (.t 23) (.t 30) (.c (.bool false))) :: om 32 31 :: ⟨some 33, .op (.mv (.t 2)), some (32, true)⟩ :: ⟨some 34, .op (.mv (.t 0)), some (32, true)⟩ :: ⟨some 35, .op (.mv (.t 8)), some (32, true)⟩ :: ⟨some 36, .op (.ia 7 (.t 34) (.t 35)), some (32, true)⟩ :: ⟨some 37, .op (.fa 5 (.t 36)), some (32, true)⟩ :: ⟨some 38, .op (.ld1 (.t 37)), some (32, true)⟩ :: ⟨some 39, .op (.bin .leq .other false (.t 33) (.t 38)), some (32, true)⟩ :: oo 40 (.pick (.t 32) (.t 39) (.c (.bool false))) :: [])) p70_11)) p70_14)
def p70_6 : PC := (.cond (.t 13) .skip (.exit 0))
def p70_17 : PC := (.loop (.seq (.seq (.reg (om 10 8 :: om 11 0 :: oo 12 (.len .slice (.t 11)) :: oo 13 (.bin .lss .other false (.t 10) (.t 12)) :: [])) p70_6) p70_15))
def p70_25 : PC := (.seq (.reg (oo 6 (.mv (.c .nils)) :: [])) (.seq (.reg (oo 9 (.lit (.agg [.int .i64 0, .int .i64 0, .int .i64 0, .int .i64 0, .int .i64 0, .int .i64 0, .str []]) 0 []) :: om 7 9 :: [])) (.seq (.seq (.reg (oo 8 (.mv (.c (.int .i64 0))) :: [])) (.block 0 p70_17)) p70_22)))
theorem fn70 : FnOk Tryz.prog 70 p70_25 49 [.t 6] := ⟨false, Tryz.f70, _, Tryz.func70, by decide, rfl, by kernel_rfl, rfl, by kernel_rfl⟩
def L_r23_Active_1 (N : Nat) (a1 : List ApiBlock) (a2 : Int) (a3 : Int) : Nat → (List ApiBlock) → Int → Option ((List ApiBlock))
  | 0, _, _ => none
  | m1 + 1, v1_0, v1_1 =>
    bif decide (v1_1 < (a1.length : Int)) then
    ((getI a1 v1_1).bind fun y14 =>
    bif decide (y14.Account_ = a2) then
    ((getI a1 v1_1).bind fun y16 =>
    bif decide (y16.From_ ≤ a3) then
    ((getI a1 v1_1).bind fun y18 =>
    bif decide (a3 ≤ y18.To_) then
    ((getI a1 v1_1).bind fun y20 =>
    (appI 64 v1_0 ([y20] : List ApiBlock)).bind fun l21 =>
    (L_r23_Active_1 N a1 a2 a3 m1) l21 (IntKind.wrap .i64 (v1_1 + 1)))
    else
    ((L_r23_Active_1 N a1 a2 a3 m1) v1_0 (IntKind.wrap .i64 (v1_1 + 1))))
    else
    ((L_r23_Active_1 N a1 a2 a3 m1) v1_0 (IntKind.wrap .i64 (v1_1 + 1))))
    else
    ((L_r23_Active_1 N a1 a2 a3 m1) v1_0 (IntKind.wrap .i64 (v1_1 + 1))))
    else
    (some v1_0)
def K_r23_Active_1 (N : Nat)  : ((List ApiBlock)) → Option ((List ApiBlock))
  | x1_0 =>
    some x1_0
def F_r23_Active  (N : Nat) (a1 : List ApiBlock) (a2 : Int) (a3 : Int) : Option ((List ApiBlock)) :=
      (L_r23_Active_1 N a1 a2 a3 N [] 0).bind (K_r23_Active_1 N)
theorem P_r23_Active  {N : Nat} {a1 : List ApiBlock} {a2 : Int} {a3 : Int} {r : (List ApiBlock)} (h : F_r23_Active N a1 a2 a3 = some r) : Pure Tryz.prog (Gl.at 0) 70 [(.sl (a1.map ApiBlock.v)), (i64 a2), (i64 a3)] (.sl (r.map ApiBlock.v)) := by
  refine pure_run fn70 ?_
  rw [F_r23_Active] at h
  replace h := bs h
  change GG [.t 6] _ [.pc p70_25] (mk 49 [(0, (.sl (a1.map ApiBlock.v))), (1, (i64 a2)), (2, (i64 a3))]) []
  refine gx mo [.pc p70_17, .blk 0, .pc p70_22] 49 [(0, (.sl (a1.map ApiBlock.v))), (1, (i64 a2)), (2, (i64 a3)), (7, .cap0), (8, (i64 0))] [] 15 [] ?_
  refine go_cut (X := (List ApiBlock)) (fun x => x = [] ∧ (K_r23_Active_1 N x).bind some = some r) ([.pc p70_22]) (fun x => (mk 49 [(7, .cap0)])) (fun x => []) ?_ fun kont1_0 => ?_
  · rintro x1_0 ⟨hx0, h⟩
    obtain rfl : x1_0 = [] := hx0
    rw [K_r23_Active_1] at h
    refine gx mo [.pc p70_21] 49 [(6, .cap0)] [] 5 [] ?_
    obtain rfl := Option.some.inj h
    exact gf .cap0 .cap0
  refine go_cut (X := (List ApiBlock)) (fun x => (K_r23_Active_1 N x).bind some = some r) ([.pc p70_22]) (fun x => (mk 49 [(7, (.osl 0 0 x.length))])) (fun x => [.row 7 (x.map ApiBlock.v)]) ?_ fun kont1_1 => ?_
  · rintro x1_0 h
    rw [K_r23_Active_1] at h
    refine gx mo [.pc p70_21] 49 [(6, (.osl 0 0 x1_0.length))] [.row 7 (x1_0.map ApiBlock.v)] 5 [] ?_
    obtain rfl := Option.some.inj h
    exact gf (.osl 0 0 x1_0.length) (f_osl (c := 0) rfl (fun _ => rfl) (fun _ => rfl) rfl)
  refine go_loop' (fun m t s => ∃ (v1_0 : List ApiBlock) (v1_1 : Int), (L_r23_Active_1 N a1 a2 a3 m v1_0 v1_1).bind (fun q => (K_r23_Active_1 N q).bind some) = some r ∧ ((v1_0 = [] ∧ t = (mk 49 [(0, (.sl (a1.map ApiBlock.v))), (1, (i64 a2)), (2, (i64 a3)), (7, .cap0), (8, (i64 v1_1))]) ∧ s = []) ∨ (t = (mk 49 [(0, (.sl (a1.map ApiBlock.v))), (1, (i64 a2)), (2, (i64 a3)), (7, (.osl 0 0 v1_0.length)), (8, (i64 v1_1))]) ∧ s = [.row 7 (v1_0.map ApiBlock.v)]))) N ⟨[], 0, go_assoc h, .inl ⟨rfl, rfl, rfl⟩⟩ ?_
  intro m1 J1 hJ1 t s
  rintro ⟨v1_0, v1_1, h, hsh⟩
  cases m1 with
  | zero => exact absurd h (by simp [L_r23_Active_1])
  | succ m1 =>
    rw [L_r23_Active_1] at h
    rcases hsh with ⟨rfl, rfl, rfl⟩ | ⟨rfl, rfl⟩
    · refine gx mo [.pc p70_6, .pc p70_15, .jp J1, .blk 0, .pc p70_22] 49 [(0, (.sl (a1.map ApiBlock.v))), (1, (i64 a2)), (2, (i64 a3)), (7, .cap0), (8, (i64 v1_1)), (13, (.bool (decide (v1_1 < (a1.length : Int)))))] [] 8 [tw 2 (E_len [] a1 ApiBlock.v)] ?_
      refine go_if h (fun hb13 h => ?_) (fun hb13 h => ?_)
      · rw [hb13]
        refine go_bind h (fun y14 hy14 h => ?_)
        refine go_if h (fun hb15 h => ?_) (fun hb15 h => ?_)
        · refine go_bind h (fun y16 hy16 h => ?_)
          refine go_if h (fun hb17 h => ?_) (fun hb17 h => ?_)
          · refine go_bind h (fun y18 hy18 h => ?_)
            refine gx mo [.pc p70_11, .blk 1, .pc p70_14, .jp J1, .blk 0, .pc p70_22] 49 [(0, (.sl (a1.map ApiBlock.v))), (1, (i64 a2)), (2, (i64 a3)), (7, .cap0), (8, (i64 v1_1)), (40, (.bool (decide (a3 ≤ y18.To_))))] [] 32 [tw 3 (E_ia [] ApiBlock.v .i64 hy14), twb 7 [] (.bin .eql .other false (.c (i64 y14.Account_)) (.c (i64 a2))) (decide (y14.Account_ = a2)) true hb15, tw 11 (E_ia [] ApiBlock.v .i64 hy16), twb 16 [] (.pick (.c (.bool true)) (.c (.bool (decide (y16.From_ ≤ a3)))) (.c (.bool false))) (decide (y16.From_ ≤ a3)) true hb17, tw 21 (E_ia [] ApiBlock.v .i64 hy18)] ?_
            refine go_if h (fun hb19 h => ?_) (fun hb19 h => ?_)
            · rw [hb19]
              refine go_bind h (fun y20 hy20 h => ?_)
              refine go_bind h (fun l21 hl21 h => ?_)
              refine gx mo [.jp J1, .blk 0, .pc p70_22] 49 [(0, (.sl (a1.map ApiBlock.v))), (1, (i64 a2)), (2, (i64 a3)), (7, (.osl 0 0 l21.length)), (8, (i64 (IntKind.wrap .i64 (v1_1 + 1))))] [.row 7 (l21.map ApiBlock.v)] 17 [tw 4 (E_ia [] ApiBlock.v .i64 hy20), tw 7 (s := []) (s' := [.row 7 (l21.map ApiBlock.v)]) (q := (.app 7 64 (.c .cap0) (.c (.sl [(ApiBlock.v y20)])))) (v := (.osl 0 0 l21.length)) (e_app0 (f := ApiBlock.v) (ys := ([y20] : List ApiBlock)) (.inr rfl) (fun _ => rfl) (fun _ => rfl) rfl hl21)] ?_
              exact go_back rfl (hJ1 m1 _ _ (Nat.lt_succ_self m1) ⟨l21, IntKind.wrap .i64 (v1_1 + 1), h, .inr (⟨rfl, rfl⟩)⟩)
            · rw [hb19]
              refine gx mo [.jp J1, .blk 0, .pc p70_22] 49 [(0, (.sl (a1.map ApiBlock.v))), (1, (i64 a2)), (2, (i64 a3)), (7, .cap0), (8, (i64 (IntKind.wrap .i64 (v1_1 + 1))))] [] 8 [] ?_
              exact go_back rfl (hJ1 m1 _ _ (Nat.lt_succ_self m1) ⟨[], IntKind.wrap .i64 (v1_1 + 1), h, .inl ⟨rfl, rfl, rfl⟩⟩)
          · refine gx mo [.jp J1, .blk 0, .pc p70_22] 49 [(0, (.sl (a1.map ApiBlock.v))), (1, (i64 a2)), (2, (i64 a3)), (7, .cap0), (8, (i64 (IntKind.wrap .i64 (v1_1 + 1))))] [] 40 [tw 3 (E_ia [] ApiBlock.v .i64 hy14), twb 7 [] (.bin .eql .other false (.c (i64 y14.Account_)) (.c (i64 a2))) (decide (y14.Account_ = a2)) true hb15, tw 11 (E_ia [] ApiBlock.v .i64 hy16), twb 16 [] (.pick (.c (.bool true)) (.c (.bool (decide (y16.From_ ≤ a3)))) (.c (.bool false))) (decide (y16.From_ ≤ a3)) false hb17] ?_
            exact go_back rfl (hJ1 m1 _ _ (Nat.lt_succ_self m1) ⟨[], IntKind.wrap .i64 (v1_1 + 1), h, .inl ⟨rfl, rfl, rfl⟩⟩)
        · refine gx mo [.jp J1, .blk 0, .pc p70_22] 49 [(0, (.sl (a1.map ApiBlock.v))), (1, (i64 a2)), (2, (i64 a3)), (7, .cap0), (8, (i64 (IntKind.wrap .i64 (v1_1 + 1))))] [] 40 [tw 3 (E_ia [] ApiBlock.v .i64 hy14), twb 7 [] (.bin .eql .other false (.c (i64 y14.Account_)) (.c (i64 a2))) (decide (y14.Account_ = a2)) false hb15] ?_
          exact go_back rfl (hJ1 m1 _ _ (Nat.lt_succ_self m1) ⟨[], IntKind.wrap .i64 (v1_1 + 1), h, .inl ⟨rfl, rfl, rfl⟩⟩)
      · rw [hb13]
        refine gx mo [.pc p70_22] 49 [(7, .cap0)] [] 2 [] ?_
        exact kont1_0 [] ⟨rfl, h⟩
    · refine gx mo [.pc p70_6, .pc p70_15, .jp J1, .blk 0, .pc p70_22] 49 [(0, (.sl (a1.map ApiBlock.v))), (1, (i64 a2)), (2, (i64 a3)), (7, (.osl 0 0 v1_0.length)), (8, (i64 v1_1)), (13, (.bool (decide (v1_1 < (a1.length : Int)))))] [.row 7 (v1_0.map ApiBlock.v)] 8 [tw 2 (E_len [.row 7 (v1_0.map ApiBlock.v)] a1 ApiBlock.v)] ?_
      refine go_if h (fun hb13 h => ?_) (fun hb13 h => ?_)
      · rw [hb13]
        refine go_bind h (fun y14 hy14 h => ?_)
        refine go_if h (fun hb15 h => ?_) (fun hb15 h => ?_)
        · refine go_bind h (fun y16 hy16 h => ?_)
          refine go_if h (fun hb17 h => ?_) (fun hb17 h => ?_)
          · refine go_bind h (fun y18 hy18 h => ?_)
            refine gx mo [.pc p70_11, .blk 1, .pc p70_14, .jp J1, .blk 0, .pc p70_22] 49 [(0, (.sl (a1.map ApiBlock.v))), (1, (i64 a2)), (2, (i64 a3)), (7, (.osl 0 0 v1_0.length)), (8, (i64 v1_1)), (40, (.bool (decide (a3 ≤ y18.To_))))] [.row 7 (v1_0.map ApiBlock.v)] 32 [tw 3 (E_ia [.row 7 (v1_0.map ApiBlock.v)] ApiBlock.v .i64 hy14), twb 7 [.row 7 (v1_0.map ApiBlock.v)] (.bin .eql .other false (.c (i64 y14.Account_)) (.c (i64 a2))) (decide (y14.Account_ = a2)) true hb15, tw 11 (E_ia [.row 7 (v1_0.map ApiBlock.v)] ApiBlock.v .i64 hy16), twb 16 [.row 7 (v1_0.map ApiBlock.v)] (.pick (.c (.bool true)) (.c (.bool (decide (y16.From_ ≤ a3)))) (.c (.bool false))) (decide (y16.From_ ≤ a3)) true hb17, tw 21 (E_ia [.row 7 (v1_0.map ApiBlock.v)] ApiBlock.v .i64 hy18)] ?_
            refine go_if h (fun hb19 h => ?_) (fun hb19 h => ?_)
            · rw [hb19]
              refine go_bind h (fun y20 hy20 h => ?_)
              refine go_bind h (fun l21 hl21 h => ?_)
              refine gx mo [.jp J1, .blk 0, .pc p70_22] 49 [(0, (.sl (a1.map ApiBlock.v))), (1, (i64 a2)), (2, (i64 a3)), (7, (.osl 1 0 l21.length)), (8, (i64 (IntKind.wrap .i64 (v1_1 + 1))))] [.dead, .row 7 (l21.map ApiBlock.v)] 17 [tw 4 (E_ia [.row 7 (v1_0.map ApiBlock.v)] ApiBlock.v .i64 hy20), tw 7 (s := [.row 7 (v1_0.map ApiBlock.v)]) (s' := [.dead, .row 7 (l21.map ApiBlock.v)]) (q := (.app 7 64 (.c (.osl 0 0 v1_0.length)) (.c (.sl [(ApiBlock.v y20)])))) (v := (.osl 1 0 l21.length)) (e_app (f := ApiBlock.v) (ys := ([y20] : List ApiBlock)) rfl (fun _ => rfl) (fun _ => rfl) rfl hl21 rfl)] ?_
              refine go_pick [1] [] [(0, 0), (1, 0), (2, 0), (7, 0), (8, 0)] (t' := (mk 49 [(0, (.sl (a1.map ApiBlock.v))), (1, (i64 a2)), (2, (i64 a3)), (7, (.osl 0 0 l21.length)), (8, (i64 (IntKind.wrap .i64 (v1_1 + 1))))])) (s' := [.row 7 (l21.map ApiBlock.v)]) (by kernel_rfl) ⟨clo_map (fun _ => rfl) _, trivial⟩ rfl ?_
              exact go_back rfl (hJ1 m1 _ _ (Nat.lt_succ_self m1) ⟨l21, IntKind.wrap .i64 (v1_1 + 1), h, .inr (⟨rfl, rfl⟩)⟩)
            · rw [hb19]
              refine gx mo [.jp J1, .blk 0, .pc p70_22] 49 [(0, (.sl (a1.map ApiBlock.v))), (1, (i64 a2)), (2, (i64 a3)), (7, (.osl 0 0 v1_0.length)), (8, (i64 (IntKind.wrap .i64 (v1_1 + 1))))] [.row 7 (v1_0.map ApiBlock.v)] 8 [] ?_
              exact go_back rfl (hJ1 m1 _ _ (Nat.lt_succ_self m1) ⟨v1_0, IntKind.wrap .i64 (v1_1 + 1), h, .inr (⟨rfl, rfl⟩)⟩)
          · refine gx mo [.jp J1, .blk 0, .pc p70_22] 49 [(0, (.sl (a1.map ApiBlock.v))), (1, (i64 a2)), (2, (i64 a3)), (7, (.osl 0 0 v1_0.length)), (8, (i64 (IntKind.wrap .i64 (v1_1 + 1))))] [.row 7 (v1_0.map ApiBlock.v)] 40 [tw 3 (E_ia [.row 7 (v1_0.map ApiBlock.v)] ApiBlock.v .i64 hy14), twb 7 [.row 7 (v1_0.map ApiBlock.v)] (.bin .eql .other false (.c (i64 y14.Account_)) (.c (i64 a2))) (decide (y14.Account_ = a2)) true hb15, tw 11 (E_ia [.row 7 (v1_0.map ApiBlock.v)] ApiBlock.v .i64 hy16), twb 16 [.row 7 (v1_0.map ApiBlock.v)] (.pick (.c (.bool true)) (.c (.bool (decide (y16.From_ ≤ a3)))) (.c (.bool false))) (decide (y16.From_ ≤ a3)) false hb17] ?_
            exact go_back rfl (hJ1 m1 _ _ (Nat.lt_succ_self m1) ⟨v1_0, IntKind.wrap .i64 (v1_1 + 1), h, .inr (⟨rfl, rfl⟩)⟩)
        · refine gx mo [.jp J1, .blk 0, .pc p70_22] 49 [(0, (.sl (a1.map ApiBlock.v))), (1, (i64 a2)), (2, (i64 a3)), (7, (.osl 0 0 v1_0.length)), (8, (i64 (IntKind.wrap .i64 (v1_1 + 1))))] [.row 7 (v1_0.map ApiBlock.v)] 40 [tw 3 (E_ia [.row 7 (v1_0.map ApiBlock.v)] ApiBlock.v .i64 hy14), twb 7 [.row 7 (v1_0.map ApiBlock.v)] (.bin .eql .other false (.c (i64 y14.Account_)) (.c (i64 a2))) (decide (y14.Account_ = a2)) false hb15] ?_
          exact go_back rfl (hJ1 m1 _ _ (Nat.lt_succ_self m1) ⟨v1_0, IntKind.wrap .i64 (v1_1 + 1), h, .inr (⟨rfl, rfl⟩)⟩)
      · rw [hb13]
        refine gx mo [.pc p70_22] 49 [(7, (.osl 0 0 v1_0.length))] [.row 7 (v1_0.map ApiBlock.v)] 2 [] ?_
        exact kont1_1 v1_0 h
/-! corebank/corebankref23.Reserved -/
def p48_22 : PC := .ret
def p48_23 : PC := (.seq (.reg (om 33 8 :: om 6 33 :: [])) p48_22)
def p48_15 : PC := (.reg (om 18 9 :: oo 19 (.bin .add .other true (.t 18) (.c (.int .i64 1))) :: om 9 19 :: []))
def p48_12 : PC := (.cond (.t 25) (.reg (om 26 8 :: om 27 7 :: om 28 9 :: oo 29 (.ia 7 (.t 27) (.t 28)) :: oo 30 (.fa 3 (.t 29)) :: oo 31 (.ld1 (.t 30)) :: oo 32 (.bin .add .other false (.t 26) (.t 31)) :: om 8 32 :: [])) .skip)
def p48_16 : PC := (.seq (.block 1 (.seq (.reg (om 20 7 :: om 21 9 :: oo 22 (.ia 7 (.t 20) (.t 21)) :: oo 23 (.fa 2 (.t 22)) :: oo 24 (.ld1 (.t 23)) :: oo 25 (.bin .eql .other true (.t 24) (.c (.int .i64 4))) :: [])) p48_12)) p48_15)
def p48_7 : PC := (.cond (.t 17) .skip (.exit 0))
def p48_18 : PC := (.loop (.seq (.seq (.reg (om 14 9 :: om 15 7 :: oo 16 (.len .slice (.t 15)) :: oo 17 (.bin .lss .other false (.t 14) (.t 16)) :: [])) p48_7) p48_16))
def p48_27 : PC := (.seq (.reg (oo 6 (.mv (.c (.int .i64 0))) :: [])) (.seq (.reg (om 10 0 :: om 11 1 :: om 12 2 :: ⟨some 13, .call 70 [.t 10, .t 11, .t 12], none⟩ :: om 7 13 :: [])) (.seq (.reg (oo 8 (.mv (.c (.int .i64 0))) :: [])) (.seq (.seq (.reg (oo 9 (.mv (.c (.int .i64 0))) :: [])) (.block 0 p48_18)) p48_23))))
theorem fn48 : FnOk Tryz.prog 48 p48_27 34 [.t 6] := ⟨false, Tryz.f48, _, Tryz.func48, by decide, rfl, by kernel_rfl, rfl, by kernel_rfl⟩
def L_r23_Reserved_1 (N : Nat) (r4 : (List ApiBlock)) : Nat → Int → Int → Option (Int)
  | 0, _, _ => none
  | m1 + 1, v1_0, v1_1 =>
    bif decide (v1_1 < (r4.length : Int)) then
    ((getI r4 v1_1).bind fun y10 =>
    bif decide (y10.Kind_ = 4) then
    ((getI r4 v1_1).bind fun y12 =>
    (L_r23_Reserved_1 N r4 m1) (IntKind.wrap .i64 (v1_0 + y12.Amount_)) (IntKind.wrap .i64 (v1_1 + 1)))
    else
    ((L_r23_Reserved_1 N r4 m1) v1_0 (IntKind.wrap .i64 (v1_1 + 1))))
    else
    (some v1_0)
def K_r23_Reserved_1 (N : Nat)  : (Int) → Option (Int)
  | x1_0 =>
    some x1_0
def F_r23_Reserved  (N : Nat) (a1 : List ApiBlock) (a2 : Int) (a3 : Int) : Option (Int) :=
      (F_r23_Active N a1 a2 a3).bind fun r4 =>
    (L_r23_Reserved_1 N r4 N 0 0).bind (K_r23_Reserved_1 N)
theorem P_r23_Reserved  {N : Nat} {a1 : List ApiBlock} {a2 : Int} {a3 : Int} {r : Int} (h : F_r23_Reserved N a1 a2 a3 = some r) : Pure Tryz.prog (Gl.at 0) 48 [(.sl (a1.map ApiBlock.v)), (i64 a2), (i64 a3)] (i64 r) := by
  refine pure_run fn48 ?_
  rw [F_r23_Reserved] at h
  replace h := bs h
  change GG [.t 6] _ [.pc p48_27] (mk 34 [(0, (.sl (a1.map ApiBlock.v))), (1, (i64 a2)), (2, (i64 a3))]) []
  refine go_bind h (fun r4 hr4 h => ?_)
  refine gx mo [.pc p48_18, .blk 0, .pc p48_23] 34 [(7, (.sl (r4.map ApiBlock.v))), (8, (i64 0)), (9, (i64 0))] [] 22 [tcc 4 [] (P_r23_Active hr4) (fs (fs (fs fl_nil)))] ?_
  refine go_cut (X := Int) (fun x => (K_r23_Reserved_1 N x).bind some = some r) ([.pc p48_23]) (fun x => (mk 34 [(8, (i64 x))])) (fun x => []) ?_ fun kont1_0 => ?_
  · rintro x1_0 h
    rw [K_r23_Reserved_1] at h
    refine gx mo [.pc p48_22] 34 [(6, (i64 x1_0))] [] 5 [] ?_
    obtain rfl := Option.some.inj h
    exact gf (i64 x1_0) (.same rfl)
  refine go_loop' (fun m t s => ∃ (v1_0 : Int) (v1_1 : Int), (L_r23_Reserved_1 N r4 m v1_0 v1_1).bind (fun q => (K_r23_Reserved_1 N q).bind some) = some r ∧ t = (mk 34 [(7, (.sl (r4.map ApiBlock.v))), (8, (i64 v1_0)), (9, (i64 v1_1))]) ∧ s = []) N ⟨0, 0, go_assoc h, rfl, rfl⟩ ?_
  intro m1 J1 hJ1 t s
  rintro ⟨v1_0, v1_1, h, rfl, rfl⟩
  cases m1 with
  | zero => exact absurd h (by simp [L_r23_Reserved_1])
  | succ m1 =>
    rw [L_r23_Reserved_1] at h
    refine gx mo [.pc p48_7, .pc p48_16, .jp J1, .blk 0, .pc p48_23] 34 [(7, (.sl (r4.map ApiBlock.v))), (8, (i64 v1_0)), (9, (i64 v1_1)), (17, (.bool (decide (v1_1 < (r4.length : Int)))))] [] 8 [tw 2 (E_len [] r4 ApiBlock.v)] ?_
    refine go_if h (fun hb9 h => ?_) (fun hb9 h => ?_)
    · rw [hb9]
      refine go_bind h (fun y10 hy10 h => ?_)
      refine gx mo [.pc p48_12, .blk 1, .pc p48_15, .jp J1, .blk 0, .pc p48_23] 34 [(7, (.sl (r4.map ApiBlock.v))), (8, (i64 v1_0)), (9, (i64 v1_1)), (25, (.bool (decide (y10.Kind_ = 4))))] [] 13 [tw 3 (E_ia [] ApiBlock.v .i64 hy10)] ?_
      refine go_if h (fun hb11 h => ?_) (fun hb11 h => ?_)
      · rw [hb11]
        refine go_bind h (fun y12 hy12 h => ?_)
        refine gx mo [.jp J1, .blk 0, .pc p48_23] 34 [(7, (.sl (r4.map ApiBlock.v))), (8, (i64 (IntKind.wrap .i64 (v1_0 + y12.Amount_)))), (9, (i64 (IntKind.wrap .i64 (v1_1 + 1))))] [] 17 [tw 4 (E_ia [] ApiBlock.v .i64 hy12)] ?_
        exact go_back rfl (hJ1 m1 _ _ (Nat.lt_succ_self m1) ⟨IntKind.wrap .i64 (v1_0 + y12.Amount_), IntKind.wrap .i64 (v1_1 + 1), h, rfl, rfl⟩)
      · rw [hb11]
        refine gx mo [.jp J1, .blk 0, .pc p48_23] 34 [(7, (.sl (r4.map ApiBlock.v))), (8, (i64 v1_0)), (9, (i64 (IntKind.wrap .i64 (v1_1 + 1))))] [] 8 [] ?_
        exact go_back rfl (hJ1 m1 _ _ (Nat.lt_succ_self m1) ⟨v1_0, IntKind.wrap .i64 (v1_1 + 1), h, rfl, rfl⟩)
    · rw [hb9]
      refine gx mo [.pc p48_23] 34 [(8, (i64 v1_0))] [] 2 [] ?_
      exact kont1_0 v1_0 h
/-! corebank/corebankref25.Available -/
def p13_10 : PC := .ret
def p13_11 : PC := (.seq (.drawn (oo 20 (.fa 19 (.t 3)) :: oo 21 (.ld1 (.t 20)) :: om 22 1 :: ⟨some 23, .call 40 [.t 21, .t 22], none⟩ :: om 24 8 :: oo 25 (.bin .sub .other false (.t 23) (.t 24)) :: oo 26 (.fa 20 (.t 3)) :: oo 27 (.ld1 (.t 26)) :: om 28 1 :: om 29 2 :: ⟨some 30, .call 47 [.t 27, .t 28, .t 29], none⟩ :: oo 31 (.bin .sub .other false (.t 25) (.t 30)) :: oo 32 (.fa 21 (.t 3)) :: oo 33 (.ld1 (.t 32)) :: om 34 1 :: om 35 2 :: ⟨some 36, .call 48 [.t 33, .t 34, .t 35], none⟩ :: oo 37 (.bin .sub .other false (.t 31) (.t 36)) :: om 6 37 :: oo 7 (.mv (.c (.int .i64 0))) :: []) [[], [0], [], [1, 2], [], [3, 4], [], [6], [], [], [7, 8, 9, 3], [5, 10], [], [12], [], [], [13, 14, 15, 10], [11, 16], [17, 16, 0, 1, 2, 3, 4, 5, 6, 7, 8, 9, 10, 11, 12, 13, 14, 15, 16, 17], [18, 0, 1, 2, 3, 4, 5, 6, 7, 8, 9, 10, 11, 12, 13, 14, 15, 16, 17, 18]]) p13_10)
def p13_4 : PC := .ret
def p13_7 : PC := (.cond (.t 18) (.seq (.reg (om 19 9 :: oo 6 (.mv (.c (.int .i64 0))) :: om 7 19 :: [])) p13_4) .skip)
def p13_14 : PC := (.seq (.reg (oo 3 (.box (.t 0)) :: oo 6 (.mv (.c (.int .i64 0))) :: oo 7 (.mv (.c (.int .i64 0))) :: [])) (.seq (.reg (oo 11 (.ldA 22 (.t 3)) :: om 12 1 :: om 13 2 :: ⟨some 14, .call 11 [.t 11, .t 12, .t 13], none⟩ :: om 10 14 :: oo 15 (.ext 0 (.t 10)) :: oo 16 (.ext 1 (.t 10)) :: om 8 15 :: om 9 16 :: [])) (.seq (.seq (.reg (om 17 9 :: oo 18 (.bin .neq .other true (.t 17) (.c (.int .i64 0))) :: [])) p13_7) p13_11)))
theorem fn13 : FnOk Tryz.prog 13 p13_14 38 [.t 6, .t 7] := ⟨false, Tryz.f13, _, Tryz.func13, by decide, rfl, by kernel_rfl, rfl, by kernel_rfl⟩
def F_r25_Available  (N : Nat) (a1 : ApiBooks) (a2 : Int) (a3 : Int) : Option (Int × Int) :=
      (F_r25_Floor N a1 a2 a3).bind fun r4 =>
    bif !decide (r4.2 = 0) then
    (some (0, r4.2))
    else
    ((F_r21_Of N a1.Journal_ a2).bind fun r6 =>
    (F_r22_Total N a1.Holds_ a2 a3).bind fun r7 =>
    (F_r23_Reserved N a1.Blocks_ a2 a3).bind fun r8 =>
    some (IntKind.wrap .i64 ((IntKind.wrap .i64 ((IntKind.wrap .i64 (r6 - r4.1)) - r7)) - r8), 0))
theorem P_r25_Available  {N : Nat} {a1 : ApiBooks} {a2 : Int} {a3 : Int} {r : Int × Int} (h : F_r25_Available N a1 a2 a3 = some r) : Pure Tryz.prog (Gl.at 0) 13 [(ApiBooks.v a1), (i64 a2), (i64 a3)] (.tup [(i64 r.1), (i64 r.2)]) := by
  refine pure_run fn13 ?_
  rw [F_r25_Available] at h
  replace h := bs h
  change GG [.t 6, .t 7] _ [.pc p13_14] (mk 38 [(0, (ApiBooks.v a1)), (1, (i64 a2)), (2, (i64 a3))]) []
  refine go_bind h (fun r4 hr4 h => ?_)
  refine gx mo [.pc p13_7, .pc p13_11] 38 [(1, (i64 a2)), (2, (i64 a3)), (3, (.ref 0 0 0)), (8, (i64 r4.1)), (9, (i64 r4.2)), (18, (.bool (!decide (r4.2 = 0))))] [.row 22 [(ApiBooks.v a1)]] 24 [tc 6 [.row 22 [(ApiBooks.v a1)]] (P_r25_Floor hr4) (fg (fs (fs fl_nil)))] ?_
  refine go_if h (fun hb5 h => ?_) (fun hb5 h => ?_)
  · rw [hb5]
    refine gx mo [.pc p13_4, .pc p13_11] 38 [(6, (i64 0)), (7, (i64 r4.2))] [.row 22 [(ApiBooks.v a1)]] 7 [] ?_
    obtain rfl := Option.some.inj h
    exact gf (.tup [(i64 0), (i64 r4.2)]) (f_tupl (fs (fs fl_nil)))
  · rw [hb5]
    refine go_bind h (fun r6 hr6 h => ?_)
    refine go_bind h (fun r7 hr7 h => ?_)
    refine go_bind h (fun r8 hr8 h => ?_)
    refine gx mo [.pc p13_10] 38 [(6, (i64 (IntKind.wrap .i64 ((IntKind.wrap .i64 ((IntKind.wrap .i64 (r6 - r4.1)) - r7)) - r8)))), (7, (i64 0))] [.row 22 [(ApiBooks.v a1)]] 4 [tgc 4 [.row 22 [(ApiBooks.v a1)]] (P_r21_Of hr6) (fs (fs fl_nil)), tgc 11 [.row 22 [(ApiBooks.v a1)]] (P_r22_Total hr7) (fs (fs (fs fl_nil))), tgc 17 [.row 22 [(ApiBooks.v a1)]] (P_r23_Reserved hr8) (fs (fs (fs fl_nil)))] ?_
    obtain rfl := Option.some.inj h
    exact gf (.tup [(i64 (IntKind.wrap .i64 ((IntKind.wrap .i64 ((IntKind.wrap .i64 (r6 - r4.1)) - r7)) - r8))), (i64 0)]) (f_tupl (fs (fs fl_nil)))
/-! corebank/limit.counts -/
def p49_24 : PC := .ret
def p49_25 : PC := (.seq (.reg (oo 2 (.mv (.c (.bool false))) :: [])) p49_24)
def p49_16 : PC := .ret
def p49_19 : PC := (.cond (.t 5) (.seq (.reg (oo 10 (.fa 4 (.t 1)) :: oo 11 (.ld1 (.t 10)) :: oo 12 (.bin .eql .other true (.t 11) (.c (.int .i64 0))) :: om 2 12 :: [])) p49_16) .skip)
def p49_9 : PC := (.cond (.t 5) .skip (.reg (oo 9 (.bin .eql .other true (.t 4) (.c (.int .i64 14))) :: om 5 9 :: [])))
def p49_11 : PC := (.cond (.t 5) .skip (.seq (.reg (oo 8 (.bin .eql .other true (.t 4) (.c (.int .i64 9))) :: om 5 8 :: [])) p49_9))
def p49_13 : PC := (.cond (.t 5) .skip (.seq (.reg (oo 7 (.bin .eql .other true (.t 4) (.c (.int .i64 3))) :: om 5 7 :: [])) p49_11))
def p49_27 : PC := (.seq (.reg (oo 1 (.box (.t 0)) :: oo 2 (.mv (.c (.bool false))) :: [])) (.seq (.seq (.reg (oo 3 (.fa 3 (.t 1)) :: oo 4 (.ld1 (.t 3)) :: [])) (.block 0 (.seq (.seq (.reg (oo 6 (.bin .eql .other true (.t 4) (.c (.int .i64 2))) :: om 5 6 :: [])) p49_13) p49_19))) p49_25))
theorem fn49 : FnOk Tryz.prog 49 p49_27 13 [.t 2] := ⟨false, Tryz.f49, _, Tryz.func49, by decide, rfl, by kernel_rfl, rfl, by kernel_rfl⟩
def F_limit_counts  (N : Nat) (a1 : ApiEntry) : Option (Bool) :=
      bif decide (a1.Kind_ = 2) then
    (some (decide (a1.Auth_ = 0)))
    else
    (bif decide (a1.Kind_ = 3) then
    (some (decide (a1.Auth_ = 0)))
    else
    (bif decide (a1.Kind_ = 9) then
    (some (decide (a1.Auth_ = 0)))
    else
    (bif decide (a1.Kind_ = 14) then
    (some (decide (a1.Auth_ = 0)))
    else
    (some false))))
theorem P_limit_counts  {N : Nat} {a1 : ApiEntry} {r : Bool} (h : F_limit_counts N a1 = some r) : Pure Tryz.prog (Gl.at 0) 49 [(ApiEntry.v a1)] (.bool r) := by
  refine pure_run fn49 ?_
  rw [F_limit_counts] at h
  replace h := bs h
  change GG [.t 2] _ [.pc p49_27] (mk 13 [(0, (ApiEntry.v a1))]) []
  refine gx mo [.pc p49_13, .pc p49_19, .blk 0, .pc p49_25] 13 [(1, (.ref 0 0 0)), (4, (i64 a1.Kind_)), (5, (.bool (decide (a1.Kind_ = 2))))] [.row 10 [(ApiEntry.v a1)]] 18 [] ?_
  refine go_if h (fun hb2 h => ?_) (fun hb2 h => ?_)
  · rw [hb2]
    refine gx mo [.pc p49_16, .blk 0, .pc p49_25] 13 [(2, (.bool (decide (a1.Auth_ = 0))))] [.row 10 [(ApiEntry.v a1)]] 10 [] ?_
    obtain rfl := Option.some.inj h
    exact gf (.bool (decide (a1.Auth_ = 0))) (.same rfl)
  · rw [hb2]
    refine gx mo [.pc p49_11, .pc p49_19, .blk 0, .pc p49_25] 13 [(1, (.ref 0 0 0)), (4, (i64 a1.Kind_)), (5, (.bool (decide (a1.Kind_ = 3))))] [.row 10 [(ApiEntry.v a1)]] 6 [] ?_
    refine go_if h (fun hb3 h => ?_) (fun hb3 h => ?_)
    · rw [hb3]
      refine gx mo [.pc p49_16, .blk 0, .pc p49_25] 13 [(2, (.bool (decide (a1.Auth_ = 0))))] [.row 10 [(ApiEntry.v a1)]] 10 [] ?_
      obtain rfl := Option.some.inj h
      exact gf (.bool (decide (a1.Auth_ = 0))) (.same rfl)
    · rw [hb3]
      refine gx mo [.pc p49_9, .pc p49_19, .blk 0, .pc p49_25] 13 [(1, (.ref 0 0 0)), (4, (i64 a1.Kind_)), (5, (.bool (decide (a1.Kind_ = 9))))] [.row 10 [(ApiEntry.v a1)]] 6 [] ?_
      refine go_if h (fun hb4 h => ?_) (fun hb4 h => ?_)
      · rw [hb4]
        refine gx mo [.pc p49_16, .blk 0, .pc p49_25] 13 [(2, (.bool (decide (a1.Auth_ = 0))))] [.row 10 [(ApiEntry.v a1)]] 10 [] ?_
        obtain rfl := Option.some.inj h
        exact gf (.bool (decide (a1.Auth_ = 0))) (.same rfl)
      · rw [hb4]
        refine gx mo [.pc p49_19, .blk 0, .pc p49_25] 13 [(1, (.ref 0 0 0)), (5, (.bool (decide (a1.Kind_ = 14))))] [.row 10 [(ApiEntry.v a1)]] 5 [] ?_
        refine go_if h (fun hb5 h => ?_) (fun hb5 h => ?_)
        · rw [hb5]
          refine gx mo [.pc p49_16, .blk 0, .pc p49_25] 13 [(2, (.bool (decide (a1.Auth_ = 0))))] [.row 10 [(ApiEntry.v a1)]] 8 [] ?_
          obtain rfl := Option.some.inj h
          exact gf (.bool (decide (a1.Auth_ = 0))) (.same rfl)
        · rw [hb5]
          refine gx mo [.pc p49_24] 13 [(2, (.bool false))] [.row 10 [(ApiEntry.v a1)]] 7 [] ?_
          obtain rfl := Option.some.inj h
          exact gf (.bool false) (.same rfl)
/-! corebank/limit.Spent -/
def p14_48 : PC := .ret
def p14_49 : PC := (.seq (.reg (om 58 9 :: om 8 58 :: [])) p14_48)
def p14_40 : PC := (.reg (oo 57 (.bin .add .other true (.t 18) (.c (.int .i64 1))) :: om 18 57 :: []))
def p14_34 : PC := (.reg (om 53 9 :: om 54 12 :: oo 55 (.max [.c (.int .i64 0), .t 54]) :: oo 56 (.bin .add .other false (.t 53) (.t 55)) :: om 9 56 :: []))
def p14_27 : PC := (.reg (oo 52 (.bin .add .other true (.t 40) (.c (.int .i64 1))) :: om 40 52 :: []))
def p14_23 : PC := (.cond (.t 47) (.reg (om 48 12 :: oo 49 (.fa 1 (.t 14)) :: oo 50 (.ld1 (.t 49)) :: oo 51 (.bin .add .other false (.t 48) (.t 50)) :: om 12 51 :: [])) .skip)
def p14_28 : PC := (.seq (.block 3 (.seq (.reg (oo 42 (.ia 3 (.t 38) (.t 40)) :: oo 43 (.ldA 3 (.t 42)) :: oo 14 (.new (.agg [.int .i64 0, .int .i64 0, .str []])) :: on_ (.st 3 (.t 14) (.t 43)) :: [])) (.seq (.reg (oo 44 (.fa 0 (.t 14)) :: oo 45 (.ld1 (.t 44)) :: om 46 1 :: oo 47 (.bin .eql .other false (.t 45) (.t 46)) :: [])) p14_23))) p14_27)
def p14_18 : PC := (.cond (.t 41) .skip (.exit 2))
def p14_31 : PC := (.loop (.seq (.reg (oo 41 (.bin .lss .other false (.t 40) (.t 39)) :: [])) (.seq p14_18 p14_28)))
def p14_36 : PC := (.seq (.reg (oo 12 (.mv (.c (.int .i64 0))) :: [])) (.seq (.seq (.reg (oo 37 (.fa 8 (.t 11)) :: oo 38 (.ld1 (.t 37)) :: oo 39 (.len .slice (.t 38)) :: oo 40 (.mv (.c (.int .i64 0))) :: [])) (.block 2 p14_31)) p14_34))
def p14_11 : PC := (.cond (.t 36) (.exit 1) .skip)
def p14_41 : PC := (.seq (.block 1 (.seq (.reg (oo 20 (.ia 10 (.t 16) (.t 18)) :: oo 21 (.ldA 10 (.t 20)) :: oo 11 (.new (.agg [.int .i64 0, .int .i64 0, .int .i64 0, .int .i64 0, .int .i64 0, .int .i64 0, .str [], .str [], .nils, .int .u64 0])) :: on_ (.st 10 (.t 11) (.t 21)) :: [])) (.seq (.seq (.reg (oo 22 (.ldA 10 (.t 11)) :: ⟨some 23, .call 49 [.t 22], none⟩ :: oo 24 (.un .not (.t 23)) :: om 25 24 :: ⟨some 26, .op (.fa 1 (.t 11)), some (25, false)⟩ :: ⟨some 27, .op (.ld1 (.t 26)), some (25, false)⟩ :: ⟨some 28, .op (.mv (.t 2)), some (25, false)⟩ :: ⟨some 29, .op (.bin .lss .other false (.t 27) (.t 28)), some (25, false)⟩ :: oo 30 (.pick (.t 25) (.c (.bool true)) (.t 29)) :: om 31 30 :: ⟨some 32, .op (.fa 1 (.t 11)), some (31, false)⟩ :: ⟨some 33, .op (.ld1 (.t 32)), some (31, false)⟩ :: ⟨some 34, .op (.mv (.t 3)), some (31, false)⟩ :: ⟨some 35, .op (.bin .gtr .other false (.t 33) (.t 34)), some (31, false)⟩ :: oo 36 (.pick (.t 31) (.c (.bool true)) (.t 35)) :: [])) p14_11) p14_36))) p14_40)
def p14_6 : PC := (.cond (.t 19) .skip (.exit 0))
def p14_44 : PC := (.loop (.seq (.reg (oo 19 (.bin .lss .other false (.t 18) (.t 17)) :: [])) (.seq p14_6 p14_41)))
def p14_52 : PC := (.seq (.reg (oo 4 (.box (.t 0)) :: oo 8 (.mv (.c (.int .i64 0))) :: [])) (.seq (.reg (oo 9 (.mv (.c (.int .i64 0))) :: [])) (.seq (.seq (.reg (oo 15 (.fa 19 (.t 4)) :: oo 16 (.ld1 (.t 15)) :: oo 17 (.len .slice (.t 16)) :: oo 18 (.mv (.c (.int .i64 0))) :: [])) (.block 0 p14_44)) p14_49)))
theorem fn14 : FnOk Tryz.prog 14 p14_52 59 [.t 8] := ⟨false, Tryz.f14, _, Tryz.func14, by decide, rfl, by kernel_rfl, rfl, by kernel_rfl⟩
def L_limit_Spent_2 (N : Nat) (a2 : Int) (y18 : ApiEntry) : Nat → Int → Int → Option (Int)
  | 0, _, _ => none
  | m2 + 1, v2_0, v2_1 =>
    bif decide (v2_1 < (y18.Legs_.length : Int)) then
    ((getI y18.Legs_ v2_1).bind fun y27 =>
    bif decide (y27.Account_ = a2) then
    ((L_limit_Spent_2 N a2 y18 m2) (IntKind.wrap .i64 (v2_0 + y27.Amount_)) (IntKind.wrap .i64 (v2_1 + 1)))
    else
    ((L_limit_Spent_2 N a2 y18 m2) v2_0 (IntKind.wrap .i64 (v2_1 + 1))))
    else
    (some v2_0)
def K_limit_Spent_2 (N : Nat) (v1_0 : Int) (v1_1 : Int) (rl1 : Int → Int → Option (Int)) : (Int) → Option (Int)
  | x2_0 =>
    rl1 (IntKind.wrap .i64 (v1_0 + (if 0 < x2_0 then x2_0 else 0))) (IntKind.wrap .i64 (v1_1 + 1))
def L_limit_Spent_1 (N : Nat) (a1 : ApiBooks) (a2 : Int) (a3 : Int) (a4 : Int) : Nat → Int → Int → Option (Int)
  | 0, _, _ => none
  | m1 + 1, v1_0, v1_1 =>
    bif decide (v1_1 < (a1.Journal_.length : Int)) then
    ((getI a1.Journal_ v1_1).bind fun y18 =>
    (F_limit_counts N y18).bind fun r19 =>
    bif !r19 then
    ((L_limit_Spent_1 N a1 a2 a3 a4 m1) v1_0 (IntKind.wrap .i64 (v1_1 + 1)))
    else
    (bif decide (y18.Booked_ < a3) then
    ((L_limit_Spent_1 N a1 a2 a3 a4 m1) v1_0 (IntKind.wrap .i64 (v1_1 + 1)))
    else
    (bif decide (a4 < y18.Booked_) then
    ((L_limit_Spent_1 N a1 a2 a3 a4 m1) v1_0 (IntKind.wrap .i64 (v1_1 + 1)))
    else
    ((L_limit_Spent_2 N a2 y18 N 0 0).bind (K_limit_Spent_2 N v1_0 v1_1 (L_limit_Spent_1 N a1 a2 a3 a4 m1))))))
    else
    (some v1_0)
def K_limit_Spent_1 (N : Nat)  : (Int) → Option (Int)
  | x1_0 =>
    some x1_0
def F_limit_Spent  (N : Nat) (a1 : ApiBooks) (a2 : Int) (a3 : Int) (a4 : Int) : Option (Int) :=
      (L_limit_Spent_1 N a1 a2 a3 a4 N 0 0).bind (K_limit_Spent_1 N)
theorem P_limit_Spent  {N : Nat} {a1 : ApiBooks} {a2 : Int} {a3 : Int} {a4 : Int} {r : Int} (h : F_limit_Spent N a1 a2 a3 a4 = some r) : Pure Tryz.prog (Gl.at 0) 14 [(ApiBooks.v a1), (i64 a2), (i64 a3), (i64 a4)] (i64 r) := by
  refine pure_run fn14 ?_
  rw [F_limit_Spent] at h
  replace h := bs h
  change GG [.t 8] _ [.pc p14_52] (mk 59 [(0, (ApiBooks.v a1)), (1, (i64 a2)), (2, (i64 a3)), (3, (i64 a4))]) []
  refine gx mo [.pc p14_44, .blk 0, .pc p14_49] 59 [(1, (i64 a2)), (2, (i64 a3)), (3, (i64 a4)), (9, (i64 0)), (16, (.sl (a1.Journal_.map ApiEntry.v))), (17, (i64 (a1.Journal_.length : Int))), (18, (i64 0))] [.row 22 [(ApiBooks.v a1)]] 18 [tw 5 (E_len [.row 22 [(ApiBooks.v a1)]] a1.Journal_ ApiEntry.v)] ?_
  refine go_pick [] [] [(1, 0), (2, 0), (3, 0), (9, 0), (16, 0), (17, 0), (18, 0)] (t' := (mk 59 [(1, (i64 a2)), (2, (i64 a3)), (3, (i64 a4)), (9, (i64 0)), (16, (.sl (a1.Journal_.map ApiEntry.v))), (17, (i64 (a1.Journal_.length : Int))), (18, (i64 0))])) (s' := []) (by kernel_rfl) trivial rfl ?_
  refine go_cut (X := Int) (fun x => (K_limit_Spent_1 N x).bind some = some r) ([.pc p14_49]) (fun x => (mk 59 [(9, (i64 x))])) (fun x => []) ?_ fun kont1_0 => ?_
  · rintro x1_0 h
    rw [K_limit_Spent_1] at h
    refine gx mo [.pc p14_48] 59 [(8, (i64 x1_0))] [] 5 [] ?_
    obtain rfl := Option.some.inj h
    exact gf (i64 x1_0) (.same rfl)
  refine go_loop' (fun m t s => ∃ (v1_0 : Int) (v1_1 : Int), (L_limit_Spent_1 N a1 a2 a3 a4 m v1_0 v1_1).bind (fun q => (K_limit_Spent_1 N q).bind some) = some r ∧ t = (mk 59 [(1, (i64 a2)), (2, (i64 a3)), (3, (i64 a4)), (9, (i64 v1_0)), (16, (.sl (a1.Journal_.map ApiEntry.v))), (17, (i64 (a1.Journal_.length : Int))), (18, (i64 v1_1))]) ∧ s = []) N ⟨0, 0, go_assoc h, rfl, rfl⟩ ?_
  intro m1 J1 hJ1 t s
  rintro ⟨v1_0, v1_1, h, rfl, rfl⟩
  cases m1 with
  | zero => exact absurd h (by simp [L_limit_Spent_1])
  | succ m1 =>
    rw [L_limit_Spent_1] at h
    refine gx mo [.pc p14_6, .pc p14_41, .jp J1, .blk 0, .pc p14_49] 59 [(1, (i64 a2)), (2, (i64 a3)), (3, (i64 a4)), (9, (i64 v1_0)), (16, (.sl (a1.Journal_.map ApiEntry.v))), (17, (i64 (a1.Journal_.length : Int))), (18, (i64 v1_1)), (19, (.bool (decide (v1_1 < (a1.Journal_.length : Int)))))] [] 5 [] ?_
    refine go_if h (fun hb17 h => ?_) (fun hb17 h => ?_)
    · rw [hb17]
      refine go_bind h (fun y18 hy18 h => ?_)
      refine go_bind h (fun r19 hr19 h => ?_)
      refine go_if h (fun hb20 h => ?_) (fun hb20 h => ?_)
      · refine gx mo [.jp J1, .blk 0, .pc p14_49] 59 [(1, (i64 a2)), (2, (i64 a3)), (3, (i64 a4)), (9, (i64 v1_0)), (16, (.sl (a1.Journal_.map ApiEntry.v))), (17, (i64 (a1.Journal_.length : Int))), (18, (i64 (IntKind.wrap .i64 (v1_1 + 1))))] [.row 10 [(ApiEntry.v y18)]] 36 [tw 1 (E_ia [] ApiEntry.v .i64 hy18), tc 6 [.row 10 [(ApiEntry.v y18)]] (P_limit_counts hr19) (fg fl_nil), twb 7 [.row 10 [(ApiEntry.v y18)]] (.un .not (.c (.bool r19))) (!r19) true hb20] ?_
        refine go_pick [] [] [(1, 0), (2, 0), (3, 0), (9, 0), (16, 0), (17, 0), (18, 0)] (t' := (mk 59 [(1, (i64 a2)), (2, (i64 a3)), (3, (i64 a4)), (9, (i64 v1_0)), (16, (.sl (a1.Journal_.map ApiEntry.v))), (17, (i64 (a1.Journal_.length : Int))), (18, (i64 (IntKind.wrap .i64 (v1_1 + 1))))])) (s' := []) (by kernel_rfl) trivial rfl ?_
        exact go_back rfl (hJ1 m1 _ _ (Nat.lt_succ_self m1) ⟨v1_0, IntKind.wrap .i64 (v1_1 + 1), h, rfl, rfl⟩)
      · refine go_if h (fun hb21 h => ?_) (fun hb21 h => ?_)
        · refine gx mo [.jp J1, .blk 0, .pc p14_49] 59 [(1, (i64 a2)), (2, (i64 a3)), (3, (i64 a4)), (9, (i64 v1_0)), (16, (.sl (a1.Journal_.map ApiEntry.v))), (17, (i64 (a1.Journal_.length : Int))), (18, (i64 (IntKind.wrap .i64 (v1_1 + 1))))] [.row 10 [(ApiEntry.v y18)]] 36 [tw 1 (E_ia [] ApiEntry.v .i64 hy18), tc 6 [.row 10 [(ApiEntry.v y18)]] (P_limit_counts hr19) (fg fl_nil), twb 7 [.row 10 [(ApiEntry.v y18)]] (.un .not (.c (.bool r19))) (!r19) false hb20, twb 13 [.row 10 [(ApiEntry.v y18)]] (.pick (.c (.bool false)) (.c (.bool true)) (.c (.bool (decide (y18.Booked_ < a3))))) (decide (y18.Booked_ < a3)) true hb21] ?_
          refine go_pick [] [] [(1, 0), (2, 0), (3, 0), (9, 0), (16, 0), (17, 0), (18, 0)] (t' := (mk 59 [(1, (i64 a2)), (2, (i64 a3)), (3, (i64 a4)), (9, (i64 v1_0)), (16, (.sl (a1.Journal_.map ApiEntry.v))), (17, (i64 (a1.Journal_.length : Int))), (18, (i64 (IntKind.wrap .i64 (v1_1 + 1))))])) (s' := []) (by kernel_rfl) trivial rfl ?_
          exact go_back rfl (hJ1 m1 _ _ (Nat.lt_succ_self m1) ⟨v1_0, IntKind.wrap .i64 (v1_1 + 1), h, rfl, rfl⟩)
        · refine gx mo [.pc p14_11, .pc p14_36, .blk 1, .pc p14_40, .jp J1, .blk 0, .pc p14_49] 59 [(1, (i64 a2)), (2, (i64 a3)), (3, (i64 a4)), (9, (i64 v1_0)), (11, (.ref 0 0 0)), (16, (.sl (a1.Journal_.map ApiEntry.v))), (17, (i64 (a1.Journal_.length : Int))), (18, (i64 v1_1)), (36, (.bool (decide (a4 < y18.Booked_))))] [.row 10 [(ApiEntry.v y18)]] 30 [tw 1 (E_ia [] ApiEntry.v .i64 hy18), tc 6 [.row 10 [(ApiEntry.v y18)]] (P_limit_counts hr19) (fg fl_nil), twb 7 [.row 10 [(ApiEntry.v y18)]] (.un .not (.c (.bool r19))) (!r19) false hb20, twb 13 [.row 10 [(ApiEntry.v y18)]] (.pick (.c (.bool false)) (.c (.bool true)) (.c (.bool (decide (y18.Booked_ < a3))))) (decide (y18.Booked_ < a3)) false hb21] ?_
          refine go_if h (fun hb22 h => ?_) (fun hb22 h => ?_)
          · rw [hb22]
            refine gx mo [.jp J1, .blk 0, .pc p14_49] 59 [(1, (i64 a2)), (2, (i64 a3)), (3, (i64 a4)), (9, (i64 v1_0)), (16, (.sl (a1.Journal_.map ApiEntry.v))), (17, (i64 (a1.Journal_.length : Int))), (18, (i64 (IntKind.wrap .i64 (v1_1 + 1))))] [.row 10 [(ApiEntry.v y18)]] 6 [] ?_
            refine go_pick [] [] [(1, 0), (2, 0), (3, 0), (9, 0), (16, 0), (17, 0), (18, 0)] (t' := (mk 59 [(1, (i64 a2)), (2, (i64 a3)), (3, (i64 a4)), (9, (i64 v1_0)), (16, (.sl (a1.Journal_.map ApiEntry.v))), (17, (i64 (a1.Journal_.length : Int))), (18, (i64 (IntKind.wrap .i64 (v1_1 + 1))))])) (s' := []) (by kernel_rfl) trivial rfl ?_
            exact go_back rfl (hJ1 m1 _ _ (Nat.lt_succ_self m1) ⟨v1_0, IntKind.wrap .i64 (v1_1 + 1), h, rfl, rfl⟩)
          · rw [hb22]
            refine gx mo [.pc p14_31, .blk 2, .pc p14_34, .blk 1, .pc p14_40, .jp J1, .blk 0, .pc p14_49] 59 [(1, (i64 a2)), (2, (i64 a3)), (3, (i64 a4)), (9, (i64 v1_0)), (12, (i64 0)), (16, (.sl (a1.Journal_.map ApiEntry.v))), (17, (i64 (a1.Journal_.length : Int))), (18, (i64 v1_1)), (38, (.sl (y18.Legs_.map ApiLeg.v))), (39, (i64 (y18.Legs_.length : Int))), (40, (i64 0))] [.row 10 [(ApiEntry.v y18)]] 15 [tw 4 (E_len [.row 10 [(ApiEntry.v y18)]] y18.Legs_ ApiLeg.v)] ?_
            refine go_pick [] [] [(1, 0), (2, 0), (3, 0), (9, 0), (12, 0), (16, 0), (17, 0), (18, 0), (38, 0), (39, 0), (40, 0)] (t' := (mk 59 [(1, (i64 a2)), (2, (i64 a3)), (3, (i64 a4)), (9, (i64 v1_0)), (12, (i64 0)), (16, (.sl (a1.Journal_.map ApiEntry.v))), (17, (i64 (a1.Journal_.length : Int))), (18, (i64 v1_1)), (38, (.sl (y18.Legs_.map ApiLeg.v))), (39, (i64 (y18.Legs_.length : Int))), (40, (i64 0))])) (s' := []) (by kernel_rfl) trivial rfl ?_
            refine go_cut (X := Int) (fun x => (K_limit_Spent_2 N v1_0 v1_1 (L_limit_Spent_1 N a1 a2 a3 a4 m1) x).bind (fun q => (K_limit_Spent_1 N q).bind some) = some r) ([.pc p14_34, .blk 1, .pc p14_40, .jp J1, .blk 0, .pc p14_49]) (fun x => (mk 59 [(1, (i64 a2)), (2, (i64 a3)), (3, (i64 a4)), (9, (i64 v1_0)), (12, (i64 x)), (16, (.sl (a1.Journal_.map ApiEntry.v))), (17, (i64 (a1.Journal_.length : Int))), (18, (i64 v1_1))])) (fun x => []) ?_ fun kont2_0 => ?_
            · rintro x2_0 h
              rw [K_limit_Spent_2] at h
              refine gx mo [.jp J1, .blk 0, .pc p14_49] 59 [(1, (i64 a2)), (2, (i64 a3)), (3, (i64 a4)), (9, (i64 (IntKind.wrap .i64 (v1_0 + (if 0 < x2_0 then x2_0 else 0))))), (16, (.sl (a1.Journal_.map ApiEntry.v))), (17, (i64 (a1.Journal_.length : Int))), (18, (i64 (IntKind.wrap .i64 (v1_1 + 1))))] [] 12 [] ?_
              exact go_back rfl (hJ1 m1 _ _ (Nat.lt_succ_self m1) ⟨IntKind.wrap .i64 (v1_0 + (if 0 < x2_0 then x2_0 else 0)), IntKind.wrap .i64 (v1_1 + 1), h, rfl, rfl⟩)
            refine go_loop' (fun m t s => ∃ (v2_0 : Int) (v2_1 : Int), (L_limit_Spent_2 N a2 y18 m v2_0 v2_1).bind (fun q => (K_limit_Spent_2 N v1_0 v1_1 (L_limit_Spent_1 N a1 a2 a3 a4 m1) q).bind (fun q => (K_limit_Spent_1 N q).bind some)) = some r ∧ t = (mk 59 [(1, (i64 a2)), (2, (i64 a3)), (3, (i64 a4)), (9, (i64 v1_0)), (12, (i64 v2_0)), (16, (.sl (a1.Journal_.map ApiEntry.v))), (17, (i64 (a1.Journal_.length : Int))), (18, (i64 v1_1)), (38, (.sl (y18.Legs_.map ApiLeg.v))), (39, (i64 (y18.Legs_.length : Int))), (40, (i64 v2_1))]) ∧ s = []) N ⟨0, 0, go_assoc h, rfl, rfl⟩ ?_
            intro m2 J2 hJ2 t s
            rintro ⟨v2_0, v2_1, h, rfl, rfl⟩
            cases m2 with
            | zero => exact absurd h (by simp [L_limit_Spent_2])
            | succ m2 =>
              rw [L_limit_Spent_2] at h
              refine gx mo [.pc p14_18, .pc p14_28, .jp J2, .blk 2, .pc p14_34, .blk 1, .pc p14_40, .jp J1, .blk 0, .pc p14_49] 59 [(1, (i64 a2)), (2, (i64 a3)), (3, (i64 a4)), (9, (i64 v1_0)), (12, (i64 v2_0)), (16, (.sl (a1.Journal_.map ApiEntry.v))), (17, (i64 (a1.Journal_.length : Int))), (18, (i64 v1_1)), (38, (.sl (y18.Legs_.map ApiLeg.v))), (39, (i64 (y18.Legs_.length : Int))), (40, (i64 v2_1)), (41, (.bool (decide (v2_1 < (y18.Legs_.length : Int)))))] [] 5 [] ?_
              refine go_if h (fun hb26 h => ?_) (fun hb26 h => ?_)
              · rw [hb26]
                refine go_bind h (fun y27 hy27 h => ?_)
                refine gx mo [.pc p14_23, .blk 3, .pc p14_27, .jp J2, .blk 2, .pc p14_34, .blk 1, .pc p14_40, .jp J1, .blk 0, .pc p14_49] 59 [(1, (i64 a2)), (2, (i64 a3)), (3, (i64 a4)), (9, (i64 v1_0)), (12, (i64 v2_0)), (14, (.ref 0 0 0)), (16, (.sl (a1.Journal_.map ApiEntry.v))), (17, (i64 (a1.Journal_.length : Int))), (18, (i64 v1_1)), (38, (.sl (y18.Legs_.map ApiLeg.v))), (39, (i64 (y18.Legs_.length : Int))), (40, (i64 v2_1)), (47, (.bool (decide (y27.Account_ = a2))))] [.row 3 [(ApiLeg.v y27)]] 18 [tw 1 (E_ia [] ApiLeg.v .i64 hy27)] ?_
                refine go_if h (fun hb28 h => ?_) (fun hb28 h => ?_)
                · rw [hb28]
                  refine gx mo [.jp J2, .blk 2, .pc p14_34, .blk 1, .pc p14_40, .jp J1, .blk 0, .pc p14_49] 59 [(1, (i64 a2)), (2, (i64 a3)), (3, (i64 a4)), (9, (i64 v1_0)), (12, (i64 (IntKind.wrap .i64 (v2_0 + y27.Amount_)))), (16, (.sl (a1.Journal_.map ApiEntry.v))), (17, (i64 (a1.Journal_.length : Int))), (18, (i64 v1_1)), (38, (.sl (y18.Legs_.map ApiLeg.v))), (39, (i64 (y18.Legs_.length : Int))), (40, (i64 (IntKind.wrap .i64 (v2_1 + 1))))] [.row 3 [(ApiLeg.v y27)]] 13 [] ?_
                  refine go_pick [] [] [(1, 0), (2, 0), (3, 0), (9, 0), (12, 0), (16, 0), (17, 0), (18, 0), (38, 0), (39, 0), (40, 0)] (t' := (mk 59 [(1, (i64 a2)), (2, (i64 a3)), (3, (i64 a4)), (9, (i64 v1_0)), (12, (i64 (IntKind.wrap .i64 (v2_0 + y27.Amount_)))), (16, (.sl (a1.Journal_.map ApiEntry.v))), (17, (i64 (a1.Journal_.length : Int))), (18, (i64 v1_1)), (38, (.sl (y18.Legs_.map ApiLeg.v))), (39, (i64 (y18.Legs_.length : Int))), (40, (i64 (IntKind.wrap .i64 (v2_1 + 1))))])) (s' := []) (by kernel_rfl) trivial rfl ?_
                  exact go_back rfl (hJ2 m2 _ _ (Nat.lt_succ_self m2) ⟨IntKind.wrap .i64 (v2_0 + y27.Amount_), IntKind.wrap .i64 (v2_1 + 1), h, rfl, rfl⟩)
                · rw [hb28]
                  refine gx mo [.jp J2, .blk 2, .pc p14_34, .blk 1, .pc p14_40, .jp J1, .blk 0, .pc p14_49] 59 [(1, (i64 a2)), (2, (i64 a3)), (3, (i64 a4)), (9, (i64 v1_0)), (12, (i64 v2_0)), (16, (.sl (a1.Journal_.map ApiEntry.v))), (17, (i64 (a1.Journal_.length : Int))), (18, (i64 v1_1)), (38, (.sl (y18.Legs_.map ApiLeg.v))), (39, (i64 (y18.Legs_.length : Int))), (40, (i64 (IntKind.wrap .i64 (v2_1 + 1))))] [.row 3 [(ApiLeg.v y27)]] 7 [] ?_
                  refine go_pick [] [] [(1, 0), (2, 0), (3, 0), (9, 0), (12, 0), (16, 0), (17, 0), (18, 0), (38, 0), (39, 0), (40, 0)] (t' := (mk 59 [(1, (i64 a2)), (2, (i64 a3)), (3, (i64 a4)), (9, (i64 v1_0)), (12, (i64 v2_0)), (16, (.sl (a1.Journal_.map ApiEntry.v))), (17, (i64 (a1.Journal_.length : Int))), (18, (i64 v1_1)), (38, (.sl (y18.Legs_.map ApiLeg.v))), (39, (i64 (y18.Legs_.length : Int))), (40, (i64 (IntKind.wrap .i64 (v2_1 + 1))))])) (s' := []) (by kernel_rfl) trivial rfl ?_
                  exact go_back rfl (hJ2 m2 _ _ (Nat.lt_succ_self m2) ⟨v2_0, IntKind.wrap .i64 (v2_1 + 1), h, rfl, rfl⟩)
              · rw [hb26]
                refine gx mo [.pc p14_34, .blk 1, .pc p14_40, .jp J1, .blk 0, .pc p14_49] 59 [(1, (i64 a2)), (2, (i64 a3)), (3, (i64 a4)), (9, (i64 v1_0)), (12, (i64 v2_0)), (16, (.sl (a1.Journal_.map ApiEntry.v))), (17, (i64 (a1.Journal_.length : Int))), (18, (i64 v1_1))] [] 2 [] ?_
                exact kont2_0 v2_0 h
    · rw [hb17]
      refine gx mo [.pc p14_49] 59 [(9, (i64 v1_0))] [] 2 [] ?_
      exact kont1_0 v1_0 h
/-! corebank/corebankref25.counts -/
def p50_2 : PC := .ret
def p50_4 : PC := (.seq (.reg (oo 1 (.box (.t 0)) :: oo 2 (.mv (.c (.bool false))) :: [])) (.seq (.reg (oo 3 (.fa 4 (.t 1)) :: oo 4 (.ld1 (.t 3)) :: oo 5 (.bin .eql .other true (.t 4) (.c (.int .i64 0))) :: om 6 5 :: ⟨some 7, .op (.fa 3 (.t 1)), some (6, true)⟩ :: ⟨some 8, .op (.ld1 (.t 7)), some (6, true)⟩ :: ⟨some 9, .op (.bin .eql .other true (.t 8) (.c (.int .i64 2))), some (6, true)⟩ :: ⟨some 10, .op (.mv (.t 9)), some (6, true)⟩ :: ⟨some 11, .op (.fa 3 (.t 1)), some (10, false)⟩ :: ⟨some 12, .op (.ld1 (.t 11)), some (10, false)⟩ :: ⟨some 13, .op (.bin .eql .other true (.t 12) (.c (.int .i64 3))), some (10, false)⟩ :: ⟨some 14, .op (.pick (.t 10) (.c (.bool true)) (.t 13)), some (6, true)⟩ :: ⟨some 15, .op (.mv (.t 14)), some (6, true)⟩ :: ⟨some 16, .op (.fa 3 (.t 1)), some (15, false)⟩ :: ⟨some 17, .op (.ld1 (.t 16)), some (15, false)⟩ :: ⟨some 18, .op (.bin .eql .other true (.t 17) (.c (.int .i64 9))), some (15, false)⟩ :: ⟨some 19, .op (.pick (.t 15) (.c (.bool true)) (.t 18)), some (6, true)⟩ :: ⟨some 20, .op (.mv (.t 19)), some (6, true)⟩ :: ⟨some 21, .op (.fa 3 (.t 1)), some (20, false)⟩ :: ⟨some 22, .op (.ld1 (.t 21)), some (20, false)⟩ :: ⟨some 23, .op (.bin .eql .other true (.t 22) (.c (.int .i64 14))), some (20, false)⟩ :: ⟨some 24, .op (.pick (.t 20) (.c (.bool true)) (.t 23)), some (6, true)⟩ :: oo 25 (.pick (.t 6) (.t 24) (.c (.bool false))) :: om 2 25 :: [])) p50_2))
theorem fn50 : FnOk Tryz.prog 50 p50_4 26 [.t 2] := ⟨false, Tryz.f50, _, Tryz.func50, by decide, rfl, by kernel_rfl, rfl, by kernel_rfl⟩
def F_r25_counts  (N : Nat) (a1 : ApiEntry) : Option (Bool) :=
      bif decide (a1.Auth_ = 0) then
    (bif decide (a1.Kind_ = 2) then
    (some true)
    else
    (bif decide (a1.Kind_ = 3) then
    (some true)
    else
    (bif decide (a1.Kind_ = 9) then
    (some true)
    else
    (some (decide (a1.Kind_ = 14))))))
    else
    (some false)
theorem P_r25_counts  {N : Nat} {a1 : ApiEntry} {r : Bool} (h : F_r25_counts N a1 = some r) : Pure Tryz.prog (Gl.at 0) 50 [(ApiEntry.v a1)] (.bool r) := by
  refine pure_run fn50 ?_
  rw [F_r25_counts] at h
  replace h := bs h
  change GG [.t 2] _ [.pc p50_4] (mk 26 [(0, (ApiEntry.v a1))]) []
  refine go_if h (fun hb2 h => ?_) (fun hb2 h => ?_)
  · refine go_if h (fun hb3 h => ?_) (fun hb3 h => ?_)
    · refine gx mo [.pc p50_2] 26 [(2, (.bool true))] [.row 10 [(ApiEntry.v a1)]] 32 [twb 4 [.row 10 [(ApiEntry.v a1)]] (.bin .eql .other true (.c (i64 a1.Auth_)) (.c (i64 0))) (decide (a1.Auth_ = 0)) true hb2, twb 8 [.row 10 [(ApiEntry.v a1)]] (.bin .eql .other true (.c (i64 a1.Kind_)) (.c (i64 2))) (decide (a1.Kind_ = 2)) true hb3] ?_
      obtain rfl := Option.some.inj h
      exact gf (.bool true) (.same rfl)
    · refine go_if h (fun hb4 h => ?_) (fun hb4 h => ?_)
      · refine gx mo [.pc p50_2] 26 [(2, (.bool true))] [.row 10 [(ApiEntry.v a1)]] 32 [twb 4 [.row 10 [(ApiEntry.v a1)]] (.bin .eql .other true (.c (i64 a1.Auth_)) (.c (i64 0))) (decide (a1.Auth_ = 0)) true hb2, twb 8 [.row 10 [(ApiEntry.v a1)]] (.bin .eql .other true (.c (i64 a1.Kind_)) (.c (i64 2))) (decide (a1.Kind_ = 2)) false hb3, twb 13 [.row 10 [(ApiEntry.v a1)]] (.pick (.c (.bool false)) (.c (.bool true)) (.c (.bool (decide (a1.Kind_ = 3))))) (decide (a1.Kind_ = 3)) true hb4] ?_
        obtain rfl := Option.some.inj h
        exact gf (.bool true) (.same rfl)
      · refine go_if h (fun hb5 h => ?_) (fun hb5 h => ?_)
        · refine gx mo [.pc p50_2] 26 [(2, (.bool true))] [.row 10 [(ApiEntry.v a1)]] 32 [twb 4 [.row 10 [(ApiEntry.v a1)]] (.bin .eql .other true (.c (i64 a1.Auth_)) (.c (i64 0))) (decide (a1.Auth_ = 0)) true hb2, twb 8 [.row 10 [(ApiEntry.v a1)]] (.bin .eql .other true (.c (i64 a1.Kind_)) (.c (i64 2))) (decide (a1.Kind_ = 2)) false hb3, twb 13 [.row 10 [(ApiEntry.v a1)]] (.pick (.c (.bool false)) (.c (.bool true)) (.c (.bool (decide (a1.Kind_ = 3))))) (decide (a1.Kind_ = 3)) false hb4, twb 18 [.row 10 [(ApiEntry.v a1)]] (.pick (.c (.bool false)) (.c (.bool true)) (.c (.bool (decide (a1.Kind_ = 9))))) (decide (a1.Kind_ = 9)) true hb5] ?_
          obtain rfl := Option.some.inj h
          exact gf (.bool true) (.same rfl)
        · refine gx mo [.pc p50_2] 26 [(2, (.bool (decide (a1.Kind_ = 14))))] [.row 10 [(ApiEntry.v a1)]] 32 [twb 4 [.row 10 [(ApiEntry.v a1)]] (.bin .eql .other true (.c (i64 a1.Auth_)) (.c (i64 0))) (decide (a1.Auth_ = 0)) true hb2, twb 8 [.row 10 [(ApiEntry.v a1)]] (.bin .eql .other true (.c (i64 a1.Kind_)) (.c (i64 2))) (decide (a1.Kind_ = 2)) false hb3, twb 13 [.row 10 [(ApiEntry.v a1)]] (.pick (.c (.bool false)) (.c (.bool true)) (.c (.bool (decide (a1.Kind_ = 3))))) (decide (a1.Kind_ = 3)) false hb4, twb 18 [.row 10 [(ApiEntry.v a1)]] (.pick (.c (.bool false)) (.c (.bool true)) (.c (.bool (decide (a1.Kind_ = 9))))) (decide (a1.Kind_ = 9)) false hb5] ?_
          obtain rfl := Option.some.inj h
          exact gf (.bool (decide (a1.Kind_ = 14))) (.same rfl)
  · refine gx mo [.pc p50_2] 26 [(2, (.bool false))] [.row 10 [(ApiEntry.v a1)]] 32 [twb 4 [.row 10 [(ApiEntry.v a1)]] (.bin .eql .other true (.c (i64 a1.Auth_)) (.c (i64 0))) (decide (a1.Auth_ = 0)) false hb2] ?_
    obtain rfl := Option.some.inj h
    exact gf (.bool false) (.same rfl)
/-! corebank/corebankref25.debit -/
def p51_21 : PC := .ret
def p51_22 : PC := (.seq (.reg (om 30 5 :: oo 31 (.max [.c (.int .i64 0), .t 30]) :: om 4 31 :: [])) p51_21)
def p51_14 : PC := (.reg (om 12 6 :: oo 13 (.bin .add .other true (.t 12) (.c (.int .i64 1))) :: om 6 13 :: []))
def p51_11 : PC := (.cond (.t 21) (.reg (om 22 5 :: oo 23 (.fa 8 (.t 2)) :: oo 24 (.ld1 (.t 23)) :: om 25 6 :: oo 26 (.ia 3 (.t 24) (.t 25)) :: oo 27 (.fa 1 (.t 26)) :: oo 28 (.ld1 (.t 27)) :: oo 29 (.bin .add .other false (.t 22) (.t 28)) :: om 5 29 :: [])) .skip)
def p51_15 : PC := (.seq (.block 1 (.seq (.reg (oo 14 (.fa 8 (.t 2)) :: oo 15 (.ld1 (.t 14)) :: om 16 6 :: oo 17 (.ia 3 (.t 15) (.t 16)) :: oo 18 (.fa 0 (.t 17)) :: oo 19 (.ld1 (.t 18)) :: om 20 1 :: oo 21 (.bin .eql .other false (.t 19) (.t 20)) :: [])) p51_11)) p51_14)
def p51_6 : PC := (.cond (.t 11) .skip (.exit 0))
def p51_17 : PC := (.loop (.seq (.seq (.reg (om 7 6 :: oo 8 (.fa 8 (.t 2)) :: oo 9 (.ld1 (.t 8)) :: oo 10 (.len .slice (.t 9)) :: oo 11 (.bin .lss .other false (.t 7) (.t 10)) :: [])) p51_6) p51_15))
def p51_25 : PC := (.seq (.reg (oo 2 (.box (.t 0)) :: oo 4 (.mv (.c (.int .i64 0))) :: [])) (.seq (.reg (oo 5 (.mv (.c (.int .i64 0))) :: [])) (.seq (.seq (.reg (oo 6 (.mv (.c (.int .i64 0))) :: [])) (.block 0 p51_17)) p51_22)))
theorem fn51 : FnOk Tryz.prog 51 p51_25 32 [.t 4] := ⟨false, Tryz.f51, _, Tryz.func51, by decide, rfl, by kernel_rfl, rfl, by kernel_rfl⟩
def L_r25_debit_1 (N : Nat) (a1 : ApiEntry) (a2 : Int) : Nat → Int → Int → Option (Int)
  | 0, _, _ => none
  | m1 + 1, v1_0, v1_1 =>
    bif decide (v1_1 < (a1.Legs_.length : Int)) then
    ((getI a1.Legs_ v1_1).bind fun y8 =>
    bif decide (y8.Account_ = a2) then
    ((getI a1.Legs_ v1_1).bind fun y10 =>
    (L_r25_debit_1 N a1 a2 m1) (IntKind.wrap .i64 (v1_0 + y10.Amount_)) (IntKind.wrap .i64 (v1_1 + 1)))
    else
    ((L_r25_debit_1 N a1 a2 m1) v1_0 (IntKind.wrap .i64 (v1_1 + 1))))
    else
    (some v1_0)
def K_r25_debit_1 (N : Nat)  : (Int) → Option (Int)
  | x1_0 =>
    some (if 0 < x1_0 then x1_0 else 0)
def F_r25_debit  (N : Nat) (a1 : ApiEntry) (a2 : Int) : Option (Int) :=
      (L_r25_debit_1 N a1 a2 N 0 0).bind (K_r25_debit_1 N)
theorem P_r25_debit  {N : Nat} {a1 : ApiEntry} {a2 : Int} {r : Int} (h : F_r25_debit N a1 a2 = some r) : Pure Tryz.prog (Gl.at 0) 51 [(ApiEntry.v a1), (i64 a2)] (i64 r) := by
  refine pure_run fn51 ?_
  rw [F_r25_debit] at h
  replace h := bs h
  change GG [.t 4] _ [.pc p51_25] (mk 32 [(0, (ApiEntry.v a1)), (1, (i64 a2))]) []
  refine gx mo [.pc p51_17, .blk 0, .pc p51_22] 32 [(1, (i64 a2)), (2, (.ref 0 0 0)), (5, (i64 0)), (6, (i64 0))] [.row 10 [(ApiEntry.v a1)]] 15 [] ?_
  refine go_cut (X := Int) (fun x => (K_r25_debit_1 N x).bind some = some r) ([.pc p51_22]) (fun x => (mk 32 [(5, (i64 x))])) (fun x => []) ?_ fun kont1_0 => ?_
  · rintro x1_0 h
    rw [K_r25_debit_1] at h
    refine gx mo [.pc p51_21] 32 [(4, (i64 (if 0 < x1_0 then x1_0 else 0)))] [] 6 [] ?_
    obtain rfl := Option.some.inj h
    exact gf (i64 (if 0 < x1_0 then x1_0 else 0)) (.same rfl)
  refine go_loop' (fun m t s => ∃ (v1_0 : Int) (v1_1 : Int), (L_r25_debit_1 N a1 a2 m v1_0 v1_1).bind (fun q => (K_r25_debit_1 N q).bind some) = some r ∧ t = (mk 32 [(1, (i64 a2)), (2, (.ref 0 0 0)), (5, (i64 v1_0)), (6, (i64 v1_1))]) ∧ s = [.row 10 [(ApiEntry.v a1)]]) N ⟨0, 0, go_assoc h, rfl, rfl⟩ ?_
  intro m1 J1 hJ1 t s
  rintro ⟨v1_0, v1_1, h, rfl, rfl⟩
  cases m1 with
  | zero => exact absurd h (by simp [L_r25_debit_1])
  | succ m1 =>
    rw [L_r25_debit_1] at h
    refine gx mo [.pc p51_6, .pc p51_15, .jp J1, .blk 0, .pc p51_22] 32 [(1, (i64 a2)), (2, (.ref 0 0 0)), (5, (i64 v1_0)), (6, (i64 v1_1)), (11, (.bool (decide (v1_1 < (a1.Legs_.length : Int)))))] [.row 10 [(ApiEntry.v a1)]] 9 [tw 3 (E_len [.row 10 [(ApiEntry.v a1)]] a1.Legs_ ApiLeg.v)] ?_
    refine go_if h (fun hb7 h => ?_) (fun hb7 h => ?_)
    · rw [hb7]
      refine go_bind h (fun y8 hy8 h => ?_)
      refine gx mo [.pc p51_11, .blk 1, .pc p51_14, .jp J1, .blk 0, .pc p51_22] 32 [(1, (i64 a2)), (2, (.ref 0 0 0)), (5, (i64 v1_0)), (6, (i64 v1_1)), (21, (.bool (decide (y8.Account_ = a2))))] [.row 10 [(ApiEntry.v a1)]] 15 [tw 4 (E_ia [.row 10 [(ApiEntry.v a1)]] ApiLeg.v .i64 hy8)] ?_
      refine go_if h (fun hb9 h => ?_) (fun hb9 h => ?_)
      · rw [hb9]
        refine go_bind h (fun y10 hy10 h => ?_)
        refine gx mo [.jp J1, .blk 0, .pc p51_22] 32 [(1, (i64 a2)), (2, (.ref 0 0 0)), (5, (i64 (IntKind.wrap .i64 (v1_0 + y10.Amount_)))), (6, (i64 (IntKind.wrap .i64 (v1_1 + 1))))] [.row 10 [(ApiEntry.v a1)]] 18 [tw 5 (E_ia [.row 10 [(ApiEntry.v a1)]] ApiLeg.v .i64 hy10)] ?_
        exact go_back rfl (hJ1 m1 _ _ (Nat.lt_succ_self m1) ⟨IntKind.wrap .i64 (v1_0 + y10.Amount_), IntKind.wrap .i64 (v1_1 + 1), h, rfl, rfl⟩)
      · rw [hb9]
        refine gx mo [.jp J1, .blk 0, .pc p51_22] 32 [(1, (i64 a2)), (2, (.ref 0 0 0)), (5, (i64 v1_0)), (6, (i64 (IntKind.wrap .i64 (v1_1 + 1))))] [.row 10 [(ApiEntry.v a1)]] 8 [] ?_
        exact go_back rfl (hJ1 m1 _ _ (Nat.lt_succ_self m1) ⟨v1_0, IntKind.wrap .i64 (v1_1 + 1), h, rfl, rfl⟩)
    · rw [hb7]
      refine gx mo [.pc p51_22] 32 [(5, (i64 v1_0))] [.row 10 [(ApiEntry.v a1)]] 2 [] ?_
      refine go_pick [] [] [(5, 0)] (t' := (mk 32 [(5, (i64 v1_0))])) (s' := []) (by kernel_rfl) trivial rfl ?_
      exact kont1_0 v1_0 h
/-! corebank/corebankref25.Spent -/
def p15_23 : PC := .ret
def p15_24 : PC := (.seq (.reg (om 43 9 :: om 8 43 :: [])) p15_23)
def p15_16 : PC := (.reg (om 17 10 :: oo 18 (.bin .add .other true (.t 17) (.c (.int .i64 1))) :: om 10 18 :: []))
def p15_12 : PC := (.cond (.t 37) (.reg (om 38 9 :: oo 39 (.ldA 10 (.t 11)) :: om 40 1 :: ⟨some 41, .call 51 [.t 39, .t 40], none⟩ :: oo 42 (.bin .add .other false (.t 38) (.t 41)) :: om 9 42 :: [])) .skip)
def p15_17 : PC := (.seq (.block 1 (.seq (.reg (oo 19 (.fa 19 (.t 4)) :: oo 20 (.ld1 (.t 19)) :: om 21 10 :: oo 22 (.ia 10 (.t 20) (.t 21)) :: oo 23 (.ldA 10 (.t 22)) :: oo 11 (.new (.agg [.int .i64 0, .int .i64 0, .int .i64 0, .int .i64 0, .int .i64 0, .int .i64 0, .str [], .str [], .nils, .int .u64 0])) :: on_ (.st 10 (.t 11) (.t 23)) :: [])) (.seq (.reg (oo 24 (.ldA 10 (.t 11)) :: ⟨some 25, .call 50 [.t 24], none⟩ :: om 26 25 :: ⟨some 27, .op (.fa 1 (.t 11)), some (26, true)⟩ :: ⟨some 28, .op (.ld1 (.t 27)), some (26, true)⟩ :: ⟨some 29, .op (.mv (.t 2)), some (26, true)⟩ :: ⟨some 30, .op (.bin .geq .other false (.t 28) (.t 29)), some (26, true)⟩ :: oo 31 (.pick (.t 26) (.t 30) (.c (.bool false))) :: om 32 31 :: ⟨some 33, .op (.fa 1 (.t 11)), some (32, true)⟩ :: ⟨some 34, .op (.ld1 (.t 33)), some (32, true)⟩ :: ⟨some 35, .op (.mv (.t 3)), some (32, true)⟩ :: ⟨some 36, .op (.bin .leq .other false (.t 34) (.t 35)), some (32, true)⟩ :: oo 37 (.pick (.t 32) (.t 36) (.c (.bool false))) :: [])) p15_12))) p15_16)
def p15_6 : PC := (.cond (.t 16) .skip (.exit 0))
def p15_19 : PC := (.loop (.seq (.seq (.reg (om 12 10 :: oo 13 (.fa 19 (.t 4)) :: oo 14 (.ld1 (.t 13)) :: oo 15 (.len .slice (.t 14)) :: oo 16 (.bin .lss .other false (.t 12) (.t 15)) :: [])) p15_6) p15_17))
def p15_27 : PC := (.seq (.reg (oo 4 (.box (.t 0)) :: oo 8 (.mv (.c (.int .i64 0))) :: [])) (.seq (.reg (oo 9 (.mv (.c (.int .i64 0))) :: [])) (.seq (.seq (.reg (oo 10 (.mv (.c (.int .i64 0))) :: [])) (.block 0 p15_19)) p15_24)))
theorem fn15 : FnOk Tryz.prog 15 p15_27 44 [.t 8] := ⟨false, Tryz.f15, _, Tryz.func15, by decide, rfl, by kernel_rfl, rfl, by kernel_rfl⟩
def L_r25_Spent_1 (N : Nat) (a1 : ApiBooks) (a2 : Int) (a3 : Int) (a4 : Int) : Nat → Int → Int → Option (Int)
  | 0, _, _ => none
  | m1 + 1, v1_0, v1_1 =>
    bif decide (v1_1 < (a1.Journal_.length : Int)) then
    ((getI a1.Journal_ v1_1).bind fun y13 =>
    (F_r25_counts N y13).bind fun r14 =>
    bif r14 then
    (bif decide (a3 ≤ y13.Booked_) then
    (bif decide (y13.Booked_ ≤ a4) then
    ((F_r25_debit N y13 a2).bind fun r18 =>
    (L_r25_Spent_1 N a1 a2 a3 a4 m1) (IntKind.wrap .i64 (v1_0 + r18)) (IntKind.wrap .i64 (v1_1 + 1)))
    else
    ((L_r25_Spent_1 N a1 a2 a3 a4 m1) v1_0 (IntKind.wrap .i64 (v1_1 + 1))))
    else
    ((L_r25_Spent_1 N a1 a2 a3 a4 m1) v1_0 (IntKind.wrap .i64 (v1_1 + 1))))
    else
    ((L_r25_Spent_1 N a1 a2 a3 a4 m1) v1_0 (IntKind.wrap .i64 (v1_1 + 1))))
    else
    (some v1_0)
def K_r25_Spent_1 (N : Nat)  : (Int) → Option (Int)
  | x1_0 =>
    some x1_0
def F_r25_Spent  (N : Nat) (a1 : ApiBooks) (a2 : Int) (a3 : Int) (a4 : Int) : Option (Int) :=
      (L_r25_Spent_1 N a1 a2 a3 a4 N 0 0).bind (K_r25_Spent_1 N)
theorem P_r25_Spent  {N : Nat} {a1 : ApiBooks} {a2 : Int} {a3 : Int} {a4 : Int} {r : Int} (h : F_r25_Spent N a1 a2 a3 a4 = some r) : Pure Tryz.prog (Gl.at 0) 15 [(ApiBooks.v a1), (i64 a2), (i64 a3), (i64 a4)] (i64 r) := by
  refine pure_run fn15 ?_
  rw [F_r25_Spent] at h
  replace h := bs h
  change GG [.t 8] _ [.pc p15_27] (mk 44 [(0, (ApiBooks.v a1)), (1, (i64 a2)), (2, (i64 a3)), (3, (i64 a4))]) []
  refine gx mo [.pc p15_19, .blk 0, .pc p15_24] 44 [(1, (i64 a2)), (2, (i64 a3)), (3, (i64 a4)), (4, (.ref 0 0 0)), (9, (i64 0)), (10, (i64 0))] [.row 22 [(ApiBooks.v a1)]] 15 [] ?_
  refine go_cut (X := Int) (fun x => (K_r25_Spent_1 N x).bind some = some r) ([.pc p15_24]) (fun x => (mk 44 [(9, (i64 x))])) (fun x => []) ?_ fun kont1_0 => ?_
  · rintro x1_0 h
    rw [K_r25_Spent_1] at h
    refine gx mo [.pc p15_23] 44 [(8, (i64 x1_0))] [] 5 [] ?_
    obtain rfl := Option.some.inj h
    exact gf (i64 x1_0) (.same rfl)
  refine go_loop' (fun m t s => ∃ (v1_0 : Int) (v1_1 : Int), (L_r25_Spent_1 N a1 a2 a3 a4 m v1_0 v1_1).bind (fun q => (K_r25_Spent_1 N q).bind some) = some r ∧ t = (mk 44 [(1, (i64 a2)), (2, (i64 a3)), (3, (i64 a4)), (4, (.ref 0 0 0)), (9, (i64 v1_0)), (10, (i64 v1_1))]) ∧ s = [.row 22 [(ApiBooks.v a1)]]) N ⟨0, 0, go_assoc h, rfl, rfl⟩ ?_
  intro m1 J1 hJ1 t s
  rintro ⟨v1_0, v1_1, h, rfl, rfl⟩
  cases m1 with
  | zero => exact absurd h (by simp [L_r25_Spent_1])
  | succ m1 =>
    rw [L_r25_Spent_1] at h
    refine gx mo [.pc p15_6, .pc p15_17, .jp J1, .blk 0, .pc p15_24] 44 [(1, (i64 a2)), (2, (i64 a3)), (3, (i64 a4)), (4, (.ref 0 0 0)), (9, (i64 v1_0)), (10, (i64 v1_1)), (16, (.bool (decide (v1_1 < (a1.Journal_.length : Int)))))] [.row 22 [(ApiBooks.v a1)]] 9 [tw 3 (E_len [.row 22 [(ApiBooks.v a1)]] a1.Journal_ ApiEntry.v)] ?_
    refine go_if h (fun hb12 h => ?_) (fun hb12 h => ?_)
    · rw [hb12]
      refine go_bind h (fun y13 hy13 h => ?_)
      refine go_bind h (fun r14 hr14 h => ?_)
      refine go_if h (fun hb15 h => ?_) (fun hb15 h => ?_)
      · refine go_if h (fun hb16 h => ?_) (fun hb16 h => ?_)
        · refine gx mo [.pc p15_12, .blk 1, .pc p15_16, .jp J1, .blk 0, .pc p15_24] 44 [(1, (i64 a2)), (2, (i64 a3)), (3, (i64 a4)), (4, (.ref 0 0 0)), (9, (i64 v1_0)), (10, (i64 v1_1)), (11, (.ref 1 0 0)), (37, (.bool (decide (y13.Booked_ ≤ a4))))] [.row 22 [(ApiBooks.v a1)], .row 10 [(ApiEntry.v y13)]] 31 [tw 4 (E_ia [.row 22 [(ApiBooks.v a1)]] ApiEntry.v .i64 hy13), tc 9 [.row 22 [(ApiBooks.v a1)], .row 10 [(ApiEntry.v y13)]] (P_r25_counts hr14) (fg fl_nil), twb 10 [.row 22 [(ApiBooks.v a1)], .row 10 [(ApiEntry.v y13)]] (.mv (.c (.bool r14))) (r14) true hb15, twb 15 [.row 22 [(ApiBooks.v a1)], .row 10 [(ApiEntry.v y13)]] (.pick (.c (.bool true)) (.c (.bool (decide (a3 ≤ y13.Booked_)))) (.c (.bool false))) (decide (a3 ≤ y13.Booked_)) true hb16] ?_
          refine go_if h (fun hb17 h => ?_) (fun hb17 h => ?_)
          · rw [hb17]
            refine go_bind h (fun r18 hr18 h => ?_)
            refine gx mo [.jp J1, .blk 0, .pc p15_24] 44 [(1, (i64 a2)), (2, (i64 a3)), (3, (i64 a4)), (4, (.ref 0 0 0)), (9, (i64 (IntKind.wrap .i64 (v1_0 + r18)))), (10, (i64 (IntKind.wrap .i64 (v1_1 + 1))))] [.row 22 [(ApiBooks.v a1)], .row 10 [(ApiEntry.v y13)]] 15 [tc 4 [.row 22 [(ApiBooks.v a1)], .row 10 [(ApiEntry.v y13)]] (P_r25_debit hr18) (fg (fs fl_nil))] ?_
            refine go_pick [0] [] [(1, 0), (2, 0), (3, 0), (4, 0), (9, 0), (10, 0)] (t' := (mk 44 [(1, (i64 a2)), (2, (i64 a3)), (3, (i64 a4)), (4, (.ref 0 0 0)), (9, (i64 (IntKind.wrap .i64 (v1_0 + r18)))), (10, (i64 (IntKind.wrap .i64 (v1_1 + 1))))])) (s' := [.row 22 [(ApiBooks.v a1)]]) (by kernel_rfl) ⟨clo_one rfl, trivial⟩ rfl ?_
            exact go_back rfl (hJ1 m1 _ _ (Nat.lt_succ_self m1) ⟨IntKind.wrap .i64 (v1_0 + r18), IntKind.wrap .i64 (v1_1 + 1), h, rfl, rfl⟩)
          · rw [hb17]
            refine gx mo [.jp J1, .blk 0, .pc p15_24] 44 [(1, (i64 a2)), (2, (i64 a3)), (3, (i64 a4)), (4, (.ref 0 0 0)), (9, (i64 v1_0)), (10, (i64 (IntKind.wrap .i64 (v1_1 + 1))))] [.row 22 [(ApiBooks.v a1)], .row 10 [(ApiEntry.v y13)]] 8 [] ?_
            refine go_pick [0] [] [(1, 0), (2, 0), (3, 0), (4, 0), (9, 0), (10, 0)] (t' := (mk 44 [(1, (i64 a2)), (2, (i64 a3)), (3, (i64 a4)), (4, (.ref 0 0 0)), (9, (i64 v1_0)), (10, (i64 (IntKind.wrap .i64 (v1_1 + 1))))])) (s' := [.row 22 [(ApiBooks.v a1)]]) (by kernel_rfl) ⟨clo_one rfl, trivial⟩ rfl ?_
            exact go_back rfl (hJ1 m1 _ _ (Nat.lt_succ_self m1) ⟨v1_0, IntKind.wrap .i64 (v1_1 + 1), h, rfl, rfl⟩)
        · refine gx mo [.jp J1, .blk 0, .pc p15_24] 44 [(1, (i64 a2)), (2, (i64 a3)), (3, (i64 a4)), (4, (.ref 0 0 0)), (9, (i64 v1_0)), (10, (i64 (IntKind.wrap .i64 (v1_1 + 1))))] [.row 22 [(ApiBooks.v a1)], .row 10 [(ApiEntry.v y13)]] 39 [tw 4 (E_ia [.row 22 [(ApiBooks.v a1)]] ApiEntry.v .i64 hy13), tc 9 [.row 22 [(ApiBooks.v a1)], .row 10 [(ApiEntry.v y13)]] (P_r25_counts hr14) (fg fl_nil), twb 10 [.row 22 [(ApiBooks.v a1)], .row 10 [(ApiEntry.v y13)]] (.mv (.c (.bool r14))) (r14) true hb15, twb 15 [.row 22 [(ApiBooks.v a1)], .row 10 [(ApiEntry.v y13)]] (.pick (.c (.bool true)) (.c (.bool (decide (a3 ≤ y13.Booked_)))) (.c (.bool false))) (decide (a3 ≤ y13.Booked_)) false hb16] ?_
          refine go_pick [0] [] [(1, 0), (2, 0), (3, 0), (4, 0), (9, 0), (10, 0)] (t' := (mk 44 [(1, (i64 a2)), (2, (i64 a3)), (3, (i64 a4)), (4, (.ref 0 0 0)), (9, (i64 v1_0)), (10, (i64 (IntKind.wrap .i64 (v1_1 + 1))))])) (s' := [.row 22 [(ApiBooks.v a1)]]) (by kernel_rfl) ⟨clo_one rfl, trivial⟩ rfl ?_
          exact go_back rfl (hJ1 m1 _ _ (Nat.lt_succ_self m1) ⟨v1_0, IntKind.wrap .i64 (v1_1 + 1), h, rfl, rfl⟩)
      · refine gx mo [.jp J1, .blk 0, .pc p15_24] 44 [(1, (i64 a2)), (2, (i64 a3)), (3, (i64 a4)), (4, (.ref 0 0 0)), (9, (i64 v1_0)), (10, (i64 (IntKind.wrap .i64 (v1_1 + 1))))] [.row 22 [(ApiBooks.v a1)], .row 10 [(ApiEntry.v y13)]] 39 [tw 4 (E_ia [.row 22 [(ApiBooks.v a1)]] ApiEntry.v .i64 hy13), tc 9 [.row 22 [(ApiBooks.v a1)], .row 10 [(ApiEntry.v y13)]] (P_r25_counts hr14) (fg fl_nil), twb 10 [.row 22 [(ApiBooks.v a1)], .row 10 [(ApiEntry.v y13)]] (.mv (.c (.bool r14))) (r14) false hb15] ?_
        refine go_pick [0] [] [(1, 0), (2, 0), (3, 0), (4, 0), (9, 0), (10, 0)] (t' := (mk 44 [(1, (i64 a2)), (2, (i64 a3)), (3, (i64 a4)), (4, (.ref 0 0 0)), (9, (i64 v1_0)), (10, (i64 (IntKind.wrap .i64 (v1_1 + 1))))])) (s' := [.row 22 [(ApiBooks.v a1)]]) (by kernel_rfl) ⟨clo_one rfl, trivial⟩ rfl ?_
        exact go_back rfl (hJ1 m1 _ _ (Nat.lt_succ_self m1) ⟨v1_0, IntKind.wrap .i64 (v1_1 + 1), h, rfl, rfl⟩)
    · rw [hb12]
      refine gx mo [.pc p15_24] 44 [(9, (i64 v1_0))] [.row 22 [(ApiBooks.v a1)]] 2 [] ?_
      refine go_pick [] [] [(9, 0)] (t' := (mk 44 [(9, (i64 v1_0))])) (s' := []) (by kernel_rfl) trivial rfl ?_
      exact kont1_0 v1_0 h
/-! corebank/corebanklaw25.moved -/
def p21_2 : PC := .ret
def p21_4 : PC := (.seq (.reg (oo 2 (.new (.agg [.int .i64 0, .int .i64 0, .int .i64 0, .int .i64 0, .int .i64 0, .int .i64 0, .str [], .str [], .nils, .int .u64 0])) :: [])) (.seq (.reg (om 3 0 :: oo 4 (.build [.int .i64 0, .int .i64 0, .str []] [(0, 1, .c (.int .i64 1000)), (1, 1, .t 3), (2, 1, .c (.str [69, 85, 82]))]) :: om 5 0 :: oo 6 (.un .neg (.t 5)) :: oo 7 (.build [.int .i64 0, .int .i64 0, .str []] [(0, 1, .c (.int .i64 1)), (1, 1, .t 6), (2, 1, .c (.str [69, 85, 82]))]) :: oo 8 (.lit (.agg [.int .i64 0, .int .i64 0, .str []]) 2 [(0, .t 4), (1, .t 7)]) :: oo 9 (.build [.int .i64 0, .int .i64 0, .int .i64 0, .int .i64 0, .int .i64 0, .int .i64 0, .str [], .str [], .nils, .int .u64 0] [(1, 1, .c (.int .i64 10)), (2, 1, .c (.int .i64 10)), (3, 1, .c (.int .i64 2)), (6, 1, .c (.str [119])), (8, 1, .t 8)]) :: on_ (.st 10 (.t 2) (.t 9)) :: [])) p21_2))
theorem fn21 : FnOk Tryz.prog 21 p21_4 10 [.a 2 10] := ⟨false, Tryz.f21, _, Tryz.func21, by decide, rfl, by kernel_rfl, rfl, by kernel_rfl⟩
def F_law25_moved  (N : Nat) (a1 : Int) : Option (ApiEntry) :=
      some (⟨0, 10, 10, 2, 0, 0, [119], [], [(⟨1000, a1, [69, 85, 82]⟩ : ApiLeg), (⟨1, IntKind.wrap .i64 (0 - a1), [69, 85, 82]⟩ : ApiLeg)], 0⟩ : ApiEntry)
theorem P_law25_moved  {N : Nat} {a1 : Int} {r : ApiEntry} (h : F_law25_moved N a1 = some r) : Pure Tryz.prog (Gl.at 0) 21 [(i64 a1)] (ApiEntry.v r) := by
  refine pure_run fn21 ?_
  rw [F_law25_moved] at h
  replace h := bs h
  change GG [.a 2 10] _ [.pc p21_4] (mk 10 [(0, (i64 a1))]) []
  refine gx mo [.pc p21_2] 10 [(2, (.ref 0 0 0))] [.row 10 [(.agg [(i64 0), (i64 10), (i64 10), (i64 2), (i64 0), (i64 0), (.str [119]), (.str []), (.sl [(.agg [(i64 1000), (i64 a1), (.str [69, 85, 82])]), (.agg [(i64 1), (i64 (IntKind.wrap .i64 (0 - a1))), (.str [69, 85, 82])])]), (.int .u64 0)])]] 15 [] ?_
  obtain rfl := Option.some.inj h
  exact gf (.agg [(i64 0), (i64 10), (i64 10), (i64 2), (i64 0), (i64 0), (.str [119]), (.str []), (.sl [(.agg [(i64 1000), (i64 a1), (.str [69, 85, 82])]), (.agg [(i64 1), (i64 (IntKind.wrap .i64 (0 - a1))), (.str [69, 85, 82])])]), (.int .u64 0)]) (f_aggl (fs (fs (fs (fs (fs (fs (fs (fs (fs (fs fl_nil)))))))))))
/-! corebank/corebanklaw25.books -/
def p19_5 : PC := .ret
def p19_10 : PC := (.seq (.reg (oo 0 (.new (.agg [.nils, .nils, .nils, .int .i64 0, .int .i64 0, .int .i64 0, .int .i64 0, .int .i64 0, .int .i64 0, .int .i64 0, .int .i64 0, .int .i64 0, .int .i64 0, .int .i64 0, .int .i64 0, .int .i64 0, .int .i64 0, .nils, .nils, .nils, .nils, .nils])) :: [])) (.seq (.reg (oo 3 (.build [.int .i64 0, .int .i64 0, .str [], .nils] [(0, 1, .c (.int .i64 2)), (1, 1, .c (.int .i64 600))]) :: oo 4 (.build [.str [], .int .i64 0, .int .i64 0, .int .i64 0, .str [], .nils] [(0, 1, .c (.str [111, 110, 101])), (1, 1, .c (.int .i64 1)), (2, 4, .t 3)]) :: oo 5 (.lit (.agg [.str [], .int .i64 0, .int .i64 0, .int .i64 0, .str [], .nils]) 1 [(0, .t 4)]) :: oo 6 (.build [.str [], .str [], .str [], .int .i64 0, .int .i64 0, .int .i64 0, .int .i64 0, .nils, .bool false, .int .i64 0, .int .i64 0, .bool false, .nils, .bool false, .int .i64 0, .int .i64 0, .bool false, .nils, .nils] [(0, 1, .c (.str [98, 97, 115, 105, 99])), (1, 1, .c (.str [69, 85, 82])), (2, 1, .c (.str [119, 101, 101, 107])), (4, 1, .c (.int .i64 1)), (5, 1, .c (.int .i64 500)), (18, 1, .t 5)]) :: oo 1 (.new (.agg [.str [], .str [], .str [], .int .i64 0, .int .i64 0, .int .i64 0, .int .i64 0, .nils, .bool false, .int .i64 0, .int .i64 0, .bool false, .nils, .bool false, .int .i64 0, .int .i64 0, .bool false, .nils, .nils])) :: on_ (.st 19 (.t 1) (.t 6)) :: [])) (.seq (.reg (⟨some 7, .call 21 [.c (.int .i64 (-300))], none⟩ :: oo 2 (.new (.agg [.int .i64 0, .int .i64 0, .int .i64 0, .int .i64 0, .int .i64 0, .int .i64 0, .str [], .str [], .nils, .int .u64 0])) :: on_ (.st 10 (.t 2) (.t 7)) :: [])) (.seq (.reg (oo 8 (.fa 1 (.t 2)) :: on_ (.st 1 (.t 8) (.c (.int .i64 6))) :: oo 9 (.fa 2 (.t 2)) :: on_ (.st 1 (.t 9) (.c (.int .i64 6))) :: oo 10 (.fa 3 (.t 2)) :: on_ (.st 1 (.t 10) (.c (.int .i64 1))) :: oo 11 (.fa 6 (.t 2)) :: on_ (.st 1 (.t 11) (.c (.str [100]))) :: [])) (.seq (.reg (oo 12 (.ldA 19 (.t 1)) :: oo 13 (.lit (.agg [.str [], .str [], .str [], .int .i64 0, .int .i64 0, .int .i64 0, .int .i64 0, .nils, .bool false, .int .i64 0, .int .i64 0, .bool false, .nils, .bool false, .int .i64 0, .int .i64 0, .bool false, .nils, .nils]) 1 [(0, .t 12)]) :: oo 14 (.build [.int .i64 0, .int .i64 0, .int .i64 0, .int .i64 0, .str [], .str [], .str []] [(0, 1, .c (.int .i64 1000)), (1, 1, .c (.int .i64 5)), (4, 1, .c (.str [97, 110, 110])), (5, 1, .c (.str [98, 97, 115, 105, 99]))]) :: oo 15 (.lit (.agg [.int .i64 0, .int .i64 0, .int .i64 0, .int .i64 0, .str [], .str [], .str []]) 1 [(0, .t 14)]) :: oo 16 (.ldA 10 (.t 2)) :: oo 17 (.lit (.agg [.int .i64 0, .int .i64 0, .int .i64 0, .int .i64 0, .int .i64 0, .int .i64 0, .str [], .str [], .nils, .int .u64 0]) 1 [(0, .t 16)]) :: oo 18 (.build [.int .i64 0, .int .i64 0, .int .i64 0, .int .i64 0, .int .i64 0, .str []] [(0, 1, .c (.int .i64 1)), (1, 1, .c (.int .i64 1000)), (2, 1, .c (.int .i64 100)), (3, 1, .c (.int .i64 7)), (4, 1, .c (.int .i64 10)), (5, 1, .c (.str [104]))]) :: oo 19 (.lit (.agg [.int .i64 0, .int .i64 0, .int .i64 0, .int .i64 0, .int .i64 0, .str []]) 1 [(0, .t 18)]) :: oo 20 (.build [.nils, .nils, .nils, .int .i64 0, .int .i64 0, .int .i64 0, .int .i64 0, .int .i64 0, .int .i64 0, .int .i64 0, .int .i64 0, .int .i64 0, .int .i64 0, .int .i64 0, .int .i64 0, .int .i64 0, .int .i64 0, .nils, .nils, .nils, .nils, .nils] [(17, 1, .t 13), (18, 1, .t 15), (19, 1, .t 17), (20, 1, .t 19)]) :: on_ (.st 22 (.t 0) (.t 20)) :: [])) p19_5)))))
theorem fn19 : FnOk Tryz.prog 19 p19_10 21 [.a 0 22] := ⟨false, Tryz.f19, _, Tryz.func19, by decide, rfl, by kernel_rfl, rfl, by kernel_rfl⟩
def F_law25_books  (N : Nat)  : Option (ApiBooks) :=
      (F_law25_moved N (-300)).bind fun r1 =>
    some (⟨[], [], [], ⟨0, 0, 0, 0, 0, 0, 0, 0, 0, 0, 0, 0, 0, 0⟩, [(⟨[98, 97, 115, 105, 99], [69, 85, 82], [119, 101, 101, 107], 0, 1, 500, 0, ⟨[], false, 0, 0, false⟩, ⟨[], false, 0, 0, false⟩, [], [(⟨[111, 110, 101], 1, ⟨2, 600, [], []⟩⟩ : ApiRule)]⟩ : ApiProduct)], [(⟨1000, 5, 0, 0, [97, 110, 110], [98, 97, 115, 105, 99], []⟩ : ApiAccount)], [(⟨r1.Id_, 6, 6, 1, r1.Auth_, r1.Period_, [100], r1.Text_, r1.Legs_, r1.Chain_⟩ : ApiEntry)], [(⟨1, 1000, 100, 7, 10, [104]⟩ : ApiHold)], []⟩ : ApiBooks)
theorem P_law25_books  {N : Nat}  {r : ApiBooks} (h : F_law25_books N  = some r) : Pure Tryz.prog (Gl.at 0) 19 [] (ApiBooks.v r) := by
  refine pure_run fn19 ?_
  rw [F_law25_books] at h
  replace h := bs h
  change GG [.a 0 22] _ [.pc p19_10] (mk 21 []) []
  refine go_bind h (fun r1 hr1 h => ?_)
  refine gx mo [.pc p19_5] 21 [(0, (.ref 0 0 0))] [.row 22 [(.agg [.nils, .nils, .nils, (i64 0), (i64 0), (i64 0), (i64 0), (i64 0), (i64 0), (i64 0), (i64 0), (i64 0), (i64 0), (i64 0), (i64 0), (i64 0), (i64 0), (.sl [(.agg [(.str [98, 97, 115, 105, 99]), (.str [69, 85, 82]), (.str [119, 101, 101, 107]), (i64 0), (i64 1), (i64 500), (i64 0), .nils, (.bool false), (i64 0), (i64 0), (.bool false), .nils, (.bool false), (i64 0), (i64 0), (.bool false), .nils, (.sl [(.agg [(.str [111, 110, 101]), (i64 1), (i64 2), (i64 600), (.str []), .nils])])])]), (.sl [(.agg [(i64 1000), (i64 5), (i64 0), (i64 0), (.str [97, 110, 110]), (.str [98, 97, 115, 105, 99]), (.str [])])]), (.sl [(.agg [(i64 r1.Id_), (i64 6), (i64 6), (i64 1), (i64 r1.Auth_), (i64 r1.Period_), (.str [100]), (.str r1.Text_), (.sl (r1.Legs_.map ApiLeg.v)), (.int .u64 r1.Chain_)])]), (.sl [(.agg [(i64 1), (i64 1000), (i64 100), (i64 7), (i64 10), (.str [104])])]), .nils])], .row 19 [(.agg [(.str [98, 97, 115, 105, 99]), (.str [69, 85, 82]), (.str [119, 101, 101, 107]), (i64 0), (i64 1), (i64 500), (i64 0), .nils, (.bool false), (i64 0), (i64 0), (.bool false), .nils, (.bool false), (i64 0), (i64 0), (.bool false), .nils, (.sl [(.agg [(.str [111, 110, 101]), (i64 1), (i64 2), (i64 600), (.str []), .nils])])])], .row 10 [(.agg [(i64 r1.Id_), (i64 6), (i64 6), (i64 1), (i64 r1.Auth_), (i64 r1.Period_), (.str [100]), (.str r1.Text_), (.sl (r1.Legs_.map ApiLeg.v)), (.int .u64 r1.Chain_)])]] 43 [tcc 7 [.row 22 [(.agg [.nils, .nils, .nils, (i64 0), (i64 0), (i64 0), (i64 0), (i64 0), (i64 0), (i64 0), (i64 0), (i64 0), (i64 0), (i64 0), (i64 0), (i64 0), (i64 0), .nils, .nils, .nils, .nils, .nils])], .row 19 [(.agg [(.str [98, 97, 115, 105, 99]), (.str [69, 85, 82]), (.str [119, 101, 101, 107]), (i64 0), (i64 1), (i64 500), (i64 0), .nils, (.bool false), (i64 0), (i64 0), (.bool false), .nils, (.bool false), (i64 0), (i64 0), (.bool false), .nils, (.sl [(.agg [(.str [111, 110, 101]), (i64 1), (i64 2), (i64 600), (.str []), .nils])])])]] (P_law25_moved hr1) (fs fl_nil)] ?_
  obtain rfl := Option.some.inj h
  exact gf (.agg [.nils, .nils, .nils, (i64 0), (i64 0), (i64 0), (i64 0), (i64 0), (i64 0), (i64 0), (i64 0), (i64 0), (i64 0), (i64 0), (i64 0), (i64 0), (i64 0), (.sl [(.agg [(.str [98, 97, 115, 105, 99]), (.str [69, 85, 82]), (.str [119, 101, 101, 107]), (i64 0), (i64 1), (i64 500), (i64 0), .nils, (.bool false), (i64 0), (i64 0), (.bool false), .nils, (.bool false), (i64 0), (i64 0), (.bool false), .nils, (.sl [(.agg [(.str [111, 110, 101]), (i64 1), (i64 2), (i64 600), (.str []), .nils])])])]), (.sl [(.agg [(i64 1000), (i64 5), (i64 0), (i64 0), (.str [97, 110, 110]), (.str [98, 97, 115, 105, 99]), (.str [])])]), (.sl [(.agg [(i64 r1.Id_), (i64 6), (i64 6), (i64 1), (i64 r1.Auth_), (i64 r1.Period_), (.str [100]), (.str r1.Text_), (.sl (r1.Legs_.map ApiLeg.v)), (.int .u64 r1.Chain_)])]), (.sl [(.agg [(i64 1), (i64 1000), (i64 100), (i64 7), (i64 10), (.str [104])])]), .nils]) (f_aggl (fl_cons .nil0 (fl_cons .nil0 (fl_cons .nil0 (fs (fs (fs (fs (fs (fs (fs (fs (fs (fs (fs (fs (fs (fs (fl_cons (f_cz (d := 6) (by kernel_rfl) rfl) (fs (fs (fs (fl_cons .nil0 fl_nil)))))))))))))))))))))))
/-! corebank/date.Valid -/
def p23_2 : PC := .ret
def p23_4 : PC := (.seq (.reg (oo 2 (.mv (.c (.bool false))) :: [])) (.seq (.reg (om 3 0 :: oo 4 (.bin .geq .other true (.t 3) (.c (.int .i64 0))) :: om 5 4 :: ⟨some 6, .op (.mv (.t 0)), some (5, true)⟩ :: ⟨some 7, .op (.bin .leq .other true (.t 6) (.c (.int .i64 73048))), some (5, true)⟩ :: oo 8 (.pick (.t 5) (.t 7) (.c (.bool false))) :: om 2 8 :: [])) p23_2))
theorem fn23 : FnOk Tryz.prog 23 p23_4 9 [.t 2] := ⟨false, Tryz.f23, _, Tryz.func23, by decide, rfl, by kernel_rfl, rfl, by kernel_rfl⟩
def F_date_Valid  (N : Nat) (a1 : Int) : Option (Bool) :=
      bif decide (0 ≤ a1) then
    (some (decide (a1 ≤ 73048)))
    else
    (none)
theorem P_date_Valid  {N : Nat} {a1 : Int} {r : Bool} (h : F_date_Valid N a1 = some r) : Pure Tryz.prog (Gl.at 0) 23 [(i64 a1)] (.bool r) := by
  refine pure_run fn23 ?_
  rw [F_date_Valid] at h
  replace h := bs h
  change GG [.t 2] _ [.pc p23_4] (mk 9 [(0, (i64 a1))]) []
  refine go_if h (fun hb2 h => ?_) (fun hb2 h => ?_)
  · refine gx mo [.pc p23_2] 9 [(2, (.bool (decide (a1 ≤ 73048))))] [] 14 [twb 2 [] (.bin .geq .other true (.c (i64 a1)) (.c (i64 0))) (decide (0 ≤ a1)) true hb2] ?_
    obtain rfl := Option.some.inj h
    exact gf (.bool (decide (a1 ≤ 73048))) (.same rfl)
  · cases h
/-! corebank/account.Active -/
def p24_3 : PC := .ret
def p24_6 : PC := (.seq (.reg (oo 3 (.box (.t 0)) :: oo 6 (.mv (.c (.bool false))) :: [])) (.seq (.reg (oo 10 (.ldA 22 (.t 3)) :: om 11 1 :: ⟨some 12, .call 22 [.t 10, .t 11], none⟩ :: om 9 12 :: oo 13 (.ext 0 (.t 9)) :: oo 14 (.ext 1 (.t 9)) :: oo 7 (.new (.agg [.int .i64 0, .int .i64 0, .int .i64 0, .int .i64 0, .str [], .str [], .str []])) :: on_ (.st 7 (.t 7) (.t 13)) :: om 8 14 :: [])) (.seq (.reg (om 15 8 :: om 16 15 :: ⟨some 17, .op (.fa 1 (.t 7)), some (16, true)⟩ :: ⟨some 18, .op (.ld1 (.t 17)), some (16, true)⟩ :: ⟨some 19, .op (.mv (.t 2)), some (16, true)⟩ :: ⟨some 20, .op (.bin .leq .other false (.t 18) (.t 19)), some (16, true)⟩ :: oo 21 (.pick (.t 16) (.t 20) (.c (.bool false))) :: om 22 21 :: ⟨some 23, .op (.fa 2 (.t 7)), some (22, true)⟩ :: ⟨some 24, .op (.ld1 (.t 23)), some (22, true)⟩ :: ⟨some 25, .op (.bin .eql .other true (.t 24) (.c (.int .i64 0))), some (22, true)⟩ :: ⟨some 26, .op (.mv (.t 25)), some (22, true)⟩ :: ⟨some 27, .op (.fa 2 (.t 7)), some (26, false)⟩ :: ⟨some 28, .op (.ld1 (.t 27)), some (26, false)⟩ :: ⟨some 29, .op (.mv (.t 2)), some (26, false)⟩ :: ⟨some 30, .op (.bin .gtr .other false (.t 28) (.t 29)), some (26, false)⟩ :: ⟨some 31, .op (.pick (.t 26) (.c (.bool true)) (.t 30)), some (22, true)⟩ :: oo 32 (.pick (.t 22) (.t 31) (.c (.bool false))) :: om 6 32 :: [])) p24_3)))
theorem fn24 : FnOk Tryz.prog 24 p24_6 33 [.t 6] := ⟨false, Tryz.f24, _, Tryz.func24, by decide, rfl, by kernel_rfl, rfl, by kernel_rfl⟩
def F_account_Active  (N : Nat) (a1 : ApiBooks) (a2 : Int) (a3 : Int) : Option (Bool) :=
      (F_account_Find N a1 a2).bind fun r4 =>
    bif r4.2 then
    (bif decide (r4.1.Opened_ ≤ a3) then
    (bif decide (r4.1.Closed_ = 0) then
    (some true)
    else
    (none))
    else
    (none))
    else
    (none)
theorem P_account_Active  {N : Nat} {a1 : ApiBooks} {a2 : Int} {a3 : Int} {r : Bool} (h : F_account_Active N a1 a2 a3 = some r) : Pure Tryz.prog (Gl.at 0) 24 [(ApiBooks.v a1), (i64 a2), (i64 a3)] (.bool r) := by
  refine pure_run fn24 ?_
  rw [F_account_Active] at h
  replace h := bs h
  change GG [.t 6] _ [.pc p24_6] (mk 33 [(0, (ApiBooks.v a1)), (1, (i64 a2)), (2, (i64 a3))]) []
  refine go_bind h (fun r4 hr4 h => ?_)
  refine go_if h (fun hb5 h => ?_) (fun hb5 h => ?_)
  · refine go_if h (fun hb6 h => ?_) (fun hb6 h => ?_)
    · refine go_if h (fun hb7 h => ?_) (fun hb7 h => ?_)
      · refine gx mo [.pc p24_3] 33 [(6, (.bool true))] [.row 22 [(ApiBooks.v a1)], .row 7 [(ApiAccount.v r4.1)]] 39 [tc 4 [.row 22 [(ApiBooks.v a1)]] (P_account_Find hr4) (fg (fs fl_nil)), twb 11 [.row 22 [(ApiBooks.v a1)], .row 7 [(ApiAccount.v r4.1)]] (.mv (.c (.bool r4.2))) (r4.2) true hb5, twb 17 [.row 22 [(ApiBooks.v a1)], .row 7 [(ApiAccount.v r4.1)]] (.pick (.c (.bool true)) (.c (.bool (decide (r4.1.Opened_ ≤ a3)))) (.c (.bool false))) (decide (r4.1.Opened_ ≤ a3)) true hb6, twb 21 [.row 22 [(ApiBooks.v a1)], .row 7 [(ApiAccount.v r4.1)]] (.bin .eql .other true (.c (i64 r4.1.Closed_)) (.c (i64 0))) (decide (r4.1.Closed_ = 0)) true hb7] ?_
        obtain rfl := Option.some.inj h
        exact gf (.bool true) (.same rfl)
      · cases h
    · cases h
  · cases h
/-! corebank/date.begin -/
def p81_9 : PC := .ret
def p81_10 : PC := (.seq (.reg (om 14 3 :: oo 15 (.bin .mul .other true (.c (.int .i64 365)) (.t 14)) :: om 16 4 :: oo 17 (.bin .add .other false (.t 15) (.t 16)) :: om 2 17 :: [])) p81_9)
def p81_6 : PC := (.cond (.t 11) (.reg (om 12 4 :: oo 13 (.bin .sub .other true (.t 12) (.c (.int .i64 1))) :: om 4 13 :: [])) .skip)
def p81_14 : PC := (.seq (.reg (oo 2 (.mv (.c (.int .i64 0))) :: [])) (.seq (.reg (om 5 0 :: oo 6 (.bin .sub .other true (.t 5) (.c (.int .i64 2000))) :: om 3 6 :: [])) (.seq (.reg (om 7 3 :: oo 8 (.bin .add .other true (.t 7) (.c (.int .i64 3))) :: oo 9 (.bin .quo .other true (.t 8) (.c (.int .i64 4))) :: om 4 9 :: [])) (.seq (.seq (.reg (om 10 0 :: oo 11 (.bin .gtr .other true (.t 10) (.c (.int .i64 2100))) :: [])) p81_6) p81_10))))
theorem fn81 : FnOk Tryz.prog 81 p81_14 18 [.t 2] := ⟨false, Tryz.f81, _, Tryz.func81, by decide, rfl, by kernel_rfl, rfl, by kernel_rfl⟩
def F_date_begin  (N : Nat) (a1 : Int) : Option (Int) :=
      bif decide (2100 < a1) then
    (none)
    else
    (some (IntKind.wrap .i64 ((IntKind.wrap .i64 (365 * (IntKind.wrap .i64 (a1 - 2000)))) + (IntKind.wrap .i64 (Int.tdiv (IntKind.wrap .i64 ((IntKind.wrap .i64 (a1 - 2000)) + 3)) 4)))))
theorem P_date_begin  {N : Nat} {a1 : Int} {r : Int} (h : F_date_begin N a1 = some r) : Pure Tryz.prog (Gl.at 0) 81 [(i64 a1)] (i64 r) := by
  refine pure_run fn81 ?_
  rw [F_date_begin] at h
  replace h := bs h
  change GG [.t 2] _ [.pc p81_14] (mk 18 [(0, (i64 a1))]) []
  refine gx mo [.pc p81_6, .pc p81_10] 18 [(3, (i64 (IntKind.wrap .i64 (a1 - 2000)))), (4, (i64 (IntKind.wrap .i64 (Int.tdiv (IntKind.wrap .i64 ((IntKind.wrap .i64 (a1 - 2000)) + 3)) 4)))), (11, (.bool (decide (2100 < a1))))] [] 23 [] ?_
  refine go_if h (fun hb2 h => ?_) (fun hb2 h => ?_)
  · cases h
  · rw [hb2]
    refine gx mo [.pc p81_9] 18 [(2, (i64 (IntKind.wrap .i64 ((IntKind.wrap .i64 (365 * (IntKind.wrap .i64 (a1 - 2000)))) + (IntKind.wrap .i64 (Int.tdiv (IntKind.wrap .i64 ((IntKind.wrap .i64 (a1 - 2000)) + 3)) 4))))))] [] 10 [] ?_
    obtain rfl := Option.some.inj h
    exact gf (i64 (IntKind.wrap .i64 ((IntKind.wrap .i64 (365 * (IntKind.wrap .i64 (a1 - 2000)))) + (IntKind.wrap .i64 (Int.tdiv (IntKind.wrap .i64 ((IntKind.wrap .i64 (a1 - 2000)) + 3)) 4))))) (.same rfl)
/-! corebank/date.length -/
def p82_10 : PC := .ret
def p82_11 : PC := (.seq (.reg (om 13 1 :: oo 14 (.iaa 13 1 (.t 5) (.t 13)) :: oo 15 (.ld1 (.t 14)) :: om 4 15 :: [])) p82_10)
def p82_7 : PC := (.cond (.t 12) (.seq (.reg (oo 4 (.mv (.c (.int .i64 29))) :: [])) .ret) .skip)
def o82_2_1 : List PO := oo 8 (.bin .eql .other true (.t 7) (.c (.int .i64 2))) :: om 9 8 :: ⟨some 10, .op (.mv (.t 0)), some (9, true)⟩ :: ⟨some 11, .call 94 [.t 10], some (9, true)⟩ :: oo 12 (.pick (.t 9) (.t 11) (.c (.bool false))) :: []
def p82_14 : PC := (.seq (.reg (oo 4 (.mv (.c (.int .i64 0))) :: [])) (.seq (.reg (oo 6 (.build [.int .i64 0, .int .i64 0, .int .i64 0, .int .i64 0, .int .i64 0, .int .i64 0, .int .i64 0, .int .i64 0, .int .i64 0, .int .i64 0, .int .i64 0, .int .i64 0, .int .i64 0] [(0, 1, .c (.int .i64 0)), (1, 1, .c (.int .i64 31)), (2, 1, .c (.int .i64 28)), (3, 1, .c (.int .i64 31)), (4, 1, .c (.int .i64 30)), (5, 1, .c (.int .i64 31)), (6, 1, .c (.int .i64 30)), (7, 1, .c (.int .i64 31)), (8, 1, .c (.int .i64 31)), (9, 1, .c (.int .i64 30)), (10, 1, .c (.int .i64 31)), (11, 1, .c (.int .i64 30)), (12, 1, .c (.int .i64 31))]) :: oo 5 (.new (.agg [.int .i64 0, .int .i64 0, .int .i64 0, .int .i64 0, .int .i64 0, .int .i64 0, .int .i64 0, .int .i64 0, .int .i64 0, .int .i64 0, .int .i64 0, .int .i64 0, .int .i64 0])) :: on_ (.st 13 (.t 5) (.t 6)) :: [])) (.seq (.seq (.reg (om 7 1 :: o82_2_1)) p82_7) p82_11)))
theorem fn82 : FnOk Tryz.prog 82 p82_14 16 [.t 4] := ⟨false, Tryz.f82, _, Tryz.func82, by decide, rfl, by kernel_rfl, rfl, by kernel_rfl⟩
def F_date_length  (N : Nat) (a1 : Int) (a2 : Int) : Option (Int) :=
      bif decide (a2 = 2) then
    (none)
    else
    ((getI ([0, 31, 28, 31, 30, 31, 30, 31, 31, 30, 31, 30, 31] : List Int) a2).bind fun y4 =>
    some y4)
theorem P_date_length  {N : Nat} {a1 : Int} {a2 : Int} {r : Int} (h : F_date_length N a1 a2 = some r) : Pure Tryz.prog (Gl.at 0) 82 [(i64 a1), (i64 a2)] (i64 r) := by
  refine pure_run fn82 ?_
  rw [F_date_length] at h
  replace h := bs h
  change GG [.t 4] _ [.pc p82_14] (mk 16 [(0, (i64 a1)), (1, (i64 a2))]) []
  refine gx mo [.ops o82_2_1, .pc p82_7, .pc p82_11] 16 [(0, (i64 a1)), (1, (i64 a2)), (5, (.ref 0 0 0)), (7, (i64 a2))] [.row 13 [(.agg [(i64 0), (i64 31), (i64 28), (i64 31), (i64 30), (i64 31), (i64 30), (i64 31), (i64 31), (i64 30), (i64 31), (i64 30), (i64 31)])]] 14 [] ?_
  refine go_if h (fun hb3 h => ?_) (fun hb3 h => ?_)
  · cases h
  · refine go_bind h (fun y4 hy4 h => ?_)
    refine gx mo [.pc p82_10] 16 [(4, (i64 y4))] [.row 13 [(.agg [(i64 0), (i64 31), (i64 28), (i64 31), (i64 30), (i64 31), (i64 30), (i64 31), (i64 31), (i64 30), (i64 31), (i64 30), (i64 31)])]] 15 [twb 0 [.row 13 [(.agg [(i64 0), (i64 31), (i64 28), (i64 31), (i64 30), (i64 31), (i64 30), (i64 31), (i64 31), (i64 30), (i64 31), (i64 30), (i64 31)])]] (.bin .eql .other true (.c (i64 a2)) (.c (i64 2))) (decide (a2 = 2)) false hb3, tw 7 (s := [.row 13 [(.agg [(i64 0), (i64 31), (i64 28), (i64 31), (i64 30), (i64 31), (i64 30), (i64 31), (i64 31), (i64 30), (i64 31), (i64 30), (i64 31)])]]) (s' := [.row 13 [(.agg [(i64 0), (i64 31), (i64 28), (i64 31), (i64 30), (i64 31), (i64 30), (i64 31), (i64 31), (i64 30), (i64 31), (i64 30), (i64 31)])]]) (q := (.iaa 13 1 (.c (.ref 0 0 0)) (.c (i64 a2)))) (v := (.ref 0 0 a2.toNat)) (e_iaa (f := i64) (l := ([0, 31, 28, 31, 30, 31, 30, 31, 31, 30, 31, 30, 31] : List Int)) hy4 rfl), tw 8 (s := [.row 13 [(.agg [(i64 0), (i64 31), (i64 28), (i64 31), (i64 30), (i64 31), (i64 30), (i64 31), (i64 31), (i64 30), (i64 31), (i64 30), (i64 31)])]]) (s' := [.row 13 [(.agg [(i64 0), (i64 31), (i64 28), (i64 31), (i64 30), (i64 31), (i64 30), (i64 31), (i64 31), (i64 30), (i64 31), (i64 30), (i64 31)])]]) (q := (.ld1 (.c (.ref 0 0 a2.toNat)))) (v := (i64 y4)) (e_ldarr (f := i64) (l := ([0, 31, 28, 31, 30, 31, 30, 31, 31, 30, 31, 30, 31] : List Int)) rfl hy4)] ?_
    obtain rfl := Option.some.inj h
    exact gf (i64 y4) (.same rfl)
/-! corebank/date.Civil -/
def p57_34 : PC := .ret
def p57_35 : PC := (.seq (.reg (om 36 5 :: om 37 6 :: om 38 0 :: oo 39 (.bin .add .other true (.t 38) (.c (.int .i64 1))) :: om 2 36 :: om 3 37 :: om 4 39 :: [])) p57_34)
def p57_29 : PC := (.block 3 (.seq (.reg (om 29 0 :: om 30 5 :: om 31 6 :: ⟨some 32, .call 82 [.t 30, .t 31], none⟩ :: oo 33 (.bin .sub .other false (.t 29) (.t 32)) :: om 0 33 :: [])) (.reg (om 34 6 :: oo 35 (.bin .add .other true (.t 34) (.c (.int .i64 1))) :: om 6 35 :: []))))
def p57_24 : PC := (.cond (.t 28) .skip (.exit 2))
def p57_31 : PC := (.loop (.seq (.seq (.reg (om 24 0 :: om 25 5 :: om 26 6 :: ⟨some 27, .call 82 [.t 25, .t 26], none⟩ :: oo 28 (.bin .geq .other false (.t 24) (.t 27)) :: [])) p57_24) p57_29))
def p57_38 : PC := (.seq (.reg (om 20 0 :: om 21 5 :: ⟨some 22, .call 81 [.t 21], none⟩ :: oo 23 (.bin .sub .other false (.t 20) (.t 22)) :: om 0 23 :: [])) (.seq (.reg (oo 6 (.mv (.c (.int .i64 1))) :: [])) (.seq (.block 2 p57_31) p57_35)))
def p57_15 : PC := (.block 1 (.reg (om 18 5 :: oo 19 (.bin .add .other true (.t 18) (.c (.int .i64 1))) :: om 5 19 :: [])))
def p57_12 : PC := (.cond (.t 17) .skip (.exit 0))
def p57_17 : PC := (.loop (.seq (.seq (.reg (om 13 5 :: oo 14 (.bin .add .other true (.t 13) (.c (.int .i64 1))) :: ⟨some 15, .call 81 [.t 14], none⟩ :: om 16 0 :: oo 17 (.bin .leq .other false (.t 15) (.t 16)) :: [])) p57_12) p57_15))
def p57_40 : PC := (.seq (.reg (om 10 0 :: oo 11 (.bin .quo .other true (.t 10) (.c (.int .i64 366))) :: oo 12 (.bin .add .other true (.c (.int .i64 2000)) (.t 11)) :: om 5 12 :: [])) (.seq (.block 0 p57_17) p57_38))
def p57_6 : PC := (.cond (.t 9) (.seq (.reg (oo 2 (.mv (.c (.int .i64 0))) :: oo 3 (.mv (.c (.int .i64 0))) :: oo 4 (.mv (.c (.int .i64 0))) :: [])) .ret) .skip)
def p57_42 : PC := (.seq (.reg (oo 2 (.mv (.c (.int .i64 0))) :: oo 3 (.mv (.c (.int .i64 0))) :: oo 4 (.mv (.c (.int .i64 0))) :: [])) (.seq (.seq (.reg (om 7 0 :: ⟨some 8, .call 23 [.t 7], none⟩ :: oo 9 (.un .not (.t 8)) :: [])) p57_6) p57_40))
theorem fn57 : FnOk Tryz.prog 57 p57_42 40 [.t 2, .t 3, .t 4] := ⟨false, Tryz.f57, _, Tryz.func57, by decide, rfl, by kernel_rfl, rfl, by kernel_rfl⟩
def L_date_Civil_2 (N : Nat) (x1_0 : Int) : Nat → Int → Int → Option (Int × Int)
  | 0, _, _ => none
  | m2 + 1, v2_0, v2_1 =>
    (F_date_length N x1_0 v2_1).bind fun r9 =>
    bif decide (r9 ≤ v2_0) then
    (none)
    else
    (some (v2_0, v2_1))
def K_date_Civil_2 (N : Nat) (x1_0 : Int) : (Int × Int) → Option (Int × Int × Int)
  | (x2_0, x2_1) =>
    some (x1_0, x2_1, IntKind.wrap .i64 (x2_0 + 1))
def L_date_Civil_1 (N : Nat) (a1 : Int) : Nat → Int → Option (Int)
  | 0, _ => none
  | m1 + 1, v1_0 =>
    (F_date_begin N (IntKind.wrap .i64 (v1_0 + 1))).bind fun r11 =>
    bif decide (r11 ≤ a1) then
    (none)
    else
    (some v1_0)
def K_date_Civil_1 (N : Nat) (a1 : Int) : (Int) → Option (Int × Int × Int)
  | x1_0 =>
    (F_date_begin N x1_0).bind fun r6 =>
    (L_date_Civil_2 N x1_0 N (IntKind.wrap .i64 (a1 - r6)) 1).bind (K_date_Civil_2 N x1_0)
def F_date_Civil  (N : Nat) (a1 : Int) : Option (Int × Int × Int) :=
      (F_date_Valid N a1).bind fun r2 =>
    bif !r2 then
    (none)
    else
    ((L_date_Civil_1 N a1 N (IntKind.wrap .i64 (2000 + (IntKind.wrap .i64 (Int.tdiv a1 366))))).bind (K_date_Civil_1 N a1))
theorem P_date_Civil  {N : Nat} {a1 : Int} {r : Int × Int × Int} (h : F_date_Civil N a1 = some r) : Pure Tryz.prog (Gl.at 0) 57 [(i64 a1)] (.tup [(i64 r.1), (i64 r.2.1), (i64 r.2.2)]) := by
  refine pure_run fn57 ?_
  rw [F_date_Civil] at h
  replace h := bs h
  change GG [.t 2, .t 3, .t 4] _ [.pc p57_42] (mk 40 [(0, (i64 a1))]) []
  refine go_bind h (fun r2 hr2 h => ?_)
  refine gx mo [.pc p57_6, .pc p57_40] 40 [(0, (i64 a1)), (9, (.bool (!r2)))] [] 13 [tc 4 [] (P_date_Valid hr2) (fs fl_nil)] ?_
  refine go_if h (fun hb3 h => ?_) (fun hb3 h => ?_)
  · cases h
  · rw [hb3]
    refine gx mo [.pc p57_17, .blk 0, .pc p57_38] 40 [(0, (i64 a1)), (5, (i64 (IntKind.wrap .i64 (2000 + (IntKind.wrap .i64 (Int.tdiv a1 366))))))] [] 11 [] ?_
    refine go_cut (X := Int) (fun x => (K_date_Civil_1 N a1 x).bind some = some r) ([.pc p57_38]) (fun x => (mk 40 [(0, (i64 a1)), (5, (i64 x))])) (fun x => []) ?_ fun kont1_0 => ?_
    · rintro x1_0 h
      rw [K_date_Civil_1] at h
      refine go_bind h (fun r6 hr6 h => ?_)
      refine gx mo [.pc p57_31, .blk 2, .pc p57_35] 40 [(0, (i64 (IntKind.wrap .i64 (a1 - r6)))), (5, (i64 x1_0)), (6, (i64 1))] [] 14 [tc 2 [] (P_date_begin hr6) (fs fl_nil)] ?_
      refine go_cut (X := Int × Int) (fun x => (K_date_Civil_2 N x1_0 x).bind some = some r) ([.pc p57_35]) (fun x => (mk 40 [(0, (i64 x.1)), (5, (i64 x1_0)), (6, (i64 x.2))])) (fun x => []) ?_ fun kont2_0 => ?_
      · rintro ⟨x2_0, x2_1⟩ h
        rw [K_date_Civil_2] at h
        refine gx mo [.pc p57_34] 40 [(2, (i64 x1_0)), (3, (i64 x2_1)), (4, (i64 (IntKind.wrap .i64 (x2_0 + 1))))] [] 10 [] ?_
        obtain rfl := Option.some.inj h
        exact gf (.tup [(i64 x1_0), (i64 x2_1), (i64 (IntKind.wrap .i64 (x2_0 + 1)))]) (f_tupl (fs (fs (fs fl_nil))))
      refine go_loop' (fun m t s => ∃ (v2_0 : Int) (v2_1 : Int), (L_date_Civil_2 N x1_0 m v2_0 v2_1).bind (fun q => (K_date_Civil_2 N x1_0 q).bind some) = some r ∧ t = (mk 40 [(0, (i64 v2_0)), (5, (i64 x1_0)), (6, (i64 v2_1))]) ∧ s = []) N ⟨IntKind.wrap .i64 (a1 - r6), 1, go_assoc h, rfl, rfl⟩ ?_
      intro m2 J2 hJ2 t s
      rintro ⟨v2_0, v2_1, h, rfl, rfl⟩
      cases m2 with
      | zero => exact absurd h (by simp [L_date_Civil_2])
      | succ m2 =>
        rw [L_date_Civil_2] at h
        refine go_bind h (fun r9 hr9 h => ?_)
        refine gx mo [.pc p57_24, .pc p57_29, .jp J2, .blk 2, .pc p57_35] 40 [(0, (i64 v2_0)), (5, (i64 x1_0)), (6, (i64 v2_1)), (28, (.bool (decide (r9 ≤ v2_0))))] [] 9 [tc 3 [] (P_date_length hr9) (fs (fs fl_nil))] ?_
        refine go_if h (fun hb10 h => ?_) (fun hb10 h => ?_)
        · cases h
        · rw [hb10]
          refine gx mo [.pc p57_35] 40 [(0, (i64 v2_0)), (5, (i64 x1_0)), (6, (i64 v2_1))] [] 2 [] ?_
          exact kont2_0 (v2_0, v2_1) h
    refine go_loop' (fun m t s => ∃ (v1_0 : Int), (L_date_Civil_1 N a1 m v1_0).bind (fun q => (K_date_Civil_1 N a1 q).bind some) = some r ∧ t = (mk 40 [(0, (i64 a1)), (5, (i64 v1_0))]) ∧ s = []) N ⟨IntKind.wrap .i64 (2000 + (IntKind.wrap .i64 (Int.tdiv a1 366))), go_assoc h, rfl, rfl⟩ ?_
    intro m1 J1 hJ1 t s
    rintro ⟨v1_0, h, rfl, rfl⟩
    cases m1 with
    | zero => exact absurd h (by simp [L_date_Civil_1])
    | succ m1 =>
      rw [L_date_Civil_1] at h
      refine go_bind h (fun r11 hr11 h => ?_)
      refine gx mo [.pc p57_12, .pc p57_15, .jp J1, .blk 0, .pc p57_38] 40 [(0, (i64 a1)), (5, (i64 v1_0)), (17, (.bool (decide (r11 ≤ a1))))] [] 9 [tc 2 [] (P_date_begin hr11) (fs fl_nil)] ?_
      refine go_if h (fun hb12 h => ?_) (fun hb12 h => ?_)
      · cases h
      · rw [hb12]
        refine gx mo [.pc p57_38] 40 [(0, (i64 a1)), (5, (i64 v1_0))] [] 2 [] ?_
        exact kont1_0 v1_0 h
/-! corebank/date.Day -/
def p58_24 : PC := .ret
def p58_25 : PC := (.seq (.reg (om 50 8 :: om 6 50 :: oo 7 (.mv (.c (.int .i64 0))) :: [])) p58_24)
def p58_18 : PC := (.seq (.block 1 (.reg (om 45 8 :: om 46 0 :: om 47 9 :: ⟨some 48, .call 82 [.t 46, .t 47], none⟩ :: oo 49 (.bin .add .other false (.t 45) (.t 48)) :: om 8 49 :: []))) (.reg (om 43 9 :: oo 44 (.bin .add .other true (.t 43) (.c (.int .i64 1))) :: om 9 44 :: [])))
def p58_13 : PC := (.cond (.t 42) .skip (.exit 0))
def p58_20 : PC := (.loop (.seq (.seq (.reg (om 40 9 :: om 41 1 :: oo 42 (.bin .lss .other false (.t 40) (.t 41)) :: [])) p58_13) p58_18))
def p58_27 : PC := (.seq (.reg (om 35 0 :: ⟨some 36, .call 81 [.t 35], none⟩ :: om 37 2 :: oo 38 (.bin .add .other false (.t 36) (.t 37)) :: oo 39 (.bin .sub .other true (.t 38) (.c (.int .i64 1))) :: om 8 39 :: [])) (.seq (.seq (.reg (oo 9 (.mv (.c (.int .i64 1))) :: [])) (.block 0 p58_20)) p58_25))
def p58_6 : PC := (.cond (.t 34) (.seq (.reg (oo 6 (.mv (.c (.int .i64 0))) :: oo 7 (.mv (.c (.int .i64 1))) :: [])) .ret) .skip)
def p58_29 : PC := (.seq (.reg (oo 6 (.mv (.c (.int .i64 0))) :: oo 7 (.mv (.c (.int .i64 0))) :: [])) (.seq (.seq (.reg (om 10 0 :: oo 11 (.bin .lss .other true (.t 10) (.c (.int .i64 2000))) :: om 12 11 :: ⟨some 13, .op (.mv (.t 0)), some (12, false)⟩ :: ⟨some 14, .op (.bin .gtr .other true (.t 13) (.c (.int .i64 2199))), some (12, false)⟩ :: oo 15 (.pick (.t 12) (.c (.bool true)) (.t 14)) :: om 16 15 :: ⟨some 17, .op (.mv (.t 1)), some (16, false)⟩ :: ⟨some 18, .op (.bin .lss .other true (.t 17) (.c (.int .i64 1))), some (16, false)⟩ :: oo 19 (.pick (.t 16) (.c (.bool true)) (.t 18)) :: om 20 19 :: ⟨some 21, .op (.mv (.t 1)), some (20, false)⟩ :: ⟨some 22, .op (.bin .gtr .other true (.t 21) (.c (.int .i64 12))), some (20, false)⟩ :: oo 23 (.pick (.t 20) (.c (.bool true)) (.t 22)) :: om 24 23 :: ⟨some 25, .op (.mv (.t 2)), some (24, false)⟩ :: ⟨some 26, .op (.bin .lss .other true (.t 25) (.c (.int .i64 1))), some (24, false)⟩ :: oo 27 (.pick (.t 24) (.c (.bool true)) (.t 26)) :: om 28 27 :: ⟨some 29, .op (.mv (.t 2)), some (28, false)⟩ :: ⟨some 30, .op (.mv (.t 0)), some (28, false)⟩ :: ⟨some 31, .op (.mv (.t 1)), some (28, false)⟩ :: ⟨some 32, .call 82 [.t 30, .t 31], some (28, false)⟩ :: ⟨some 33, .op (.bin .gtr .other false (.t 29) (.t 32)), some (28, false)⟩ :: oo 34 (.pick (.t 28) (.c (.bool true)) (.t 33)) :: [])) p58_6) p58_27))
theorem fn58 : FnOk Tryz.prog 58 p58_29 51 [.t 6, .t 7] := ⟨false, Tryz.f58, _, Tryz.func58, by decide, rfl, by kernel_rfl, rfl, by kernel_rfl⟩
def L_date_Day_1 (N : Nat) (a2 : Int) : Nat → Int → Int → Option (Int)
  | 0, _, _ => none
  | m1 + 1, v1_0, v1_1 =>
    bif decide (v1_1 < a2) then
    (none)
    else
    (some v1_0)
def K_date_Day_1 (N : Nat)  : (Int) → Option (Int × Int)
  | x1_0 =>
    some (x1_0, 0)
def F_date_Day  (N : Nat) (a1 : Int) (a2 : Int) (a3 : Int) : Option (Int × Int) :=
      bif decide (a1 < 2000) then
    (none)
    else
    (bif decide (2199 < a1) then
    (none)
    else
    (bif decide (a2 < 1) then
    (none)
    else
    (bif decide (12 < a2) then
    (none)
    else
    (bif decide (a3 < 1) then
    (none)
    else
    ((F_date_length N a1 a2).bind fun r9 =>
    bif decide (r9 < a3) then
    (none)
    else
    ((F_date_begin N a1).bind fun r11 =>
    (L_date_Day_1 N a2 N (IntKind.wrap .i64 ((IntKind.wrap .i64 (r11 + a3)) - 1)) 1).bind (K_date_Day_1 N)))))))
theorem P_date_Day  {N : Nat} {a1 : Int} {a2 : Int} {a3 : Int} {r : Int × Int} (h : F_date_Day N a1 a2 a3 = some r) : Pure Tryz.prog (Gl.at 0) 58 [(i64 a1), (i64 a2), (i64 a3)] (.tup [(i64 r.1), (i64 r.2)]) := by
  refine pure_run fn58 ?_
  rw [F_date_Day] at h
  replace h := bs h
  change GG [.t 6, .t 7] _ [.pc p58_29] (mk 51 [(0, (i64 a1)), (1, (i64 a2)), (2, (i64 a3))]) []
  refine go_if h (fun hb4 h => ?_) (fun hb4 h => ?_)
  · cases h
  · refine go_if h (fun hb5 h => ?_) (fun hb5 h => ?_)
    · cases h
    · refine go_if h (fun hb6 h => ?_) (fun hb6 h => ?_)
      · cases h
      · refine go_if h (fun hb7 h => ?_) (fun hb7 h => ?_)
        · cases h
        · refine go_if h (fun hb8 h => ?_) (fun hb8 h => ?_)
          · cases h
          · refine go_bind h (fun r9 hr9 h => ?_)
            refine gx mo [.pc p58_6, .pc p58_27] 51 [(0, (i64 a1)), (1, (i64 a2)), (2, (i64 a3)), (34, (.bool (decide (r9 < a3))))] [] 34 [twb 3 [] (.bin .lss .other true (.c (i64 a1)) (.c (i64 2000))) (decide (a1 < 2000)) false hb4, twb 7 [] (.pick (.c (.bool false)) (.c (.bool true)) (.c (.bool (decide (2199 < a1))))) (decide (2199 < a1)) false hb5, twb 11 [] (.pick (.c (.bool false)) (.c (.bool true)) (.c (.bool (decide (a2 < 1))))) (decide (a2 < 1)) false hb6, twb 15 [] (.pick (.c (.bool false)) (.c (.bool true)) (.c (.bool (decide (12 < a2))))) (decide (12 < a2)) false hb7, twb 19 [] (.pick (.c (.bool false)) (.c (.bool true)) (.c (.bool (decide (a3 < 1))))) (decide (a3 < 1)) false hb8, tc 24 [] (P_date_length hr9) (fs (fs fl_nil))] ?_
            refine go_if h (fun hb10 h => ?_) (fun hb10 h => ?_)
            · cases h
            · rw [hb10]
              refine go_bind h (fun r11 hr11 h => ?_)
              refine gx mo [.pc p58_20, .blk 0, .pc p58_25] 51 [(0, (i64 a1)), (1, (i64 a2)), (8, (i64 (IntKind.wrap .i64 ((IntKind.wrap .i64 (r11 + a3)) - 1)))), (9, (i64 1))] [] 17 [tc 2 [] (P_date_begin hr11) (fs fl_nil)] ?_
              refine go_cut (X := Int) (fun x => (K_date_Day_1 N x).bind some = some r) ([.pc p58_25]) (fun x => (mk 51 [(8, (i64 x))])) (fun x => []) ?_ fun kont1_0 => ?_
              · rintro x1_0 h
                rw [K_date_Day_1] at h
                refine gx mo [.pc p58_24] 51 [(6, (i64 x1_0)), (7, (i64 0))] [] 6 [] ?_
                obtain rfl := Option.some.inj h
                exact gf (.tup [(i64 x1_0), (i64 0)]) (f_tupl (fs (fs fl_nil)))
              refine go_loop' (fun m t s => ∃ (v1_0 : Int) (v1_1 : Int), (L_date_Day_1 N a2 m v1_0 v1_1).bind (fun q => (K_date_Day_1 N q).bind some) = some r ∧ t = (mk 51 [(0, (i64 a1)), (1, (i64 a2)), (8, (i64 v1_0)), (9, (i64 v1_1))]) ∧ s = []) N ⟨IntKind.wrap .i64 ((IntKind.wrap .i64 (r11 + a3)) - 1), 1, go_assoc h, rfl, rfl⟩ ?_
              intro m1 J1 hJ1 t s
              rintro ⟨v1_0, v1_1, h, rfl, rfl⟩
              cases m1 with
              | zero => exact absurd h (by simp [L_date_Day_1])
              | succ m1 =>
                rw [L_date_Day_1] at h
                refine gx mo [.pc p58_13, .pc p58_18, .jp J1, .blk 0, .pc p58_25] 51 [(0, (i64 a1)), (1, (i64 a2)), (8, (i64 v1_0)), (9, (i64 v1_1)), (42, (.bool (decide (v1_1 < a2))))] [] 7 [] ?_
                refine go_if h (fun hb13 h => ?_) (fun hb13 h => ?_)
                · cases h
                · rw [hb13]
                  refine gx mo [.pc p58_25] 51 [(8, (i64 v1_0))] [] 2 [] ?_
                  exact kont1_0 v1_0 h
/-! corebank/limit.month -/
def p25_4 : PC := .ret
def p25_8 : PC := (.seq (.reg (oo 2 (.mv (.c (.int .i64 0))) :: [])) (.seq (.reg (om 9 0 :: ⟨some 10, .call 57 [.t 9], none⟩ :: om 8 10 :: oo 11 (.ext 0 (.t 8)) :: oo 12 (.ext 1 (.t 8)) :: oo 13 (.ext 2 (.t 8)) :: om 3 11 :: om 4 12 :: om 5 13 :: [])) (.seq (.reg (om 15 3 :: om 16 4 :: ⟨some 17, .call 58 [.t 15, .t 16, .c (.int .i64 1)], none⟩ :: om 14 17 :: oo 18 (.ext 0 (.t 14)) :: oo 19 (.ext 1 (.t 14)) :: om 6 18 :: om 7 19 :: [])) (.seq (.reg (om 20 6 :: om 2 20 :: [])) p25_4))))
theorem fn25 : FnOk Tryz.prog 25 p25_8 21 [.t 2] := ⟨false, Tryz.f25, _, Tryz.func25, by decide, rfl, by kernel_rfl, rfl, by kernel_rfl⟩
def F_limit_month  (N : Nat) (a1 : Int) : Option (Int) :=
      (F_date_Civil N a1).bind fun r2 =>
    (F_date_Day N r2.1 r2.2.1 1).bind fun r3 =>
    some r3.1
theorem P_limit_month  {N : Nat} {a1 : Int} {r : Int} (h : F_limit_month N a1 = some r) : Pure Tryz.prog (Gl.at 0) 25 [(i64 a1)] (i64 r) := by
  refine pure_run fn25 ?_
  rw [F_limit_month] at h
  replace h := bs h
  change GG [.t 2] _ [.pc p25_8] (mk 21 [(0, (i64 a1))]) []
  refine go_bind h (fun r2 hr2 h => ?_)
  refine go_bind h (fun r3 hr3 h => ?_)
  refine gx mo [.pc p25_4] 21 [(2, (i64 r3.1))] [] 32 [tc 2 [] (P_date_Civil hr2) (fs fl_nil), tc 12 [] (P_date_Day hr3) (fs (fs (fs fl_nil)))] ?_
  obtain rfl := Option.some.inj h
  exact gf (i64 r3.1) (.same rfl)
/-! slices.Min[[]int,int] -/
def p28_22 : PC := .ret
def p28_23 : PC := (.seq (.reg (om 24 3 :: om 2 24 :: [])) p28_22)
def p28_16 : PC := (.seq (.block 1 (.reg (om 18 3 :: om 19 0 :: om 20 4 :: oo 21 (.ia 1 (.t 19) (.t 20)) :: oo 22 (.ld1 (.t 21)) :: oo 23 (.min [.t 18, .t 22]) :: om 3 23 :: []))) (.reg (om 16 4 :: oo 17 (.bin .add .other true (.t 16) (.c (.int .i64 1))) :: om 4 17 :: [])))
def p28_11 : PC := (.cond (.t 15) .skip (.exit 0))
def p28_18 : PC := (.loop (.seq (.seq (.reg (om 12 4 :: om 13 0 :: oo 14 (.len .slice (.t 13)) :: oo 15 (.bin .lss .other false (.t 12) (.t 14)) :: [])) p28_11) p28_16))
def p28_25 : PC := (.seq (.reg (om 9 0 :: oo 10 (.ia 1 (.t 9) (.c (.int .i64 0))) :: oo 11 (.ld1 (.t 10)) :: om 3 11 :: [])) (.seq (.seq (.reg (oo 4 (.mv (.c (.int .i64 1))) :: [])) (.block 0 p28_18)) p28_23))
def p28_4 : PC := (.cond (.t 7) (.reg (oo 8 (.ifc 9 (.c (.str [115, 108, 105, 99, 101, 115, 46, 77, 105, 110, 58, 32, 101, 109, 112, 116, 121, 32, 108, 105, 115, 116]))) :: ⟨none, .bad, none⟩ :: [])) .skip)
def p28_27 : PC := (.seq (.reg (oo 2 (.mv (.c (.int .i64 0))) :: [])) (.seq (.seq (.reg (om 5 0 :: oo 6 (.len .slice (.t 5)) :: oo 7 (.bin .lss .other true (.t 6) (.c (.int .i64 1))) :: [])) p28_4) p28_25))
theorem fn28 : FnOk Tryz.prog 28 p28_27 25 [.t 2] := ⟨false, Tryz.f28, _, Tryz.func28, by decide, rfl, by kernel_rfl, rfl, by kernel_rfl⟩
def L_slices_Min_int_1 (N : Nat) (a1 : List Int) : Nat → Int → Int → Option (Int)
  | 0, _, _ => none
  | m1 + 1, v1_0, v1_1 =>
    bif decide (v1_1 < (a1.length : Int)) then
    ((getI a1 v1_1).bind fun y7 =>
    (L_slices_Min_int_1 N a1 m1) (if y7 < v1_0 then y7 else v1_0) (IntKind.wrap .i64 (v1_1 + 1)))
    else
    (some v1_0)
def K_slices_Min_int_1 (N : Nat)  : (Int) → Option (Int)
  | x1_0 =>
    some x1_0
def F_slices_Min_int  (N : Nat) (a1 : List Int) : Option (Int) :=
      bif decide ((a1.length : Int) < 1) then
    (none)
    else
    ((getI a1 0).bind fun y3 =>
    (L_slices_Min_int_1 N a1 N y3 1).bind (K_slices_Min_int_1 N))
theorem P_slices_Min_int  {N : Nat} {a1 : List Int} {r : Int} (h : F_slices_Min_int N a1 = some r) : Pure Tryz.prog (Gl.at 0) 28 [(.sl (a1.map i64))] (i64 r) := by
  refine pure_run fn28 ?_
  rw [F_slices_Min_int] at h
  replace h := bs h
  change GG [.t 2] _ [.pc p28_27] (mk 25 [(0, (.sl (a1.map i64)))]) []
  refine gx mo [.pc p28_4, .pc p28_25] 25 [(0, (.sl (a1.map i64))), (7, (.bool (decide ((a1.length : Int) < 1))))] [] 11 [tw 2 (E_len [] a1 i64)] ?_
  refine go_if h (fun hb2 h => ?_) (fun hb2 h => ?_)
  · cases h
  · rw [hb2]
    refine go_bind h (fun y3 hy3 h => ?_)
    refine gx mo [.pc p28_18, .blk 0, .pc p28_23] 25 [(0, (.sl (a1.map i64))), (3, (i64 y3)), (4, (i64 1))] [] 15 [tw 2 (E_ia [] i64 .i64 hy3)] ?_
    refine go_cut (X := Int) (fun x => (K_slices_Min_int_1 N x).bind some = some r) ([.pc p28_23]) (fun x => (mk 25 [(3, (i64 x))])) (fun x => []) ?_ fun kont1_0 => ?_
    · rintro x1_0 h
      rw [K_slices_Min_int_1] at h
      refine gx mo [.pc p28_22] 25 [(2, (i64 x1_0))] [] 5 [] ?_
      obtain rfl := Option.some.inj h
      exact gf (i64 x1_0) (.same rfl)
    refine go_loop' (fun m t s => ∃ (v1_0 : Int) (v1_1 : Int), (L_slices_Min_int_1 N a1 m v1_0 v1_1).bind (fun q => (K_slices_Min_int_1 N q).bind some) = some r ∧ t = (mk 25 [(0, (.sl (a1.map i64))), (3, (i64 v1_0)), (4, (i64 v1_1))]) ∧ s = []) N ⟨y3, 1, go_assoc h, rfl, rfl⟩ ?_
    intro m1 J1 hJ1 t s
    rintro ⟨v1_0, v1_1, h, rfl, rfl⟩
    cases m1 with
    | zero => exact absurd h (by simp [L_slices_Min_int_1])
    | succ m1 =>
      rw [L_slices_Min_int_1] at h
      refine gx mo [.pc p28_11, .pc p28_16, .jp J1, .blk 0, .pc p28_23] 25 [(0, (.sl (a1.map i64))), (3, (i64 v1_0)), (4, (i64 v1_1)), (15, (.bool (decide (v1_1 < (a1.length : Int)))))] [] 8 [tw 2 (E_len [] a1 i64)] ?_
      refine go_if h (fun hb6 h => ?_) (fun hb6 h => ?_)
      · rw [hb6]
        refine go_bind h (fun y7 hy7 h => ?_)
        refine gx mo [.jp J1, .blk 0, .pc p28_23] 25 [(0, (.sl (a1.map i64))), (3, (i64 (if y7 < v1_0 then y7 else v1_0))), (4, (i64 (IntKind.wrap .i64 (v1_1 + 1))))] [] 19 [tw 4 (E_ia [] i64 .i64 hy7)] ?_
        exact go_back rfl (hJ1 m1 _ _ (Nat.lt_succ_self m1) ⟨if y7 < v1_0 then y7 else v1_0, IntKind.wrap .i64 (v1_1 + 1), h, rfl, rfl⟩)
      · rw [hb6]
        refine gx mo [.pc p28_23] 25 [(3, (i64 v1_0))] [] 2 [] ?_
        exact kont1_0 v1_0 h
/-! corebank/limit.touches$1 -/
def p61_2 : PC := .ret
def p61_4 : PC := (.seq (.reg (oo 2 (.box (.t 0)) :: oo 3 (.mv (.c (.bool false))) :: [])) (.seq (.reg (oo 4 (.fa 0 (.t 2)) :: oo 5 (.ld1 (.t 4)) :: oo 6 (.ld1 (.t 1)) :: oo 7 (.bin .eql .other false (.t 5) (.t 6)) :: om 3 7 :: [])) p61_2))
theorem fn61 : FnOk Tryz.prog 61 p61_4 8 [.t 3] := ⟨false, Tryz.f61, _, Tryz.func61, by decide, rfl, by kernel_rfl, rfl, by kernel_rfl⟩
def F_limit_touches_c1_vb45  (N : Nat) (a1 : ApiLeg) (a2 : Int) : Option (Bool) :=
      some (decide (a1.Account_ = a2))
theorem P_limit_touches_c1_vb45  {N : Nat} {a1 : ApiLeg} {a2 : Int} {r : Bool} (h : F_limit_touches_c1_vb45 N a1 a2 = some r) : Pure Tryz.prog (Gl.at 0) 61 [(ApiLeg.v a1), (.imm [(i64 a2)] 0)] (.bool r) := by
  refine pure_run fn61 ?_
  rw [F_limit_touches_c1_vb45] at h
  replace h := bs h
  change GG [.t 3] _ [.pc p61_4] (mk 8 [(0, (ApiLeg.v a1)), (1, (.imm [(i64 a2)] 0))]) []
  refine gx mo [.pc p61_2] 8 [(3, (.bool (decide (a1.Account_ = a2))))] [.row 3 [(ApiLeg.v a1)]] 13 [] ?_
  obtain rfl := Option.some.inj h
  exact gf (.bool (decide (a1.Account_ = a2))) (.same rfl)
/-! slices.IndexFunc[[]corebank/api.Leg,corebank/api.Leg] -/
def p84_24 : PC := .ret
def p84_25 : PC := (.seq (.reg (oo 4 (.mv (.c (.int .i64 (-1)))) :: [])) p84_24)
def p84_16 : PC := (.reg (oo 18 (.bin .add .other true (.t 8) (.c (.int .i64 1))) :: om 8 18 :: []))
def p84_9 : PC := .ret
def p84_12 : PC := (.cond (.t 16) (.seq (.reg (om 17 5 :: om 4 17 :: [])) p84_9) .skip)
def p84_17 : PC := (.seq (.block 1 (.seq (.reg (om 10 8 :: om 5 10 :: [])) (.seq (.reg (om 11 1 :: om 12 0 :: om 13 5 :: oo 14 (.ia 3 (.t 12) (.t 13)) :: oo 15 (.ldA 3 (.t 14)) :: ⟨some 16, .dyn (.t 11) [.t 15], none⟩ :: [])) p84_12))) p84_16)
def p84_5 : PC := (.cond (.t 9) .skip (.exit 0))
def p84_20 : PC := (.loop (.seq (.reg (oo 9 (.bin .lss .other false (.t 8) (.t 7)) :: [])) (.seq p84_5 p84_17)))
def p84_27 : PC := (.seq (.reg (oo 4 (.mv (.c (.int .i64 0))) :: [])) (.seq (.seq (.reg (om 6 0 :: oo 7 (.len .slice (.t 6)) :: oo 8 (.mv (.c (.int .i64 0))) :: [])) (.block 0 p84_20)) p84_25))
theorem fn84 : FnOk Tryz.prog 84 p84_27 19 [.t 4] := ⟨false, Tryz.f84, _, Tryz.func84, by decide, rfl, by kernel_rfl, rfl, by kernel_rfl⟩
def L_slices_IndexFunc_api_Leg_v0d5_1 (N : Nat) (a1 : List ApiLeg) (a2 : Int) : Nat → Int → Option (Br (Int) (Unit))
  | 0, _ => none
  | m1 + 1, v1_0 =>
    bif decide (v1_0 < (a1.length : Int)) then
    ((getI a1 v1_0).bind fun y8 =>
    (F_limit_touches_c1_vb45 N y8 a2).bind fun r9 =>
    bif r9 then
    (some (.ret v1_0))
    else
    (none))
    else
    (none)
def K_slices_IndexFunc_api_Leg_v0d5_1 (N : Nat)  : Br (Int) (Unit) → Option (Int)
  | .ret r => some r
  | .brk _ =>
    none
def F_slices_IndexFunc_api_Leg_v0d5  (N : Nat) (a1 : List ApiLeg) (a2 : Int) : Option (Int) :=
      (L_slices_IndexFunc_api_Leg_v0d5_1 N a1 a2 N 0).bind (K_slices_IndexFunc_api_Leg_v0d5_1 N)
theorem P_slices_IndexFunc_api_Leg_v0d5  {N : Nat} {a1 : List ApiLeg} {a2 : Int} {r : Int} (h : F_slices_IndexFunc_api_Leg_v0d5 N a1 a2 = some r) : Pure Tryz.prog (Gl.at 0) 84 [(.sl (a1.map ApiLeg.v)), (.fn (.func 61) [] [(.imm [(i64 a2)] 0)])] (i64 r) := by
  refine pure_run fn84 ?_
  rw [F_slices_IndexFunc_api_Leg_v0d5] at h
  replace h := bs h
  change GG [.t 4] _ [.pc p84_27] (mk 19 [(0, (.sl (a1.map ApiLeg.v))), (1, (.fn (.func 61) [] [(.imm [(i64 a2)] 0)]))]) []
  refine gx mo [.pc p84_20, .blk 0, .pc p84_25] 19 [(0, (.sl (a1.map ApiLeg.v))), (1, (.fn (.func 61) [] [(.imm [(i64 a2)] 0)])), (7, (i64 (a1.length : Int))), (8, (i64 0))] [] 12 [tw 2 (E_len [] a1 ApiLeg.v)] ?_
  refine go_loop' (fun m t s => ∃ (v1_0 : Int), (L_slices_IndexFunc_api_Leg_v0d5_1 N a1 a2 m v1_0).bind (fun q => (K_slices_IndexFunc_api_Leg_v0d5_1 N q).bind some) = some r ∧ t = (mk 19 [(0, (.sl (a1.map ApiLeg.v))), (1, (.fn (.func 61) [] [(.imm [(i64 a2)] 0)])), (7, (i64 (a1.length : Int))), (8, (i64 v1_0))]) ∧ s = []) N ⟨0, go_assoc h, rfl, rfl⟩ ?_
  intro m1 J1 hJ1 t s
  rintro ⟨v1_0, h, rfl, rfl⟩
  cases m1 with
  | zero => exact absurd h (by simp [L_slices_IndexFunc_api_Leg_v0d5_1])
  | succ m1 =>
    rw [L_slices_IndexFunc_api_Leg_v0d5_1] at h
    refine gx mo [.pc p84_5, .pc p84_17, .jp J1, .blk 0, .pc p84_25] 19 [(0, (.sl (a1.map ApiLeg.v))), (1, (.fn (.func 61) [] [(.imm [(i64 a2)] 0)])), (7, (i64 (a1.length : Int))), (8, (i64 v1_0)), (9, (.bool (decide (v1_0 < (a1.length : Int)))))] [] 5 [] ?_
    refine go_if h (fun hb7 h => ?_) (fun hb7 h => ?_)
    · rw [hb7]
      refine go_bind h (fun y8 hy8 h => ?_)
      refine go_bind h (fun r9 hr9 h => ?_)
      refine gx mo [.pc p84_12, .blk 1, .pc p84_16, .jp J1, .blk 0, .pc p84_25] 19 [(0, (.sl (a1.map ApiLeg.v))), (1, (.fn (.func 61) [] [(.imm [(i64 a2)] 0)])), (5, (i64 v1_0)), (7, (i64 (a1.length : Int))), (8, (i64 v1_0)), (16, (.bool r9))] [] 18 [tw 6 (E_ia [] ApiLeg.v .i64 hy8), td 8 [] [] [(.imm [(i64 a2)] 0)] [(ApiLeg.v y8)] (P_limit_touches_c1_vb45 hr9) (fg (fs fl_nil))] ?_
      refine go_if h (fun hb10 h => ?_) (fun hb10 h => ?_)
      · rw [hb10]
        refine gx mo [.pc p84_9, .blk 1, .pc p84_16, .jp J1, .blk 0, .pc p84_25] 19 [(4, (i64 v1_0))] [] 6 [] ?_
        obtain rfl := Option.some.inj h
        exact gf (i64 v1_0) (.same rfl)
      · cases h
    · cases h
/-! slices.ContainsFunc[[]corebank/api.Leg,corebank/api.Leg] -/
def p60_2 : PC := .ret
def p60_4 : PC := (.seq (.reg (oo 4 (.mv (.c (.bool false))) :: [])) (.seq (.reg (om 5 0 :: om 6 1 :: ⟨some 7, .call 84 [.t 5, .t 6], none⟩ :: oo 8 (.bin .geq .other true (.t 7) (.c (.int .i64 0))) :: om 4 8 :: [])) p60_2))
theorem fn60 : FnOk Tryz.prog 60 p60_4 9 [.t 4] := ⟨false, Tryz.f60, _, Tryz.func60, by decide, rfl, by kernel_rfl, rfl, by kernel_rfl⟩
def F_slices_ContainsFunc_api_Leg_v0d5  (N : Nat) (a1 : List ApiLeg) (a2 : Int) : Option (Bool) :=
      (F_slices_IndexFunc_api_Leg_v0d5 N a1 a2).bind fun r3 =>
    some (decide (0 ≤ r3))
theorem P_slices_ContainsFunc_api_Leg_v0d5  {N : Nat} {a1 : List ApiLeg} {a2 : Int} {r : Bool} (h : F_slices_ContainsFunc_api_Leg_v0d5 N a1 a2 = some r) : Pure Tryz.prog (Gl.at 0) 60 [(.sl (a1.map ApiLeg.v)), (.fn (.func 61) [] [(.imm [(i64 a2)] 0)])] (.bool r) := by
  refine pure_run fn60 ?_
  rw [F_slices_ContainsFunc_api_Leg_v0d5] at h
  replace h := bs h
  change GG [.t 4] _ [.pc p60_4] (mk 9 [(0, (.sl (a1.map ApiLeg.v))), (1, (.fn (.func 61) [] [(.imm [(i64 a2)] 0)]))]) []
  refine go_bind h (fun r3 hr3 h => ?_)
  refine gx mo [.pc p60_2] 9 [(4, (.bool (decide (0 ≤ r3))))] [] 12 [tc 3 [] (P_slices_IndexFunc_api_Leg_v0d5 hr3) (fs (fl_cons (f_fn fl_nil (fl_cons (.same rfl) fl_nil)) fl_nil))] ?_
  obtain rfl := Option.some.inj h
  exact gf (.bool (decide (0 ≤ r3))) (.same rfl)
/-! corebank/limit.touches -/
def p30_2 : PC := .ret
def p30_4 : PC := (.seq (.reg (oo 2 (.box (.t 0)) :: oo 3 (.box (.t 1)) :: oo 4 (.mv (.c (.bool false))) :: [])) (.seq (.reg (oo 5 (.fa 8 (.t 2)) :: oo 6 (.ld1 (.t 5)) :: oo 7 (.fn (.func 61) [] [.t 3]) :: ⟨some 8, .call 60 [.t 6, .t 7], none⟩ :: om 4 8 :: [])) p30_2))
theorem fn30 : FnOk Tryz.prog 30 p30_4 9 [.t 4] := ⟨false, Tryz.f30, _, Tryz.func30, by decide, rfl, by kernel_rfl, rfl, by kernel_rfl⟩
def F_limit_touches  (N : Nat) (a1 : ApiEntry) (a2 : Int) : Option (Bool) :=
      (F_slices_ContainsFunc_api_Leg_v0d5 N a1.Legs_ a2).bind fun r3 =>
    some r3
theorem P_limit_touches  {N : Nat} {a1 : ApiEntry} {a2 : Int} {r : Bool} (h : F_limit_touches N a1 a2 = some r) : Pure Tryz.prog (Gl.at 0) 30 [(ApiEntry.v a1), (i64 a2)] (.bool r) := by
  refine pure_run fn30 ?_
  rw [F_limit_touches] at h
  replace h := bs h
  change GG [.t 4] _ [.pc p30_4] (mk 9 [(0, (ApiEntry.v a1)), (1, (i64 a2))]) []
  refine go_bind h (fun r3 hr3 h => ?_)
  refine gx mo [.pc p30_2] 9 [(4, (.bool r3))] [.row 10 [(ApiEntry.v a1)], .row 1 [(i64 a2)]] 14 [tc 6 [.row 10 [(ApiEntry.v a1)], .row 1 [(i64 a2)]] (P_slices_ContainsFunc_api_Leg_v0d5 hr3) (fs (fl_cons (f_fn fl_nil (fl_cons (f_ref (c := 1) (u := (i64 a2)) rfl (.same rfl)) fl_nil)) fl_nil))] ?_
  obtain rfl := Option.some.inj h
  exact gf (.bool r3) (.same rfl)
/-! corebank/limit.Env$1 -/
def p31_2 : PC := .ret
def p31_4 : PC := (.seq (.reg (oo 2 (.new (.agg [.int .i64 0, .int .i64 0])) :: [])) (.seq (.reg (om 3 0 :: oo 4 (.build [.int .i64 0, .int .i64 0] [(0, 1, .c (.int .i64 2)), (1, 1, .t 3)]) :: on_ (.st 2 (.t 2) (.t 4)) :: [])) p31_2))
theorem fn31 : FnOk Tryz.prog 31 p31_4 5 [.a 2 2] := ⟨false, Tryz.f31, _, Tryz.func31, by decide, rfl, by kernel_rfl, rfl, by kernel_rfl⟩
def F_limit_Env_c1  (N : Nat) (a1 : Int) : Option (ApiValue) :=
      some (⟨2, a1⟩ : ApiValue)
theorem P_limit_Env_c1  {N : Nat} {a1 : Int} {r : ApiValue} (h : F_limit_Env_c1 N a1 = some r) : Pure Tryz.prog (Gl.at 0) 31 [(i64 a1)] (ApiValue.v r) := by
  refine pure_run fn31 ?_
  rw [F_limit_Env_c1] at h
  replace h := bs h
  change GG [.a 2 2] _ [.pc p31_4] (mk 5 [(0, (i64 a1))]) []
  refine gx mo [.pc p31_2] 5 [(2, (.ref 0 0 0))] [.row 2 [(.agg [(i64 2), (i64 a1)])]] 10 [] ?_
  obtain rfl := Option.some.inj h
  exact gf (.agg [(i64 2), (i64 a1)]) (f_agg rfl)
/-! corebank/limit.Env$2 -/
def p32_2 : PC := .ret
def p32_4 : PC := (.seq (.reg (oo 2 (.new (.agg [.int .i64 0, .int .i64 0])) :: [])) (.seq (.reg (om 3 0 :: oo 4 (.build [.int .i64 0, .int .i64 0] [(0, 1, .c (.int .i64 1)), (1, 1, .t 3)]) :: on_ (.st 2 (.t 2) (.t 4)) :: [])) p32_2))
theorem fn32 : FnOk Tryz.prog 32 p32_4 5 [.a 2 2] := ⟨false, Tryz.f32, _, Tryz.func32, by decide, rfl, by kernel_rfl, rfl, by kernel_rfl⟩
def F_limit_Env_c2  (N : Nat) (a1 : Int) : Option (ApiValue) :=
      some (⟨1, a1⟩ : ApiValue)
theorem P_limit_Env_c2  {N : Nat} {a1 : Int} {r : ApiValue} (h : F_limit_Env_c2 N a1 = some r) : Pure Tryz.prog (Gl.at 0) 32 [(i64 a1)] (ApiValue.v r) := by
  refine pure_run fn32 ?_
  rw [F_limit_Env_c2] at h
  replace h := bs h
  change GG [.a 2 2] _ [.pc p32_4] (mk 5 [(0, (i64 a1))]) []
  refine gx mo [.pc p32_2] 5 [(2, (.ref 0 0 0))] [.row 2 [(.agg [(i64 1), (i64 a1)])]] 10 [] ?_
  obtain rfl := Option.some.inj h
  exact gf (.agg [(i64 1), (i64 a1)]) (f_agg rfl)
/-! corebank/limit.Env -/
def p7_72 : PC := .ret
def p7_75 : PC := (.seq (.reg (oo 23 (.mv (.c (.fn (.func 31) [] []))) :: [])) (.seq (.reg (oo 24 (.mv (.c (.fn (.func 32) [] []))) :: [])) (.seq (.drawn (om 116 23 :: om 117 13 :: ⟨some 118, .dyn (.t 116) [.t 117], none⟩ :: om 119 23 :: om 120 14 :: ⟨some 121, .dyn (.t 119) [.t 120], none⟩ :: om 122 23 :: om 123 16 :: ⟨some 124, .dyn (.t 122) [.t 123], none⟩ :: om 125 23 :: om 126 3 :: ⟨some 127, .dyn (.t 125) [.t 126], none⟩ :: om 128 24 :: om 129 18 :: ⟨some 130, .dyn (.t 128) [.t 129], none⟩ :: om 131 24 :: om 132 2 :: oo 133 (.fa 1 (.t 10)) :: oo 134 (.ld1 (.t 133)) :: oo 135 (.bin .sub .other false (.t 132) (.t 134)) :: ⟨some 136, .dyn (.t 131) [.t 135], none⟩ :: om 137 2 :: oo 138 (.build [.int .i64 0, .int .i64 0] [(0, 1, .c (.int .i64 4)), (1, 1, .t 137)]) :: oo 139 (.lit (.agg [.int .i64 0, .int .i64 0]) 7 [(0, .t 118), (1, .t 121), (2, .t 124), (3, .t 127), (4, .t 130), (5, .t 136), (6, .t 138)]) :: om 8 139 :: oo 9 (.mv (.c (.int .i64 0))) :: []) [[], [], [0, 1], [], [], [3, 4, 2], [], [], [6, 7, 5], [], [], [9, 10, 8], [], [], [12, 13, 11], [], [], [], [17], [16, 18], [15, 19, 14], [], [21], [2, 5, 8, 11, 14, 20, 22], [23, 20, 0, 1, 2, 3, 4, 5, 6, 7, 8, 9, 10, 11, 12, 13, 14, 15, 16, 17, 18, 19, 20, 21, 22, 23], [24, 0, 1, 2, 3, 4, 5, 6, 7, 8, 9, 10, 11, 12, 13, 14, 15, 16, 17, 18, 19, 20, 21, 22, 23, 24]]) p7_72)))
def p7_62 : PC := (.reg (oo 115 (.bin .add .other true (.t 105) (.c (.int .i64 1))) :: om 105 115 :: []))
def p7_58 : PC := (.cond (.t 114) (.seq (.reg (oo 8 (.mv (.c .nils)) :: oo 9 (.mv (.c (.int .i64 6))) :: [])) .ret) .skip)
def p7_63 : PC := (.seq (.block 4 (.seq (.reg (oo 107 (.ia 1 (.t 103) (.t 105)) :: oo 108 (.ld1 (.t 107)) :: om 22 108 :: [])) (.seq (.reg (om 109 22 :: oo 110 (.bin .lss .other true (.t 109) (.c (.int .i64 (-1000000000000)))) :: om 111 110 :: ⟨some 112, .op (.mv (.t 22)), some (111, false)⟩ :: ⟨some 113, .op (.bin .gtr .other true (.t 112) (.c (.int .i64 1000000000000))), some (111, false)⟩ :: oo 114 (.pick (.t 111) (.c (.bool true)) (.t 113)) :: [])) p7_58))) p7_62)
def p7_51 : PC := (.cond (.t 106) .skip (.exit 3))
def p7_66 : PC := (.loop (.seq (.reg (oo 106 (.bin .lss .other false (.t 105) (.t 104)) :: [])) (.seq p7_51 p7_63)))
def p7_76 : PC := (.seq (.seq (.reg (om 99 13 :: om 100 14 :: om 101 16 :: om 102 3 :: oo 103 (.lit (.int .i64 0) 4 [(0, .t 99), (1, .t 100), (2, .t 101), (3, .t 102)]) :: oo 104 (.len .slice (.t 103)) :: oo 105 (.mv (.c (.int .i64 0))) :: [])) (.block 3 p7_66)) p7_75)
def p7_40 : PC := (.reg (oo 98 (.bin .add .other true (.t 77) (.c (.int .i64 1))) :: om 77 98 :: []))
def p7_36 : PC := (.cond (.t 95) (.reg (om 96 18 :: oo 97 (.bin .add .other true (.t 96) (.c (.int .i64 1))) :: om 18 97 :: [])) .skip)
def p7_41 : PC := (.seq (.block 2 (.seq (.reg (oo 79 (.ia 10 (.t 75) (.t 77)) :: oo 80 (.ldA 10 (.t 79)) :: oo 20 (.new (.agg [.int .i64 0, .int .i64 0, .int .i64 0, .int .i64 0, .int .i64 0, .int .i64 0, .str [], .str [], .nils, .int .u64 0])) :: on_ (.st 10 (.t 20) (.t 80)) :: [])) (.seq (.reg (oo 81 (.fa 1 (.t 20)) :: oo 82 (.ld1 (.t 81)) :: om 83 12 :: oo 84 (.bin .geq .other false (.t 82) (.t 83)) :: om 85 84 :: ⟨some 86, .op (.fa 1 (.t 20)), some (85, true)⟩ :: ⟨some 87, .op (.ld1 (.t 86)), some (85, true)⟩ :: ⟨some 88, .op (.mv (.t 2)), some (85, true)⟩ :: ⟨some 89, .op (.bin .leq .other false (.t 87) (.t 88)), some (85, true)⟩ :: oo 90 (.pick (.t 85) (.t 89) (.c (.bool false))) :: om 91 90 :: ⟨some 92, .op (.ldA 10 (.t 20)), some (91, true)⟩ :: ⟨some 93, .op (.mv (.t 1)), some (91, true)⟩ :: ⟨some 94, .call 30 [.t 92, .t 93], some (91, true)⟩ :: oo 95 (.pick (.t 91) (.t 94) (.c (.bool false))) :: [])) p7_36))) p7_40)
def p7_31 : PC := (.cond (.t 78) .skip (.exit 1))
def p7_44 : PC := (.loop (.seq (.reg (oo 78 (.bin .lss .other false (.t 77) (.t 76)) :: [])) (.seq p7_31 p7_41)))
def p7_79 : PC := (.seq (.reg (oo 66 (.fa 19 (.t 4)) :: oo 67 (.ld1 (.t 66)) :: om 68 1 :: om 69 12 :: om 70 2 :: ⟨some 71, .call 29 [.t 67, .t 68, .t 69, .t 70], none⟩ :: om 65 71 :: oo 72 (.ext 0 (.t 65)) :: oo 73 (.ext 1 (.t 65)) :: om 16 72 :: om 17 73 :: [])) (.seq (.reg (oo 18 (.mv (.c (.int .i64 0))) :: [])) (.seq (.seq (.reg (oo 74 (.fa 19 (.t 4)) :: oo 75 (.ld1 (.t 74)) :: oo 76 (.len .slice (.t 75)) :: oo 77 (.mv (.c (.int .i64 0))) :: [])) (.block 1 p7_44)) p7_76)))
def p7_22 : PC := (.cond (.t 62) (.reg (om 63 15 :: ⟨some 64, .call 28 [.t 63], none⟩ :: om 14 64 :: [])) .skip)
def p7_82 : PC := (.seq (.reg (om 45 2 :: ⟨some 46, .call 25 [.t 45], none⟩ :: om 12 46 :: [])) (.seq (.reg (oo 47 (.fa 19 (.t 4)) :: oo 48 (.ld1 (.t 47)) :: om 49 1 :: ⟨some 50, .call 26 [.t 48, .t 49], none⟩ :: om 13 50 :: oo 14 (.mv (.c (.int .i64 0))) :: [])) (.seq (.seq (.reg (oo 51 (.fa 19 (.t 4)) :: oo 52 (.ld1 (.t 51)) :: om 53 1 :: om 54 12 :: oo 55 (.fa 1 (.t 10)) :: oo 56 (.ld1 (.t 55)) :: oo 57 (.max [.t 54, .t 56]) :: om 58 2 :: ⟨some 59, .call 27 [.t 52, .t 53, .t 57, .t 58], none⟩ :: om 15 59 :: [])) (.seq (.reg (om 60 15 :: oo 61 (.len .slice (.t 60)) :: oo 62 (.bin .gtr .other true (.t 61) (.c (.int .i64 0))) :: [])) p7_22)) p7_79)))
def p7_11 : PC := (.cond (.t 34) (.seq (.reg (oo 8 (.mv (.c .nils)) :: oo 9 (.mv (.c (.int .i64 16))) :: [])) .ret) .skip)
def p7_13 : PC := (.cond (.t 31) (.seq (.reg (oo 8 (.mv (.c .nils)) :: oo 9 (.mv (.c (.int .i64 11))) :: [])) .ret) (.seq (.reg (om 35 2 :: ⟨some 36, .call 23 [.t 35], none⟩ :: oo 37 (.un .not (.t 36)) :: om 38 37 :: ⟨some 39, .op (.ldA 22 (.t 4)), some (38, false)⟩ :: ⟨some 40, .op (.mv (.t 1)), some (38, false)⟩ :: ⟨some 41, .op (.mv (.t 2)), some (38, false)⟩ :: ⟨some 42, .call 24 [.t 39, .t 40, .t 41], some (38, false)⟩ :: ⟨some 43, .op (.un .not (.t 42)), some (38, false)⟩ :: oo 44 (.pick (.t 38) (.c (.bool true)) (.t 43)) :: om 34 44 :: [])) p7_11))
def p7_85 : PC := (.seq (.reg (oo 4 (.box (.t 0)) :: oo 8 (.mv (.c .nils)) :: oo 9 (.mv (.c (.int .i64 0))) :: [])) (.seq (.reg (oo 26 (.ldA 22 (.t 4)) :: om 27 1 :: ⟨some 28, .call 22 [.t 26, .t 27], none⟩ :: om 25 28 :: oo 29 (.ext 0 (.t 25)) :: oo 30 (.ext 1 (.t 25)) :: oo 10 (.new (.agg [.int .i64 0, .int .i64 0, .int .i64 0, .int .i64 0, .str [], .str [], .str []])) :: on_ (.st 7 (.t 10) (.t 29)) :: om 11 30 :: [])) (.seq (.block 0 (.seq (.reg (om 32 11 :: oo 33 (.un .not (.t 32)) :: om 31 33 :: [])) p7_13)) p7_82)))
theorem fn7 : FnOk Tryz.prog 7 p7_85 140 [.t 8, .t 9] := ⟨false, Tryz.f7, _, Tryz.func7, by decide, rfl, by kernel_rfl, rfl, by kernel_rfl⟩
def L_limit_Env_2 (N : Nat) (a4 : Int) (r12 : Int) (r15 : Int) (r16 : Int × Int) : Nat → Int → Option (Unit)
  | 0, _ => none
  | m2 + 1, v2_0 =>
    bif decide (v2_0 < 4) then
    ((getI ([r12, r15, r16.1, a4] : List Int) v2_0).bind fun y34 =>
    bif decide (y34 < (-1000000000000)) then
    (none)
    else
    (bif decide (1000000000000 < y34) then
    (none)
    else
    ((L_limit_Env_2 N a4 r12 r15 r16 m2) (IntKind.wrap .i64 (v2_0 + 1)))))
    else
    (some ())
def K_limit_Env_2 (N : Nat) (a3 : Int) (a4 : Int) (r5 : ApiAccount × Bool) (r12 : Int) (r15 : Int) (r16 : Int × Int) (x1_0 : Int) : (Unit) → Option ((List ApiValue) × Int)
  | _ =>
    (F_limit_Env_c1 N r12).bind fun r27 =>
    (F_limit_Env_c1 N r15).bind fun r28 =>
    (F_limit_Env_c1 N r16.1).bind fun r29 =>
    (F_limit_Env_c1 N a4).bind fun r30 =>
    (F_limit_Env_c2 N x1_0).bind fun r31 =>
    (F_limit_Env_c2 N (IntKind.wrap .i64 (a3 - r5.1.Opened_))).bind fun r32 =>
    some ([r27, r28, r29, r30, r31, r32, (⟨4, a3⟩ : ApiValue)], 0)
def L_limit_Env_1 (N : Nat) (a1 : ApiBooks) (a2 : Int) (a3 : Int) (r11 : Int) : Nat → Int → Int → Option (Int)
  | 0, _, _ => none
  | m1 + 1, v1_0, v1_1 =>
    bif decide (v1_1 < (a1.Journal_.length : Int)) then
    ((getI a1.Journal_ v1_1).bind fun y38 =>
    bif decide (r11 ≤ y38.Booked_) then
    (bif decide (y38.Booked_ ≤ a3) then
    ((F_limit_touches N y38 a2).bind fun r41 =>
    bif r41 then
    ((L_limit_Env_1 N a1 a2 a3 r11 m1) (IntKind.wrap .i64 (v1_0 + 1)) (IntKind.wrap .i64 (v1_1 + 1)))
    else
    (none))
    else
    (none))
    else
    (none))
    else
    (some v1_0)
def K_limit_Env_1 (N : Nat) (a3 : Int) (a4 : Int) (r5 : ApiAccount × Bool) (r12 : Int) (r15 : Int) (r16 : Int × Int) : (Int) → Option ((List ApiValue) × Int)
  | x1_0 =>
    (L_limit_Env_2 N a4 r12 r15 r16 N 0).bind (K_limit_Env_2 N a3 a4 r5 r12 r15 r16 x1_0)
def F_limit_Env  (N : Nat) (a1 : ApiBooks) (a2 : Int) (a3 : Int) (a4 : Int) : Option ((List ApiValue) × Int) :=
      (F_account_Find N a1 a2).bind fun r5 =>
    bif !r5.2 then
    (none)
    else
    ((F_date_Valid N a3).bind fun r7 =>
    bif !r7 then
    (none)
    else
    ((F_account_Active N a1 a2 a3).bind fun r9 =>
    bif !r9 then
    (none)
    else
    ((F_limit_month N a3).bind fun r11 =>
    (F_balance_Of N a1.Journal_ a2).bind fun r12 =>
    (F_balance_Daily N a1.Journal_ a2 (if r11 < r5.1.Opened_ then r5.1.Opened_ else r11) a3).bind fun r13 =>
    bif decide (0 < (r13.length : Int)) then
    ((F_slices_Min_int N r13).bind fun r15 =>
    (F_balance_Turnover N a1.Journal_ a2 r11 a3).bind fun r16 =>
    (L_limit_Env_1 N a1 a2 a3 r11 N 0 0).bind (K_limit_Env_1 N a3 a4 r5 r12 r15 r16))
    else
    (none))))
theorem P_limit_Env  {N : Nat} {a1 : ApiBooks} {a2 : Int} {a3 : Int} {a4 : Int} {r : (List ApiValue) × Int} (h : F_limit_Env N a1 a2 a3 a4 = some r) : Pure Tryz.prog (Gl.at 0) 7 [(ApiBooks.v a1), (i64 a2), (i64 a3), (i64 a4)] (.tup [(.sl (r.1.map ApiValue.v)), (i64 r.2)]) := by
  refine pure_run fn7 ?_
  rw [F_limit_Env] at h
  replace h := bs h
  change GG [.t 8, .t 9] _ [.pc p7_85] (mk 140 [(0, (ApiBooks.v a1)), (1, (i64 a2)), (2, (i64 a3)), (3, (i64 a4))]) []
  refine go_bind h (fun r5 hr5 h => ?_)
  refine gx mo [.pc p7_13, .blk 0, .pc p7_82] 140 [(1, (i64 a2)), (2, (i64 a3)), (3, (i64 a4)), (4, (.ref 0 0 0)), (10, (.ref 1 0 0)), (31, (.bool (!r5.2)))] [.row 22 [(ApiBooks.v a1)], .row 7 [(ApiAccount.v r5.1)]] 26 [tc 5 [.row 22 [(ApiBooks.v a1)]] (P_account_Find hr5) (fg (fs fl_nil))] ?_
  refine go_if h (fun hb6 h => ?_) (fun hb6 h => ?_)
  · cases h
  · rw [hb6]
    refine go_bind h (fun r7 hr7 h => ?_)
    refine go_if h (fun hb8 h => ?_) (fun hb8 h => ?_)
    · cases h
    · refine go_bind h (fun r9 hr9 h => ?_)
      refine gx mo [.pc p7_11, .blk 0, .pc p7_82] 140 [(1, (i64 a2)), (2, (i64 a3)), (3, (i64 a4)), (4, (.ref 0 0 0)), (10, (.ref 1 0 0)), (34, (.bool (!r9)))] [.row 22 [(ApiBooks.v a1)], .row 7 [(ApiAccount.v r5.1)]] 15 [tc 2 [.row 22 [(ApiBooks.v a1)], .row 7 [(ApiAccount.v r5.1)]] (P_date_Valid hr7) (fs fl_nil), twb 3 [.row 22 [(ApiBooks.v a1)], .row 7 [(ApiAccount.v r5.1)]] (.un .not (.c (.bool r7))) (!r7) false hb8, tc 8 [.row 22 [(ApiBooks.v a1)], .row 7 [(ApiAccount.v r5.1)]] (P_account_Active hr9) (fg (fs (fs fl_nil)))] ?_
      refine go_if h (fun hb10 h => ?_) (fun hb10 h => ?_)
      · cases h
      · rw [hb10]
        refine go_bind h (fun r11 hr11 h => ?_)
        refine go_bind h (fun r12 hr12 h => ?_)
        refine go_bind h (fun r13 hr13 h => ?_)
        refine gx mo [.pc p7_22, .pc p7_79] 140 [(1, (i64 a2)), (2, (i64 a3)), (3, (i64 a4)), (4, (.ref 0 0 0)), (10, (.ref 1 0 0)), (12, (i64 r11)), (13, (i64 r12)), (14, (i64 0)), (15, (.sl (r13.map i64))), (62, (.bool (decide (0 < (r13.length : Int)))))] [.row 22 [(ApiBooks.v a1)], .row 7 [(ApiAccount.v r5.1)]] 38 [tc 2 [.row 22 [(ApiBooks.v a1)], .row 7 [(ApiAccount.v r5.1)]] (P_limit_month hr11) (fs fl_nil), tc 7 [.row 22 [(ApiBooks.v a1)], .row 7 [(ApiAccount.v r5.1)]] (P_balance_Of hr12) (fs (fs fl_nil)), tcc 18 [.row 22 [(ApiBooks.v a1)], .row 7 [(ApiAccount.v r5.1)]] (P_balance_Daily hr13) (fs (fs (fs (fs fl_nil)))), tw 21 (E_len [.row 22 [(ApiBooks.v a1)], .row 7 [(ApiAccount.v r5.1)]] r13 i64)] ?_
        refine go_if h (fun hb14 h => ?_) (fun hb14 h => ?_)
        · rw [hb14]
          refine go_bind h (fun r15 hr15 h => ?_)
          refine go_bind h (fun r16 hr16 h => ?_)
          refine gx mo [.pc p7_44, .blk 1, .pc p7_76] 140 [(1, (i64 a2)), (2, (i64 a3)), (3, (i64 a4)), (10, (.ref 1 0 0)), (12, (i64 r11)), (13, (i64 r12)), (14, (i64 r15)), (16, (i64 r16.1)), (18, (i64 0)), (75, (.sl (a1.Journal_.map ApiEntry.v))), (76, (i64 (a1.Journal_.length : Int))), (77, (i64 0))] [.row 22 [(ApiBooks.v a1)], .row 7 [(ApiAccount.v r5.1)]] 33 [tc 2 [.row 22 [(ApiBooks.v a1)], .row 7 [(ApiAccount.v r5.1)]] (P_slices_Min_int hr15) (fs fl_nil), tc 9 [.row 22 [(ApiBooks.v a1)], .row 7 [(ApiAccount.v r5.1)]] (P_balance_Turnover hr16) (fs (fs (fs (fs fl_nil)))), tw 18 (E_len [.row 22 [(ApiBooks.v a1)], .row 7 [(ApiAccount.v r5.1)]] a1.Journal_ ApiEntry.v)] ?_
          refine go_pick [1] [] [(1, 0), (2, 0), (3, 0), (10, 0), (12, 0), (13, 0), (14, 0), (16, 0), (18, 0), (75, 0), (76, 0), (77, 0)] (t' := (mk 140 [(1, (i64 a2)), (2, (i64 a3)), (3, (i64 a4)), (10, (.ref 0 0 0)), (12, (i64 r11)), (13, (i64 r12)), (14, (i64 r15)), (16, (i64 r16.1)), (18, (i64 0)), (75, (.sl (a1.Journal_.map ApiEntry.v))), (76, (i64 (a1.Journal_.length : Int))), (77, (i64 0))])) (s' := [.row 7 [(ApiAccount.v r5.1)]]) (by kernel_rfl) ⟨clo_one rfl, trivial⟩ rfl ?_
          refine go_cut (X := Int) (fun x => (K_limit_Env_1 N a3 a4 r5 r12 r15 r16 x).bind some = some r) ([.pc p7_76]) (fun x => (mk 140 [(2, (i64 a3)), (3, (i64 a4)), (10, (.ref 0 0 0)), (13, (i64 r12)), (14, (i64 r15)), (16, (i64 r16.1)), (18, (i64 x))])) (fun x => [.row 7 [(ApiAccount.v r5.1)]]) ?_ fun kont1_0 => ?_
          · rintro x1_0 h
            rw [K_limit_Env_1] at h
            refine gx mo [.pc p7_66, .blk 3, .pc p7_75] 140 [(2, (i64 a3)), (3, (i64 a4)), (10, (.ref 0 0 0)), (13, (i64 r12)), (14, (i64 r15)), (16, (i64 r16.1)), (18, (i64 x1_0)), (103, (.sl [(i64 r12), (i64 r15), (i64 r16.1), (i64 a4)])), (104, (i64 4)), (105, (i64 0))] [.row 7 [(ApiAccount.v r5.1)]] 12 [] ?_
            refine go_cut (X := Unit) (fun x => (K_limit_Env_2 N a3 a4 r5 r12 r15 r16 x1_0 x).bind some = some r) ([.pc p7_75]) (fun x => (mk 140 [(2, (i64 a3)), (3, (i64 a4)), (10, (.ref 0 0 0)), (13, (i64 r12)), (14, (i64 r15)), (16, (i64 r16.1)), (18, (i64 x1_0))])) (fun x => [.row 7 [(ApiAccount.v r5.1)]]) ?_ fun kont2_0 => ?_
            · rintro _ h
              rw [K_limit_Env_2] at h
              refine go_bind h (fun r27 hr27 h => ?_)
              refine go_bind h (fun r28 hr28 h => ?_)
              refine go_bind h (fun r29 hr29 h => ?_)
              refine go_bind h (fun r30 hr30 h => ?_)
              refine go_bind h (fun r31 hr31 h => ?_)
              refine go_bind h (fun r32 hr32 h => ?_)
              refine gx mo [.pc p7_72] 140 [(8, (.sl [(ApiValue.v r27), (ApiValue.v r28), (ApiValue.v r29), (ApiValue.v r30), (ApiValue.v r31), (ApiValue.v r32), (.agg [(i64 4), (i64 a3)])])), (9, (i64 0))] [.row 7 [(ApiAccount.v r5.1)]] 10 [tgd 4 [.row 7 [(ApiAccount.v r5.1)]] [] [] [(i64 r12)] (P_limit_Env_c1 hr27) (fs fl_nil), tgd 7 [.row 7 [(ApiAccount.v r5.1)]] [] [] [(i64 r15)] (P_limit_Env_c1 hr28) (fs fl_nil), tgd 10 [.row 7 [(ApiAccount.v r5.1)]] [] [] [(i64 r16.1)] (P_limit_Env_c1 hr29) (fs fl_nil), tgd 13 [.row 7 [(ApiAccount.v r5.1)]] [] [] [(i64 a4)] (P_limit_Env_c1 hr30) (fs fl_nil), tgd 16 [.row 7 [(ApiAccount.v r5.1)]] [] [] [(i64 x1_0)] (P_limit_Env_c2 hr31) (fs fl_nil), tgd 22 [.row 7 [(ApiAccount.v r5.1)]] [] [] [(i64 (IntKind.wrap .i64 (a3 - r5.1.Opened_)))] (P_limit_Env_c2 hr32) (fs fl_nil)] ?_
              obtain rfl := Option.some.inj h
              exact gf (.tup [(.sl [(ApiValue.v r27), (ApiValue.v r28), (ApiValue.v r29), (ApiValue.v r30), (ApiValue.v r31), (ApiValue.v r32), (.agg [(i64 4), (i64 a3)])]), (i64 0)]) (f_tupl (fs (fs fl_nil)))
            refine go_loop' (fun m t s => ∃ (v2_0 : Int), (L_limit_Env_2 N a4 r12 r15 r16 m v2_0).bind (fun q => (K_limit_Env_2 N a3 a4 r5 r12 r15 r16 x1_0 q).bind some) = some r ∧ t = (mk 140 [(2, (i64 a3)), (3, (i64 a4)), (10, (.ref 0 0 0)), (13, (i64 r12)), (14, (i64 r15)), (16, (i64 r16.1)), (18, (i64 x1_0)), (103, (.sl [(i64 r12), (i64 r15), (i64 r16.1), (i64 a4)])), (104, (i64 4)), (105, (i64 v2_0))]) ∧ s = [.row 7 [(ApiAccount.v r5.1)]]) N ⟨0, go_assoc h, rfl, rfl⟩ ?_
            intro m2 J2 hJ2 t s
            rintro ⟨v2_0, h, rfl, rfl⟩
            cases m2 with
            | zero => exact absurd h (by simp [L_limit_Env_2])
            | succ m2 =>
              rw [L_limit_Env_2] at h
              refine gx mo [.pc p7_51, .pc p7_63, .jp J2, .blk 3, .pc p7_75] 140 [(2, (i64 a3)), (3, (i64 a4)), (10, (.ref 0 0 0)), (13, (i64 r12)), (14, (i64 r15)), (16, (i64 r16.1)), (18, (i64 x1_0)), (103, (.sl [(i64 r12), (i64 r15), (i64 r16.1), (i64 a4)])), (104, (i64 4)), (105, (i64 v2_0)), (106, (.bool (decide (v2_0 < 4))))] [.row 7 [(ApiAccount.v r5.1)]] 5 [] ?_
              refine go_if h (fun hb33 h => ?_) (fun hb33 h => ?_)
              · rw [hb33]
                refine go_bind h (fun y34 hy34 h => ?_)
                refine go_if h (fun hb35 h => ?_) (fun hb35 h => ?_)
                · cases h
                · refine gx mo [.pc p7_58, .blk 4, .pc p7_62, .jp J2, .blk 3, .pc p7_75] 140 [(2, (i64 a3)), (3, (i64 a4)), (10, (.ref 0 0 0)), (13, (i64 r12)), (14, (i64 r15)), (16, (i64 r16.1)), (18, (i64 x1_0)), (103, (.sl [(i64 r12), (i64 r15), (i64 r16.1), (i64 a4)])), (104, (i64 4)), (105, (i64 v2_0)), (114, (.bool (decide (1000000000000 < y34))))] [.row 7 [(ApiAccount.v r5.1)]] 19 [tw 1 (E_ia [.row 7 [(ApiAccount.v r5.1)]] i64 .i64 hy34), twb 5 [.row 7 [(ApiAccount.v r5.1)]] (.bin .lss .other true (.c (i64 y34)) (.c (i64 (-1000000000000)))) (decide (y34 < (-1000000000000))) false hb35] ?_
                  refine go_if h (fun hb36 h => ?_) (fun hb36 h => ?_)
                  · cases h
                  · rw [hb36]
                    refine gx mo [.jp J2, .blk 3, .pc p7_75] 140 [(2, (i64 a3)), (3, (i64 a4)), (10, (.ref 0 0 0)), (13, (i64 r12)), (14, (i64 r15)), (16, (i64 r16.1)), (18, (i64 x1_0)), (103, (.sl [(i64 r12), (i64 r15), (i64 r16.1), (i64 a4)])), (104, (i64 4)), (105, (i64 (IntKind.wrap .i64 (v2_0 + 1))))] [.row 7 [(ApiAccount.v r5.1)]] 7 [] ?_
                    exact go_back rfl (hJ2 m2 _ _ (Nat.lt_succ_self m2) ⟨IntKind.wrap .i64 (v2_0 + 1), h, rfl, rfl⟩)
              · rw [hb33]
                refine gx mo [.pc p7_75] 140 [(2, (i64 a3)), (3, (i64 a4)), (10, (.ref 0 0 0)), (13, (i64 r12)), (14, (i64 r15)), (16, (i64 r16.1)), (18, (i64 x1_0))] [.row 7 [(ApiAccount.v r5.1)]] 2 [] ?_
                exact kont2_0 () h
          refine go_loop' (fun m t s => ∃ (v1_0 : Int) (v1_1 : Int), (L_limit_Env_1 N a1 a2 a3 r11 m v1_0 v1_1).bind (fun q => (K_limit_Env_1 N a3 a4 r5 r12 r15 r16 q).bind some) = some r ∧ t = (mk 140 [(1, (i64 a2)), (2, (i64 a3)), (3, (i64 a4)), (10, (.ref 0 0 0)), (12, (i64 r11)), (13, (i64 r12)), (14, (i64 r15)), (16, (i64 r16.1)), (18, (i64 v1_0)), (75, (.sl (a1.Journal_.map ApiEntry.v))), (76, (i64 (a1.Journal_.length : Int))), (77, (i64 v1_1))]) ∧ s = [.row 7 [(ApiAccount.v r5.1)]]) N ⟨0, 0, go_assoc h, rfl, rfl⟩ ?_
          intro m1 J1 hJ1 t s
          rintro ⟨v1_0, v1_1, h, rfl, rfl⟩
          cases m1 with
          | zero => exact absurd h (by simp [L_limit_Env_1])
          | succ m1 =>
            rw [L_limit_Env_1] at h
            refine gx mo [.pc p7_31, .pc p7_41, .jp J1, .blk 1, .pc p7_76] 140 [(1, (i64 a2)), (2, (i64 a3)), (3, (i64 a4)), (10, (.ref 0 0 0)), (12, (i64 r11)), (13, (i64 r12)), (14, (i64 r15)), (16, (i64 r16.1)), (18, (i64 v1_0)), (75, (.sl (a1.Journal_.map ApiEntry.v))), (76, (i64 (a1.Journal_.length : Int))), (77, (i64 v1_1)), (78, (.bool (decide (v1_1 < (a1.Journal_.length : Int)))))] [.row 7 [(ApiAccount.v r5.1)]] 5 [] ?_
            refine go_if h (fun hb37 h => ?_) (fun hb37 h => ?_)
            · rw [hb37]
              refine go_bind h (fun y38 hy38 h => ?_)
              refine go_if h (fun hb39 h => ?_) (fun hb39 h => ?_)
              · refine go_if h (fun hb40 h => ?_) (fun hb40 h => ?_)
                · refine go_bind h (fun r41 hr41 h => ?_)
                  refine gx mo [.pc p7_36, .blk 2, .pc p7_40, .jp J1, .blk 1, .pc p7_76] 140 [(1, (i64 a2)), (2, (i64 a3)), (3, (i64 a4)), (10, (.ref 0 0 0)), (12, (i64 r11)), (13, (i64 r12)), (14, (i64 r15)), (16, (i64 r16.1)), (18, (i64 v1_0)), (75, (.sl (a1.Journal_.map ApiEntry.v))), (76, (i64 (a1.Journal_.length : Int))), (77, (i64 v1_1)), (95, (.bool r41))] [.row 7 [(ApiAccount.v r5.1)], .row 10 [(ApiEntry.v y38)]] 29 [tw 1 (E_ia [.row 7 [(ApiAccount.v r5.1)]] ApiEntry.v .i64 hy38), twb 8 [.row 7 [(ApiAccount.v r5.1)], .row 10 [(ApiEntry.v y38)]] (.bin .geq .other false (.c (i64 y38.Booked_)) (.c (i64 r11))) (decide (r11 ≤ y38.Booked_)) true hb39, twb 14 [.row 7 [(ApiAccount.v r5.1)], .row 10 [(ApiEntry.v y38)]] (.pick (.c (.bool true)) (.c (.bool (decide (y38.Booked_ ≤ a3)))) (.c (.bool false))) (decide (y38.Booked_ ≤ a3)) true hb40, tc 18 [.row 7 [(ApiAccount.v r5.1)], .row 10 [(ApiEntry.v y38)]] (P_limit_touches hr41) (fg (fs fl_nil))] ?_
                  refine go_if h (fun hb42 h => ?_) (fun hb42 h => ?_)
                  · rw [hb42]
                    refine gx mo [.jp J1, .blk 1, .pc p7_76] 140 [(1, (i64 a2)), (2, (i64 a3)), (3, (i64 a4)), (10, (.ref 0 0 0)), (12, (i64 r11)), (13, (i64 r12)), (14, (i64 r15)), (16, (i64 r16.1)), (18, (i64 (IntKind.wrap .i64 (v1_0 + 1)))), (75, (.sl (a1.Journal_.map ApiEntry.v))), (76, (i64 (a1.Journal_.length : Int))), (77, (i64 (IntKind.wrap .i64 (v1_1 + 1))))] [.row 7 [(ApiAccount.v r5.1)], .row 10 [(ApiEntry.v y38)]] 11 [] ?_
                    refine go_pick [0] [] [(1, 0), (2, 0), (3, 0), (10, 0), (12, 0), (13, 0), (14, 0), (16, 0), (18, 0), (75, 0), (76, 0), (77, 0)] (t' := (mk 140 [(1, (i64 a2)), (2, (i64 a3)), (3, (i64 a4)), (10, (.ref 0 0 0)), (12, (i64 r11)), (13, (i64 r12)), (14, (i64 r15)), (16, (i64 r16.1)), (18, (i64 (IntKind.wrap .i64 (v1_0 + 1)))), (75, (.sl (a1.Journal_.map ApiEntry.v))), (76, (i64 (a1.Journal_.length : Int))), (77, (i64 (IntKind.wrap .i64 (v1_1 + 1))))])) (s' := [.row 7 [(ApiAccount.v r5.1)]]) (by kernel_rfl) ⟨clo_one rfl, trivial⟩ rfl ?_
                    exact go_back rfl (hJ1 m1 _ _ (Nat.lt_succ_self m1) ⟨IntKind.wrap .i64 (v1_0 + 1), IntKind.wrap .i64 (v1_1 + 1), h, rfl, rfl⟩)
                  · cases h
                · cases h
              · cases h
            · rw [hb37]
              refine gx mo [.pc p7_76] 140 [(2, (i64 a3)), (3, (i64 a4)), (10, (.ref 0 0 0)), (13, (i64 r12)), (14, (i64 r15)), (16, (i64 r16.1)), (18, (i64 v1_0))] [.row 7 [(ApiAccount.v r5.1)]] 2 [] ?_
              exact kont1_0 v1_0 h
        · cases h
/-! cmp.isNaN[int] -/
def p106_2 : PC := .ret
def p106_4 : PC := (.seq (.reg (oo 2 (.mv (.c (.bool false))) :: [])) (.seq (.reg (om 3 0 :: om 4 0 :: oo 5 (.bin .neq .other false (.t 3) (.t 4)) :: om 2 5 :: [])) p106_2))
theorem fn106 : FnOk Tryz.prog 106 p106_4 6 [.t 2] := ⟨false, Tryz.f106, _, Tryz.func106, by decide, rfl, by kernel_rfl, rfl, by kernel_rfl⟩
def F_cmp_isNaN_int  (N : Nat) (a1 : Int) : Option (Bool) :=
      some (!decide (a1 = a1))
theorem P_cmp_isNaN_int  {N : Nat} {a1 : Int} {r : Bool} (h : F_cmp_isNaN_int N a1 = some r) : Pure Tryz.prog (Gl.at 0) 106 [(i64 a1)] (.bool r) := by
  refine pure_run fn106 ?_
  rw [F_cmp_isNaN_int] at h
  replace h := bs h
  change GG [.t 2] _ [.pc p106_4] (mk 6 [(0, (i64 a1))]) []
  refine gx mo [.pc p106_2] 6 [(2, (.bool (!decide (a1 = a1))))] [] 11 [] ?_
  obtain rfl := Option.some.inj h
  exact gf (.bool (!decide (a1 = a1))) (.same rfl)
/-! cmp.Compare[int] -/
def p97_41 : PC := (.seq (.reg (oo 4 (.mv (.c (.int .i64 0))) :: [])) .ret)
def p97_34 : PC := .ret
def p97_37 : PC := (.cond (.t 19) (.seq (.reg (oo 4 (.mv (.c (.int .i64 1))) :: [])) p97_34) .skip)
def p97_42 : PC := (.seq (.seq (.reg (om 17 0 :: om 18 1 :: oo 19 (.bin .gtr .other false (.t 17) (.t 18)) :: [])) p97_37) p97_41)
def p97_30 : PC := (.cond (.t 16) (.seq (.reg (oo 4 (.mv (.c (.int .i64 (-1)))) :: [])) .ret) .skip)
def p97_43 : PC := (.seq (.seq (.reg (om 14 0 :: om 15 1 :: oo 16 (.bin .lss .other false (.t 14) (.t 15)) :: [])) p97_30) p97_42)
def p97_23 : PC := (.cond (.t 13) (.seq (.reg (oo 4 (.mv (.c (.int .i64 1))) :: [])) .ret) .skip)
def p97_44 : PC := (.seq (.seq (.reg (om 13 6 :: [])) p97_23) p97_43)
def p97_16 : PC := (.cond (.t 11) (.seq (.seq (.reg (om 12 6 :: [])) (.cond (.t 12) (.seq (.reg (oo 4 (.mv (.c (.int .i64 0))) :: [])) .ret) .skip)) (.seq (.reg (oo 4 (.mv (.c (.int .i64 (-1)))) :: [])) .ret)) .skip)
def p97_48 : PC := (.seq (.reg (oo 4 (.mv (.c (.int .i64 0))) :: [])) (.seq (.reg (om 7 0 :: ⟨some 8, .call 106 [.t 7], none⟩ :: om 5 8 :: [])) (.seq (.reg (om 9 1 :: ⟨some 10, .call 106 [.t 9], none⟩ :: om 6 10 :: [])) (.seq (.seq (.reg (om 11 5 :: [])) p97_16) p97_44))))
theorem fn97 : FnOk Tryz.prog 97 p97_48 20 [.t 4] := ⟨false, Tryz.f97, _, Tryz.func97, by decide, rfl, by kernel_rfl, rfl, by kernel_rfl⟩
def F_cmp_Compare_int  (N : Nat) (a1 : Int) (a2 : Int) : Option (Int) :=
      (F_cmp_isNaN_int N a1).bind fun r3 =>
    (F_cmp_isNaN_int N a2).bind fun r4 =>
    bif r3 then
    (none)
    else
    (bif r4 then
    (none)
    else
    (bif decide (a1 < a2) then
    (none)
    else
    (bif decide (a2 < a1) then
    (some 1)
    else
    (none))))
theorem P_cmp_Compare_int  {N : Nat} {a1 : Int} {a2 : Int} {r : Int} (h : F_cmp_Compare_int N a1 a2 = some r) : Pure Tryz.prog (Gl.at 0) 97 [(i64 a1), (i64 a2)] (i64 r) := by
  refine pure_run fn97 ?_
  rw [F_cmp_Compare_int] at h
  replace h := bs h
  change GG [.t 4] _ [.pc p97_48] (mk 20 [(0, (i64 a1)), (1, (i64 a2))]) []
  refine go_bind h (fun r3 hr3 h => ?_)
  refine go_bind h (fun r4 hr4 h => ?_)
  refine gx mo [.pc p97_16, .pc p97_44] 20 [(0, (i64 a1)), (1, (i64 a2)), (6, (.bool r4)), (11, (.bool r3))] [] 21 [tc 2 [] (P_cmp_isNaN_int hr3) (fs fl_nil), tc 5 [] (P_cmp_isNaN_int hr4) (fs fl_nil)] ?_
  refine go_if h (fun hb5 h => ?_) (fun hb5 h => ?_)
  · cases h
  · rw [hb5]
    refine gx mo [.pc p97_23, .pc p97_43] 20 [(0, (i64 a1)), (1, (i64 a2)), (13, (.bool r4))] [] 7 [] ?_
    refine go_if h (fun hb6 h => ?_) (fun hb6 h => ?_)
    · cases h
    · rw [hb6]
      refine gx mo [.pc p97_30, .pc p97_42] 20 [(0, (i64 a1)), (1, (i64 a2)), (16, (.bool (decide (a1 < a2))))] [] 9 [] ?_
      refine go_if h (fun hb7 h => ?_) (fun hb7 h => ?_)
      · cases h
      · rw [hb7]
        refine gx mo [.pc p97_37, .pc p97_41] 20 [(19, (.bool (decide (a2 < a1))))] [] 9 [] ?_
        refine go_if h (fun hb8 h => ?_) (fun hb8 h => ?_)
        · rw [hb8]
          refine gx mo [.pc p97_34, .pc p97_41] 20 [(4, (i64 1))] [] 5 [] ?_
          obtain rfl := Option.some.inj h
          exact gf (i64 1) (.same rfl)
        · cases h
/-! cmp.isNaN[string] -/
def p107_2 : PC := .ret
def p107_4 : PC := (.seq (.reg (oo 2 (.mv (.c (.bool false))) :: [])) (.seq (.reg (om 3 0 :: om 4 0 :: oo 5 (.bin .neq .other false (.t 3) (.t 4)) :: om 2 5 :: [])) p107_2))
theorem fn107 : FnOk Tryz.prog 107 p107_4 6 [.t 2] := ⟨false, Tryz.f107, _, Tryz.func107, by decide, rfl, by kernel_rfl, rfl, by kernel_rfl⟩
def F_cmp_isNaN_string  (N : Nat) (a1 : List UInt8) : Option (Bool) :=
      some (!(a1 == a1))
theorem P_cmp_isNaN_string  {N : Nat} {a1 : List UInt8} {r : Bool} (h : F_cmp_isNaN_string N a1 = some r) : Pure Tryz.prog (Gl.at 0) 107 [(.str a1)] (.bool r) := by
  refine pure_run fn107 ?_
  rw [F_cmp_isNaN_string] at h
  replace h := bs h
  change GG [.t 2] _ [.pc p107_4] (mk 6 [(0, (.str a1))]) []
  refine gx mo [.pc p107_2] 6 [(2, (.bool (!(a1 == a1))))] [] 11 [] ?_
  obtain rfl := Option.some.inj h
  exact gf (.bool (!(a1 == a1))) (.same rfl)
/-! cmp.Compare[string] -/
def p98_40 : PC := .ret
def p98_41 : PC := (.seq (.reg (oo 4 (.mv (.c (.int .i64 0))) :: [])) p98_40)
def p98_37 : PC := (.cond (.t 19) (.seq (.reg (oo 4 (.mv (.c (.int .i64 1))) :: [])) .ret) .skip)
def p98_42 : PC := (.seq (.seq (.reg (om 17 0 :: om 18 1 :: oo 19 (.bin .gtr .other false (.t 17) (.t 18)) :: [])) p98_37) p98_41)
def p98_30 : PC := (.cond (.t 16) (.seq (.reg (oo 4 (.mv (.c (.int .i64 (-1)))) :: [])) .ret) .skip)
def p98_43 : PC := (.seq (.seq (.reg (om 14 0 :: om 15 1 :: oo 16 (.bin .lss .other false (.t 14) (.t 15)) :: [])) p98_30) p98_42)
def p98_23 : PC := (.cond (.t 13) (.seq (.reg (oo 4 (.mv (.c (.int .i64 1))) :: [])) .ret) .skip)
def p98_44 : PC := (.seq (.seq (.reg (om 13 6 :: [])) p98_23) p98_43)
def p98_16 : PC := (.cond (.t 11) (.seq (.seq (.reg (om 12 6 :: [])) (.cond (.t 12) (.seq (.reg (oo 4 (.mv (.c (.int .i64 0))) :: [])) .ret) .skip)) (.seq (.reg (oo 4 (.mv (.c (.int .i64 (-1)))) :: [])) .ret)) .skip)
def p98_48 : PC := (.seq (.reg (oo 4 (.mv (.c (.int .i64 0))) :: [])) (.seq (.reg (om 7 0 :: ⟨some 8, .call 107 [.t 7], none⟩ :: om 5 8 :: [])) (.seq (.reg (om 9 1 :: ⟨some 10, .call 107 [.t 9], none⟩ :: om 6 10 :: [])) (.seq (.seq (.reg (om 11 5 :: [])) p98_16) p98_44))))
theorem fn98 : FnOk Tryz.prog 98 p98_48 20 [.t 4] := ⟨false, Tryz.f98, _, Tryz.func98, by decide, rfl, by kernel_rfl, rfl, by kernel_rfl⟩
def F_cmp_Compare_string  (N : Nat) (a1 : List UInt8) (a2 : List UInt8) : Option (Int) :=
      (F_cmp_isNaN_string N a1).bind fun r3 =>
    (F_cmp_isNaN_string N a2).bind fun r4 =>
    bif r3 then
    (none)
    else
    (bif r4 then
    (none)
    else
    (bif Op.bytesLess a1 a2 then
    (none)
    else
    (bif !(Op.bytesLess a1 a2 || a1 == a2) then
    (none)
    else
    (some 0))))
theorem P_cmp_Compare_string  {N : Nat} {a1 : List UInt8} {a2 : List UInt8} {r : Int} (h : F_cmp_Compare_string N a1 a2 = some r) : Pure Tryz.prog (Gl.at 0) 98 [(.str a1), (.str a2)] (i64 r) := by
  refine pure_run fn98 ?_
  rw [F_cmp_Compare_string] at h
  replace h := bs h
  change GG [.t 4] _ [.pc p98_48] (mk 20 [(0, (.str a1)), (1, (.str a2))]) []
  refine go_bind h (fun r3 hr3 h => ?_)
  refine go_bind h (fun r4 hr4 h => ?_)
  refine gx mo [.pc p98_16, .pc p98_44] 20 [(0, (.str a1)), (1, (.str a2)), (6, (.bool r4)), (11, (.bool r3))] [] 21 [tc 2 [] (P_cmp_isNaN_string hr3) (fs fl_nil), tc 5 [] (P_cmp_isNaN_string hr4) (fs fl_nil)] ?_
  refine go_if h (fun hb5 h => ?_) (fun hb5 h => ?_)
  · cases h
  · rw [hb5]
    refine gx mo [.pc p98_23, .pc p98_43] 20 [(0, (.str a1)), (1, (.str a2)), (13, (.bool r4))] [] 7 [] ?_
    refine go_if h (fun hb6 h => ?_) (fun hb6 h => ?_)
    · cases h
    · rw [hb6]
      refine gx mo [.pc p98_30, .pc p98_42] 20 [(0, (.str a1)), (1, (.str a2)), (16, (.bool (Op.bytesLess a1 a2)))] [] 9 [] ?_
      refine go_if h (fun hb7 h => ?_) (fun hb7 h => ?_)
      · cases h
      · rw [hb7]
        refine gx mo [.pc p98_37, .pc p98_41] 20 [(19, (.bool (!(Op.bytesLess a1 a2 || a1 == a2))))] [] 9 [] ?_
        refine go_if h (fun hb8 h => ?_) (fun hb8 h => ?_)
        · cases h
        · rw [hb8]
          refine gx mo [.pc p98_40] 20 [(4, (i64 0))] [] 6 [] ?_
          obtain rfl := Option.some.inj h
          exact gf (i64 0) (.same rfl)
/-! cmp.Or[int] -/
def p96_26 : PC := (.seq (.reg (om 17 3 :: om 2 17 :: [])) .ret)
def p96_17 : PC := (.reg (oo 16 (.bin .add .other true (.t 8) (.c (.int .i64 1))) :: om 8 16 :: []))
def p96_10 : PC := .ret
def p96_13 : PC := (.cond (.t 14) (.seq (.reg (om 15 5 :: om 2 15 :: [])) p96_10) .skip)
def p96_18 : PC := (.seq (.block 1 (.seq (.reg (oo 10 (.ia 1 (.t 6) (.t 8)) :: oo 11 (.ld1 (.t 10)) :: om 5 11 :: [])) (.seq (.reg (om 12 5 :: om 13 3 :: oo 14 (.bin .neq .other false (.t 12) (.t 13)) :: [])) p96_13))) p96_17)
def p96_6 : PC := (.cond (.t 9) .skip (.exit 0))
def p96_21 : PC := (.loop (.seq (.reg (oo 9 (.bin .lss .other false (.t 8) (.t 7)) :: [])) (.seq p96_6 p96_18)))
def p96_29 : PC := (.seq (.reg (oo 2 (.mv (.c (.int .i64 0))) :: [])) (.seq (.reg (oo 3 (.mv (.c (.int .i64 0))) :: [])) (.seq (.seq (.reg (om 6 0 :: oo 7 (.len .slice (.t 6)) :: oo 8 (.mv (.c (.int .i64 0))) :: [])) (.block 0 p96_21)) p96_26)))
theorem fn96 : FnOk Tryz.prog 96 p96_29 18 [.t 2] := ⟨false, Tryz.f96, _, Tryz.func96, by decide, rfl, by kernel_rfl, rfl, by kernel_rfl⟩
def L_cmp_Or_int_1 (N : Nat) (a1 : List Int) : Nat → Int → Option (Br (Int) (Unit))
  | 0, _ => none
  | m1 + 1, v1_0 =>
    bif decide (v1_0 < (a1.length : Int)) then
    ((getI a1 v1_0).bind fun y6 =>
    bif !decide (y6 = 0) then
    (some (.ret y6))
    else
    (none))
    else
    (none)
def K_cmp_Or_int_1 (N : Nat)  : Br (Int) (Unit) → Option (Int)
  | .ret r => some r
  | .brk _ =>
    none
def F_cmp_Or_int  (N : Nat) (a1 : List Int) : Option (Int) :=
      (L_cmp_Or_int_1 N a1 N 0).bind (K_cmp_Or_int_1 N)
theorem P_cmp_Or_int  {N : Nat} {a1 : List Int} {r : Int} (h : F_cmp_Or_int N a1 = some r) : Pure Tryz.prog (Gl.at 0) 96 [(.sl (a1.map i64))] (i64 r) := by
  refine pure_run fn96 ?_
  rw [F_cmp_Or_int] at h
  replace h := bs h
  change GG [.t 2] _ [.pc p96_29] (mk 18 [(0, (.sl (a1.map i64)))]) []
  refine gx mo [.pc p96_21, .blk 0, .pc p96_26] 18 [(3, (i64 0)), (6, (.sl (a1.map i64))), (7, (i64 (a1.length : Int))), (8, (i64 0))] [] 16 [tw 3 (E_len [] a1 i64)] ?_
  refine go_loop' (fun m t s => ∃ (v1_0 : Int), (L_cmp_Or_int_1 N a1 m v1_0).bind (fun q => (K_cmp_Or_int_1 N q).bind some) = some r ∧ t = (mk 18 [(3, (i64 0)), (6, (.sl (a1.map i64))), (7, (i64 (a1.length : Int))), (8, (i64 v1_0))]) ∧ s = []) N ⟨0, go_assoc h, rfl, rfl⟩ ?_
  intro m1 J1 hJ1 t s
  rintro ⟨v1_0, h, rfl, rfl⟩
  cases m1 with
  | zero => exact absurd h (by simp [L_cmp_Or_int_1])
  | succ m1 =>
    rw [L_cmp_Or_int_1] at h
    refine gx mo [.pc p96_6, .pc p96_18, .jp J1, .blk 0, .pc p96_26] 18 [(3, (i64 0)), (6, (.sl (a1.map i64))), (7, (i64 (a1.length : Int))), (8, (i64 v1_0)), (9, (.bool (decide (v1_0 < (a1.length : Int)))))] [] 5 [] ?_
    refine go_if h (fun hb5 h => ?_) (fun hb5 h => ?_)
    · rw [hb5]
      refine go_bind h (fun y6 hy6 h => ?_)
      refine gx mo [.pc p96_13, .blk 1, .pc p96_17, .jp J1, .blk 0, .pc p96_26] 18 [(3, (i64 0)), (5, (i64 y6)), (6, (.sl (a1.map i64))), (7, (i64 (a1.length : Int))), (8, (i64 v1_0)), (14, (.bool (!decide (y6 = 0))))] [] 16 [tw 1 (E_ia [] i64 .i64 hy6)] ?_
      refine go_if h (fun hb7 h => ?_) (fun hb7 h => ?_)
      · rw [hb7]
        refine gx mo [.pc p96_10, .blk 1, .pc p96_17, .jp J1, .blk 0, .pc p96_26] 18 [(2, (i64 y6))] [] 6 [] ?_
        obtain rfl := Option.some.inj h
        exact gf (i64 y6) (.same rfl)
      · cases h
    · cases h
/-! corebank/entry.compare -/
def p88_2 : PC := .ret
def p88_4 : PC := (.seq (.reg (oo 2 (.box (.t 0)) :: oo 3 (.box (.t 1)) :: oo 4 (.mv (.c (.int .i64 0))) :: [])) (.seq (.drawn (oo 5 (.fa 0 (.t 2)) :: oo 6 (.ld1 (.t 5)) :: oo 7 (.fa 0 (.t 3)) :: oo 8 (.ld1 (.t 7)) :: ⟨some 9, .call 97 [.t 6, .t 8], none⟩ :: oo 10 (.fa 2 (.t 2)) :: oo 11 (.ld1 (.t 10)) :: oo 12 (.fa 2 (.t 3)) :: oo 13 (.ld1 (.t 12)) :: ⟨some 14, .call 98 [.t 11, .t 13], none⟩ :: oo 15 (.lit (.int .i64 0) 2 [(0, .t 9), (1, .t 14)]) :: ⟨some 16, .call 96 [.t 15], none⟩ :: om 4 16 :: []) [[], [0], [], [2], [1, 3], [], [5], [], [7], [6, 8, 4], [4, 9], [10, 9], [11, 11, 0, 1, 2, 3, 4, 5, 6, 7, 8, 9, 10, 11]]) p88_2))
theorem fn88 : FnOk Tryz.prog 88 p88_4 17 [.t 4] := ⟨false, Tryz.f88, _, Tryz.func88, by decide, rfl, by kernel_rfl, rfl, by kernel_rfl⟩
def F_entry_compare  (N : Nat) (a1 : ApiLeg) (a2 : ApiLeg) : Option (Int) :=
      (F_cmp_Compare_int N a1.Account_ a2.Account_).bind fun r3 =>
    (F_cmp_Compare_string N a1.Currency_ a2.Currency_).bind fun r4 =>
    (F_cmp_Or_int N [r3, r4]).bind fun r5 =>
    some r5
theorem P_entry_compare  {N : Nat} {a1 : ApiLeg} {a2 : ApiLeg} {r : Int} (h : F_entry_compare N a1 a2 = some r) : Pure Tryz.prog (Gl.at 0) 88 [(ApiLeg.v a1), (ApiLeg.v a2)] (i64 r) := by
  refine pure_run fn88 ?_
  rw [F_entry_compare] at h
  replace h := bs h
  change GG [.t 4] _ [.pc p88_4] (mk 17 [(0, (ApiLeg.v a1)), (1, (ApiLeg.v a2))]) []
  refine go_bind h (fun r3 hr3 h => ?_)
  refine go_bind h (fun r4 hr4 h => ?_)
  refine go_bind h (fun r5 hr5 h => ?_)
  refine gx mo [.pc p88_2] 17 [(4, (i64 r5))] [.row 3 [(ApiLeg.v a1)], .row 3 [(ApiLeg.v a2)]] 8 [tgc 7 [.row 3 [(ApiLeg.v a1)], .row 3 [(ApiLeg.v a2)]] (P_cmp_Compare_int hr3) (fs (fs fl_nil)), tgc 12 [.row 3 [(ApiLeg.v a1)], .row 3 [(ApiLeg.v a2)]] (P_cmp_Compare_string hr4) (fs (fs fl_nil)), tgc 14 [.row 3 [(ApiLeg.v a1)], .row 3 [(ApiLeg.v a2)]] (P_cmp_Or_int hr5) (fs fl_nil)] ?_
  obtain rfl := Option.some.inj h
  exact gf (i64 r5) (.same rfl)
/-! slices.BinarySearchFunc[[]corebank/api.Leg,corebank/api.Leg,corebank/api.Leg] -/
def p87_20 : PC := .ret
def p87_21 : PC := (.seq (.drawn (om 35 9 :: om 36 9 :: om 37 8 :: oo 38 (.bin .lss .other false (.t 36) (.t 37)) :: om 39 38 :: ⟨some 40, .op (.mv (.t 2)), some (39, true)⟩ :: ⟨some 41, .op (.mv (.t 0)), some (39, true)⟩ :: ⟨some 42, .op (.mv (.t 9)), some (39, true)⟩ :: ⟨some 43, .op (.ia 3 (.t 41) (.t 42)), some (39, true)⟩ :: ⟨some 44, .op (.ldA 3 (.t 43)), some (39, true)⟩ :: ⟨some 45, .op (.ldA 3 (.t 4)), some (39, true)⟩ :: ⟨some 46, .dyn (.t 40) [.t 44, .t 45], some (39, true)⟩ :: ⟨some 47, .op (.bin .eql .other true (.t 46) (.c (.int .i64 0))), some (39, true)⟩ :: oo 48 (.pick (.t 39) (.t 47) (.c (.bool false))) :: om 6 35 :: om 7 48 :: []) [[], [], [], [1, 2], [3], [4], [4], [4], [6, 7, 4], [8, 4], [4], [5, 9, 10, 4, 4], [11, 4], [4, 12], [0, 11, 0], [13, 14, 0, 1, 2, 3, 4, 5, 6, 7, 8, 9, 10, 11, 12, 13, 14]]) p87_20)
def p87_12 : PC := (.cond (.t 31) (.reg (om 32 11 :: oo 33 (.bin .add .other true (.t 32) (.c (.int .i64 1))) :: om 9 33 :: [])) (.reg (om 34 11 :: om 10 34 :: [])))
def p87_15 : PC := (.block 1 (.seq (.reg (om 18 9 :: om 19 10 :: oo 20 (.bin .add .other false (.t 18) (.t 19)) :: oo 21 (.cvI .u64 (.t 20)) :: oo 22 (.bin .shr .other true (.t 21) (.c (.int .u64 1))) :: oo 23 (.cvI .i64 (.t 22)) :: om 11 23 :: [])) (.seq (.drawn (om 24 2 :: om 25 0 :: om 26 11 :: oo 27 (.ia 3 (.t 25) (.t 26)) :: oo 28 (.ldA 3 (.t 27)) :: oo 29 (.ldA 3 (.t 4)) :: ⟨some 30, .dyn (.t 24) [.t 28, .t 29], none⟩ :: oo 31 (.bin .lss .other true (.t 30) (.c (.int .i64 0))) :: []) [[], [], [], [1, 2], [3], [], [0, 4, 5], [6]]) p87_12)))
def p87_6 : PC := (.cond (.t 17) .skip (.exit 0))
def p87_17 : PC := (.loop (.seq (.seq (.reg (om 15 9 :: om 16 10 :: oo 17 (.bin .lss .other false (.t 15) (.t 16)) :: [])) p87_6) p87_15))
def p87_25 : PC := (.seq (.reg (oo 4 (.box (.t 1)) :: oo 6 (.mv (.c (.int .i64 0))) :: oo 7 (.mv (.c (.bool false))) :: [])) (.seq (.reg (om 12 0 :: oo 13 (.len .slice (.t 12)) :: om 8 13 :: [])) (.seq (.reg (om 14 8 :: oo 9 (.mv (.c (.int .i64 0))) :: om 10 14 :: [])) (.seq (.block 0 p87_17) p87_21))))
theorem fn87 : FnOk Tryz.prog 87 p87_25 49 [.t 6, .t 7] := ⟨false, Tryz.f87, _, Tryz.func87, by decide, rfl, by kernel_rfl, rfl, by kernel_rfl⟩
def L_slices_BinarySearchFunc_api_Leg_v28a_1 (N : Nat) (a1 : List ApiLeg) (a2 : ApiLeg) : Nat → Int → Int → Option (Int)
  | 0, _, _ => none
  | m1 + 1, v1_0, v1_1 =>
    bif decide (v1_0 < v1_1) then
    ((shrI .u64 (IntKind.wrap .u64 (IntKind.wrap .i64 (v1_0 + v1_1))) 1).bind fun q12 =>
    (getI a1 (IntKind.wrap .i64 q12)).bind fun y13 =>
    (F_entry_compare N y13 a2).bind fun r14 =>
    bif decide (r14 < 0) then
    (none)
    else
    ((L_slices_BinarySearchFunc_api_Leg_v28a_1 N a1 a2 m1) v1_0 (IntKind.wrap .i64 q12)))
    else
    (some v1_0)
def K_slices_BinarySearchFunc_api_Leg_v28a_1 (N : Nat) (a1 : List ApiLeg) (a2 : ApiLeg) : (Int) → Option (Int × Bool)
  | x1_0 =>
    bif decide (x1_0 < (a1.length : Int)) then
    ((getI a1 x1_0).bind fun y9 =>
    (F_entry_compare N y9 a2).bind fun r10 =>
    some (x1_0, decide (r10 = 0)))
    else
    (some (x1_0, false))
def F_slices_BinarySearchFunc_api_Leg_v28a  (N : Nat) (a1 : List ApiLeg) (a2 : ApiLeg) : Option (Int × Bool) :=
      (L_slices_BinarySearchFunc_api_Leg_v28a_1 N a1 a2 N 0 (a1.length : Int)).bind (K_slices_BinarySearchFunc_api_Leg_v28a_1 N a1 a2)
theorem P_slices_BinarySearchFunc_api_Leg_v28a  {N : Nat} {a1 : List ApiLeg} {a2 : ApiLeg} {r : Int × Bool} (h : F_slices_BinarySearchFunc_api_Leg_v28a N a1 a2 = some r) : Pure Tryz.prog (Gl.at 0) 87 [(.sl (a1.map ApiLeg.v)), (ApiLeg.v a2), (.fn (.func 88) [] [])] (.tup [(i64 r.1), (.bool r.2)]) := by
  refine pure_run fn87 ?_
  rw [F_slices_BinarySearchFunc_api_Leg_v28a] at h
  replace h := bs h
  change GG [.t 6, .t 7] _ [.pc p87_25] (mk 49 [(0, (.sl (a1.map ApiLeg.v))), (1, (ApiLeg.v a2)), (2, (.fn (.func 88) [] []))]) []
  refine gx mo [.pc p87_17, .blk 0, .pc p87_21] 49 [(0, (.sl (a1.map ApiLeg.v))), (2, (.fn (.func 88) [] [])), (4, (.ref 0 0 0)), (8, (i64 (a1.length : Int))), (9, (i64 0)), (10, (i64 (a1.length : Int)))] [.row 3 [(ApiLeg.v a2)]] 20 [tw 4 (E_len [.row 3 [(ApiLeg.v a2)]] a1 ApiLeg.v)] ?_
  refine go_cut (X := Int) (fun x => (K_slices_BinarySearchFunc_api_Leg_v28a_1 N a1 a2 x).bind some = some r) ([.pc p87_21]) (fun x => (mk 49 [(0, (.sl (a1.map ApiLeg.v))), (2, (.fn (.func 88) [] [])), (4, (.ref 0 0 0)), (8, (i64 (a1.length : Int))), (9, (i64 x))])) (fun x => [.row 3 [(ApiLeg.v a2)]]) ?_ fun kont1_0 => ?_
  · rintro x1_0 h
    rw [K_slices_BinarySearchFunc_api_Leg_v28a_1] at h
    refine go_if h (fun hb8 h => ?_) (fun hb8 h => ?_)
    · refine go_bind h (fun y9 hy9 h => ?_)
      refine go_bind h (fun r10 hr10 h => ?_)
      refine gx mo [.pc p87_20] 49 [(6, (i64 x1_0)), (7, (.bool (decide (r10 = 0))))] [.row 3 [(ApiLeg.v a2)]] 2 [tgb 3 [.row 3 [(ApiLeg.v a2)]] (.bin .lss .other false (.c (i64 x1_0)) (.c (i64 (a1.length : Int)))) (decide (x1_0 < (a1.length : Int))) true hb8, tg 8 (E_ia [.row 3 [(ApiLeg.v a2)]] ApiLeg.v .i64 hy9), tgd 11 [.row 3 [(ApiLeg.v a2)]] [] [] [(ApiLeg.v y9), (ApiLeg.v a2)] (P_entry_compare hr10) (fg (fg fl_nil))] ?_
      obtain rfl := Option.some.inj h
      exact gf (.tup [(i64 x1_0), (.bool (decide (r10 = 0)))]) (f_tupl (fs (fs fl_nil)))
    · refine gx mo [.pc p87_20] 49 [(6, (i64 x1_0)), (7, (.bool false))] [.row 3 [(ApiLeg.v a2)]] 2 [tgb 3 [.row 3 [(ApiLeg.v a2)]] (.bin .lss .other false (.c (i64 x1_0)) (.c (i64 (a1.length : Int)))) (decide (x1_0 < (a1.length : Int))) false hb8] ?_
      obtain rfl := Option.some.inj h
      exact gf (.tup [(i64 x1_0), (.bool false)]) (f_tupl (fs (fs fl_nil)))
  refine go_loop' (fun m t s => ∃ (v1_0 : Int) (v1_1 : Int), (L_slices_BinarySearchFunc_api_Leg_v28a_1 N a1 a2 m v1_0 v1_1).bind (fun q => (K_slices_BinarySearchFunc_api_Leg_v28a_1 N a1 a2 q).bind some) = some r ∧ t = (mk 49 [(0, (.sl (a1.map ApiLeg.v))), (2, (.fn (.func 88) [] [])), (4, (.ref 0 0 0)), (8, (i64 (a1.length : Int))), (9, (i64 v1_0)), (10, (i64 v1_1))]) ∧ s = [.row 3 [(ApiLeg.v a2)]]) N ⟨0, (a1.length : Int), go_assoc h, rfl, rfl⟩ ?_
  intro m1 J1 hJ1 t s
  rintro ⟨v1_0, v1_1, h, rfl, rfl⟩
  cases m1 with
  | zero => exact absurd h (by simp [L_slices_BinarySearchFunc_api_Leg_v28a_1])
  | succ m1 =>
    rw [L_slices_BinarySearchFunc_api_Leg_v28a_1] at h
    refine gx mo [.pc p87_6, .pc p87_15, .jp J1, .blk 0, .pc p87_21] 49 [(0, (.sl (a1.map ApiLeg.v))), (2, (.fn (.func 88) [] [])), (4, (.ref 0 0 0)), (8, (i64 (a1.length : Int))), (9, (i64 v1_0)), (10, (i64 v1_1)), (17, (.bool (decide (v1_0 < v1_1))))] [.row 3 [(ApiLeg.v a2)]] 7 [] ?_
    refine go_if h (fun hb11 h => ?_) (fun hb11 h => ?_)
    · rw [hb11]
      refine go_bind h (fun q12 hq12 h => ?_)
      refine go_bind h (fun y13 hy13 h => ?_)
      refine go_bind h (fun r14 hr14 h => ?_)
      refine gx mo [.pc p87_12, .blk 1, .jp J1, .blk 0, .pc p87_21] 49 [(0, (.sl (a1.map ApiLeg.v))), (2, (.fn (.func 88) [] [])), (4, (.ref 0 0 0)), (8, (i64 (a1.length : Int))), (9, (i64 v1_0)), (10, (i64 v1_1)), (11, (i64 (IntKind.wrap .i64 q12))), (31, (.bool (decide (r14 < 0))))] [.row 3 [(ApiLeg.v a2)]] 15 [tw 5 (s := [.row 3 [(ApiLeg.v a2)]]) (s' := [.row 3 [(ApiLeg.v a2)]]) (q := (.bin .shr .other true (.c (.int .u64 (IntKind.wrap .u64 (IntKind.wrap .i64 (v1_0 + v1_1))))) (.c (.int .u64 1)))) (v := (.int .u64 q12)) (e_shr hq12), tg 11 (E_ia [.row 3 [(ApiLeg.v a2)]] ApiLeg.v .i64 hy13), tgd 14 [.row 3 [(ApiLeg.v a2)]] [] [] [(ApiLeg.v y13), (ApiLeg.v a2)] (P_entry_compare hr14) (fg (fg fl_nil))] ?_
      refine go_if h (fun hb15 h => ?_) (fun hb15 h => ?_)
      · cases h
      · rw [hb15]
        refine gx mo [.jp J1, .blk 0, .pc p87_21] 49 [(0, (.sl (a1.map ApiLeg.v))), (2, (.fn (.func 88) [] [])), (4, (.ref 0 0 0)), (8, (i64 (a1.length : Int))), (9, (i64 v1_0)), (10, (i64 (IntKind.wrap .i64 q12)))] [.row 3 [(ApiLeg.v a2)]] 6 [] ?_
        exact go_back rfl (hJ1 m1 _ _ (Nat.lt_succ_self m1) ⟨v1_0, IntKind.wrap .i64 q12, h, rfl, rfl⟩)
    · rw [hb11]
      refine gx mo [.pc p87_21] 49 [(0, (.sl (a1.map ApiLeg.v))), (2, (.fn (.func 88) [] [])), (4, (.ref 0 0 0)), (8, (i64 (a1.length : Int))), (9, (i64 v1_0))] [.row 3 [(ApiLeg.v a2)]] 2 [] ?_
      exact kont1_0 v1_0 h
/-! corebank/entry.Net$1 -/
def p74_2 : PC := .ret
def p74_4 : PC := (.seq (.reg (oo 1 (.box (.t 0)) :: oo 2 (.mv (.c (.bool false))) :: [])) (.seq (.reg (oo 3 (.fa 1 (.t 1)) :: oo 4 (.ld1 (.t 3)) :: oo 5 (.bin .eql .other true (.t 4) (.c (.int .i64 0))) :: om 2 5 :: [])) p74_2))
theorem fn74 : FnOk Tryz.prog 74 p74_4 6 [.t 2] := ⟨false, Tryz.f74, _, Tryz.func74, by decide, rfl, by kernel_rfl, rfl, by kernel_rfl⟩
def F_entry_Net_c1  (N : Nat) (a1 : ApiLeg) : Option (Bool) :=
      some (decide (a1.Amount_ = 0))
theorem P_entry_Net_c1  {N : Nat} {a1 : ApiLeg} {r : Bool} (h : F_entry_Net_c1 N a1 = some r) : Pure Tryz.prog (Gl.at 0) 74 [(ApiLeg.v a1)] (.bool r) := by
  refine pure_run fn74 ?_
  rw [F_entry_Net_c1] at h
  replace h := bs h
  change GG [.t 2] _ [.pc p74_4] (mk 6 [(0, (ApiLeg.v a1))]) []
  refine gx mo [.pc p74_2] 6 [(2, (.bool (decide (a1.Amount_ = 0))))] [.row 3 [(ApiLeg.v a1)]] 12 [] ?_
  obtain rfl := Option.some.inj h
  exact gf (.bool (decide (a1.Amount_ = 0))) (.same rfl)
def L_slices_IndexFunc_api_Leg_v763_1 (N : Nat) (a1 : List ApiLeg) : Nat → Int → Option (Unit)
  | 0, _ => none
  | m1 + 1, v1_0 =>
    bif decide (v1_0 < (a1.length : Int)) then
    ((getI a1 v1_0).bind fun y7 =>
    (F_entry_Net_c1 N y7).bind fun r8 =>
    bif r8 then
    (none)
    else
    ((L_slices_IndexFunc_api_Leg_v763_1 N a1 m1) (IntKind.wrap .i64 (v1_0 + 1))))
    else
    (some ())
def K_slices_IndexFunc_api_Leg_v763_1 (N : Nat)  : (Unit) → Option (Int)
  | _ =>
    some (-1)
def F_slices_IndexFunc_api_Leg_v763  (N : Nat) (a1 : List ApiLeg) : Option (Int) :=
      (L_slices_IndexFunc_api_Leg_v763_1 N a1 N 0).bind (K_slices_IndexFunc_api_Leg_v763_1 N)
theorem P_slices_IndexFunc_api_Leg_v763  {N : Nat} {a1 : List ApiLeg} {r : Int} (h : F_slices_IndexFunc_api_Leg_v763 N a1 = some r) : Pure Tryz.prog (Gl.at 0) 84 [(.sl (a1.map ApiLeg.v)), (.fn (.func 74) [] [])] (i64 r) := by
  refine pure_run fn84 ?_
  rw [F_slices_IndexFunc_api_Leg_v763] at h
  replace h := bs h
  change GG [.t 4] _ [.pc p84_27] (mk 19 [(0, (.sl (a1.map ApiLeg.v))), (1, (.fn (.func 74) [] []))]) []
  refine gx mo [.pc p84_20, .blk 0, .pc p84_25] 19 [(0, (.sl (a1.map ApiLeg.v))), (1, (.fn (.func 74) [] [])), (7, (i64 (a1.length : Int))), (8, (i64 0))] [] 12 [tw 2 (E_len [] a1 ApiLeg.v)] ?_
  refine go_cut (X := Unit) (fun x => (K_slices_IndexFunc_api_Leg_v763_1 N x).bind some = some r) ([.pc p84_25]) (fun x => (mk 19 [])) (fun x => []) ?_ fun kont1_0 => ?_
  · rintro _ h
    rw [K_slices_IndexFunc_api_Leg_v763_1] at h
    refine gx mo [.pc p84_24] 19 [(4, (i64 (-1)))] [] 4 [] ?_
    obtain rfl := Option.some.inj h
    exact gf (i64 (-1)) (.same rfl)
  refine go_loop' (fun m t s => ∃ (v1_0 : Int), (L_slices_IndexFunc_api_Leg_v763_1 N a1 m v1_0).bind (fun q => (K_slices_IndexFunc_api_Leg_v763_1 N q).bind some) = some r ∧ t = (mk 19 [(0, (.sl (a1.map ApiLeg.v))), (1, (.fn (.func 74) [] [])), (7, (i64 (a1.length : Int))), (8, (i64 v1_0))]) ∧ s = []) N ⟨0, go_assoc h, rfl, rfl⟩ ?_
  intro m1 J1 hJ1 t s
  rintro ⟨v1_0, h, rfl, rfl⟩
  cases m1 with
  | zero => exact absurd h (by simp [L_slices_IndexFunc_api_Leg_v763_1])
  | succ m1 =>
    rw [L_slices_IndexFunc_api_Leg_v763_1] at h
    refine gx mo [.pc p84_5, .pc p84_17, .jp J1, .blk 0, .pc p84_25] 19 [(0, (.sl (a1.map ApiLeg.v))), (1, (.fn (.func 74) [] [])), (7, (i64 (a1.length : Int))), (8, (i64 v1_0)), (9, (.bool (decide (v1_0 < (a1.length : Int)))))] [] 5 [] ?_
    refine go_if h (fun hb6 h => ?_) (fun hb6 h => ?_)
    · rw [hb6]
      refine go_bind h (fun y7 hy7 h => ?_)
      refine go_bind h (fun r8 hr8 h => ?_)
      refine gx mo [.pc p84_12, .blk 1, .pc p84_16, .jp J1, .blk 0, .pc p84_25] 19 [(0, (.sl (a1.map ApiLeg.v))), (1, (.fn (.func 74) [] [])), (5, (i64 v1_0)), (7, (i64 (a1.length : Int))), (8, (i64 v1_0)), (16, (.bool r8))] [] 18 [tw 6 (E_ia [] ApiLeg.v .i64 hy7), td 8 [] [] [] [(ApiLeg.v y7)] (P_entry_Net_c1 hr8) (fg fl_nil)] ?_
      refine go_if h (fun hb9 h => ?_) (fun hb9 h => ?_)
      · cases h
      · rw [hb9]
        refine gx mo [.jp J1, .blk 0, .pc p84_25] 19 [(0, (.sl (a1.map ApiLeg.v))), (1, (.fn (.func 74) [] [])), (7, (i64 (a1.length : Int))), (8, (i64 (IntKind.wrap .i64 (v1_0 + 1))))] [] 7 [] ?_
        exact go_back rfl (hJ1 m1 _ _ (Nat.lt_succ_self m1) ⟨IntKind.wrap .i64 (v1_0 + 1), h, rfl, rfl⟩)
    · rw [hb6]
      refine gx mo [.pc p84_25] 19 [] [] 2 [] ?_
      exact kont1_0 () h
/-! corebank/entry.Net -/
def p53_3 : PC := .ret
def o53_2_1 : List PO := ⟨some 7, .call 73 [.t 6, .c (.fn (.func 74) [] [])], none⟩ :: om 2 7 :: []
def p53_4 : PC := (.seq (.reg (om 6 3 :: o53_2_1)) p53_3)
def o53_1_1 : List PO := ⟨some 5, .call 72 [.c .nils, .t 4], none⟩ :: om 3 5 :: []
def p53_6 : PC := (.seq (.reg (oo 2 (.mv (.c .nils)) :: [])) (.seq (.reg (om 4 0 :: o53_1_1)) p53_4))
theorem fn53 : FnOk Tryz.prog 53 p53_6 8 [.t 2] := ⟨false, Tryz.f53, _, Tryz.func53, by decide, rfl, by kernel_rfl, rfl, by kernel_rfl⟩
def L_entry_Net_1 (N : Nat) (a1 : List ApiLeg) : Nat → (List ApiLeg) → Int → Option ((List ApiLeg))
  | 0, _, _ => none
  | m1 + 1, v1_0, v1_1 =>
    bif decide (v1_1 < (a1.length : Int)) then
    ((getI a1 v1_1).bind fun y10 =>
    (F_slices_BinarySearchFunc_api_Leg_v28a N v1_0 y10).bind fun r11 =>
    bif r11.2 then
    (none)
    else
    ((insI 32 v1_0 r11.1 y10).bind fun l13 =>
    (L_entry_Net_1 N a1 m1) l13 (IntKind.wrap .i64 (v1_1 + 1))))
    else
    (some v1_0)
def K_entry_Net_1 (N : Nat)  : ((List ApiLeg)) → Option ((List ApiLeg))
  | x1_0 =>
    (F_slices_IndexFunc_api_Leg_v763 N x1_0).bind fun r7 =>
    bif decide (r7 = (-1)) then
    (some x1_0)
    else
    (none)
def F_entry_Net  (N : Nat) (a1 : List ApiLeg) : Option ((List ApiLeg)) :=
      (L_entry_Net_1 N a1 N [] 0).bind (K_entry_Net_1 N)
theorem P_entry_Net  {N : Nat} {a1 : List ApiLeg} {r : (List ApiLeg)} (h : F_entry_Net N a1 = some r) : Pure Tryz.prog (Gl.at 0) 53 [(.sl (a1.map ApiLeg.v))] (.sl (r.map ApiLeg.v)) := by
  refine pure_run fn53 ?_
  rw [F_entry_Net] at h
  replace h := bs h
  change GG [.t 2] _ [.pc p53_6] (mk 8 [(0, (.sl (a1.map ApiLeg.v)))]) []
  refine gx mo [.ops o53_1_1, .pc p53_4] 8 [(4, (.sl (a1.map ApiLeg.v)))] [] 7 [] ?_
  refine go_inl (pc := p72_27) rfl fn72 ?_
  refine gx mo [.pc p72_20, .blk 0, .pc p72_25] 39 [(0, .nils), (9, (.sl (a1.map ApiLeg.v))), (10, (i64 (a1.length : Int))), (11, (i64 0))] [] 12 [tw 2 (E_len [] a1 ApiLeg.v)] ?_
  refine go_cut (X := (List ApiLeg)) (fun x => x = [] ∧ (K_entry_Net_1 N x).bind some = some r) ([.pc p72_25]) (fun x => (mk 39 [(0, .nils)])) (fun x => []) ?_ fun kont1_0 => ?_
  · rintro x1_0 ⟨hx0, h⟩
    obtain rfl : x1_0 = [] := hx0
    rw [K_entry_Net_1] at h
    refine gx mo [.pc p72_24] 39 [(4, .nils)] [] 5 [] ?_
    refine go_inret .nils (by kernel_rfl) (noMark_ofB rfl) rfl ?_
    refine gx mo [.ops o53_2_1, .pc p53_3] 8 [(6, .nils)] [] 5 [] ?_
    refine go_inl (pc := p73_39) rfl fn73 ?_
    refine go_bind h (fun r7 hr7 h => ?_)
    refine gx mo [.pc p73_7, .pc p73_36] 42 [(0, .nils), (1, (.fn (.func 74) [] [])), (5, (i64 r7)), (12, (.bool (decide (r7 = (-1)))))] [] 17 [tc 3 [] (P_slices_IndexFunc_api_Leg_v763 hr7) (fl_cons .nil0 (fl_cons (f_fn fl_nil fl_nil) fl_nil))] ?_
    refine go_if h (fun hb8 h => ?_) (fun hb8 h => ?_)
    · rw [hb8]
      refine gx mo [.pc p73_4, .pc p73_36] 42 [(4, .nils)] [] 6 [] ?_
      refine go_inret .nils (by kernel_rfl) (noMark_ofB rfl) rfl ?_
      refine gx mo [.pc p53_3] 8 [(2, .nils)] [] 2 [] ?_
      obtain rfl := Option.some.inj h
      exact gf .nils .nil0
    · cases h
  refine go_cut (X := (List ApiLeg)) (fun x => (K_entry_Net_1 N x).bind some = some r) ([.pc p72_25]) (fun x => (mk 39 [(0, (.osl 0 0 x.length))])) (fun x => [.row 3 (x.map ApiLeg.v)]) ?_ fun kont1_1 => ?_
  · rintro x1_0 h
    rw [K_entry_Net_1] at h
    refine gx mo [.pc p72_24] 39 [(4, (.osl 0 0 x1_0.length))] [.row 3 (x1_0.map ApiLeg.v)] 5 [] ?_
    refine go_inret (.osl 0 0 x1_0.length) (by kernel_rfl) (noMark_ofB rfl) rfl ?_
    refine gx mo [.ops o53_2_1, .pc p53_3] 8 [(6, (.osl 0 0 x1_0.length))] [.row 3 (x1_0.map ApiLeg.v)] 5 [] ?_
    refine go_inl (pc := p73_39) rfl fn73 ?_
    refine go_bind h (fun r7 hr7 h => ?_)
    refine gx mo [.pc p73_7, .pc p73_36] 42 [(0, (.osl 0 0 x1_0.length)), (1, (.fn (.func 74) [] [])), (5, (i64 r7)), (12, (.bool (decide (r7 = (-1)))))] [.row 3 (x1_0.map ApiLeg.v)] 17 [tc 3 [.row 3 (x1_0.map ApiLeg.v)] (P_slices_IndexFunc_api_Leg_v763 hr7) (fl_cons (f_osl (c := 0) rfl (fun _ => rfl) (fun _ => rfl) rfl) (fl_cons (f_fn fl_nil fl_nil) fl_nil))] ?_
    refine go_if h (fun hb8 h => ?_) (fun hb8 h => ?_)
    · rw [hb8]
      refine gx mo [.pc p73_4, .pc p73_36] 42 [(4, (.osl 0 0 x1_0.length))] [.row 3 (x1_0.map ApiLeg.v)] 6 [] ?_
      refine go_inret (.osl 0 0 x1_0.length) (by kernel_rfl) (noMark_ofB rfl) rfl ?_
      refine gx mo [.pc p53_3] 8 [(2, (.osl 0 0 x1_0.length))] [.row 3 (x1_0.map ApiLeg.v)] 2 [] ?_
      obtain rfl := Option.some.inj h
      exact gf (.osl 0 0 x1_0.length) (f_osl (c := 0) rfl (fun _ => rfl) (fun _ => rfl) rfl)
    · cases h
  refine go_loop' (fun m t s => ∃ (v1_0 : List ApiLeg) (v1_1 : Int), (L_entry_Net_1 N a1 m v1_0 v1_1).bind (fun q => (K_entry_Net_1 N q).bind some) = some r ∧ ((v1_0 = [] ∧ t = (mk 39 [(0, .nils), (9, (.sl (a1.map ApiLeg.v))), (10, (i64 (a1.length : Int))), (11, (i64 v1_1))]) ∧ s = []) ∨ (t = (mk 39 [(0, (.osl 0 0 v1_0.length)), (9, (.sl (a1.map ApiLeg.v))), (10, (i64 (a1.length : Int))), (11, (i64 v1_1))]) ∧ s = [.row 3 (v1_0.map ApiLeg.v)]))) N ⟨[], 0, go_assoc h, .inl ⟨rfl, rfl, rfl⟩⟩ ?_
  intro m1 J1 hJ1 t s
  rintro ⟨v1_0, v1_1, h, hsh⟩
  cases m1 with
  | zero => exact absurd h (by simp [L_entry_Net_1])
  | succ m1 =>
    rw [L_entry_Net_1] at h
    rcases hsh with ⟨rfl, rfl, rfl⟩ | ⟨rfl, rfl⟩
    · refine gx mo [.pc p72_5, .pc p72_17, .jp J1, .blk 0, .pc p72_25] 39 [(0, .nils), (9, (.sl (a1.map ApiLeg.v))), (10, (i64 (a1.length : Int))), (11, (i64 v1_1)), (12, (.bool (decide (v1_1 < (a1.length : Int)))))] [] 5 [] ?_
      refine go_if h (fun hb9 h => ?_) (fun hb9 h => ?_)
      · rw [hb9]
        refine go_bind h (fun y10 hy10 h => ?_)
        refine go_bind h (fun r11 hr11 h => ?_)
        refine gx mo [.pc p72_11, .blk 1, .pc p72_16, .jp J1, .blk 0, .pc p72_25] 39 [(0, .nils), (6, (.ref 0 0 0)), (7, (i64 r11.1)), (9, (.sl (a1.map ApiLeg.v))), (10, (i64 (a1.length : Int))), (11, (i64 v1_1)), (21, (.bool r11.2))] [.row 3 [(ApiLeg.v y10)]] 26 [tw 1 (E_ia [] ApiLeg.v .i64 hy10), tc 7 [.row 3 [(ApiLeg.v y10)]] (P_slices_BinarySearchFunc_api_Leg_v28a hr11) (fl_cons .nil0 (fg (fl_cons (f_fn fl_nil fl_nil) fl_nil)))] ?_
        refine go_if h (fun hb12 h => ?_) (fun hb12 h => ?_)
        · cases h
        · rw [hb12]
          refine go_bind h (fun l13 hl13 h => ?_)
          refine gx mo [.jp J1, .blk 0, .pc p72_25] 39 [(0, (.osl 1 0 l13.length)), (9, (.sl (a1.map ApiLeg.v))), (10, (i64 (a1.length : Int))), (11, (i64 (IntKind.wrap .i64 (v1_1 + 1))))] [.row 3 [(ApiLeg.v y10)], .row 3 (l13.map ApiLeg.v)] 14 [tp 5 [.row 3 [(ApiLeg.v y10)]] (ins_nil_ApiLeg (.inl rfl) hl13)] ?_
          refine go_pick [1] [] [(0, 0), (9, 0), (10, 0), (11, 0)] (t' := (mk 39 [(0, (.osl 0 0 l13.length)), (9, (.sl (a1.map ApiLeg.v))), (10, (i64 (a1.length : Int))), (11, (i64 (IntKind.wrap .i64 (v1_1 + 1))))])) (s' := [.row 3 (l13.map ApiLeg.v)]) (by kernel_rfl) ⟨clo_map (fun _ => rfl) _, trivial⟩ rfl ?_
          exact go_back rfl (hJ1 m1 _ _ (Nat.lt_succ_self m1) ⟨l13, IntKind.wrap .i64 (v1_1 + 1), h, .inr (⟨rfl, rfl⟩)⟩)
      · rw [hb9]
        refine gx mo [.pc p72_25] 39 [(0, .nils)] [] 2 [] ?_
        exact kont1_0 [] ⟨rfl, h⟩
    · refine gx mo [.pc p72_5, .pc p72_17, .jp J1, .blk 0, .pc p72_25] 39 [(0, (.osl 0 0 v1_0.length)), (9, (.sl (a1.map ApiLeg.v))), (10, (i64 (a1.length : Int))), (11, (i64 v1_1)), (12, (.bool (decide (v1_1 < (a1.length : Int)))))] [.row 3 (v1_0.map ApiLeg.v)] 5 [] ?_
      refine go_if h (fun hb9 h => ?_) (fun hb9 h => ?_)
      · rw [hb9]
        refine go_bind h (fun y10 hy10 h => ?_)
        refine go_bind h (fun r11 hr11 h => ?_)
        refine gx mo [.pc p72_11, .blk 1, .pc p72_16, .jp J1, .blk 0, .pc p72_25] 39 [(0, (.osl 0 0 v1_0.length)), (6, (.ref 1 0 0)), (7, (i64 r11.1)), (9, (.sl (a1.map ApiLeg.v))), (10, (i64 (a1.length : Int))), (11, (i64 v1_1)), (21, (.bool r11.2))] [.row 3 (v1_0.map ApiLeg.v), .row 3 [(ApiLeg.v y10)]] 26 [tw 1 (E_ia [.row 3 (v1_0.map ApiLeg.v)] ApiLeg.v .i64 hy10), tc 7 [.row 3 (v1_0.map ApiLeg.v), .row 3 [(ApiLeg.v y10)]] (P_slices_BinarySearchFunc_api_Leg_v28a hr11) (fl_cons (f_osl (c := 0) rfl (fun _ => rfl) (fun _ => rfl) rfl) (fg (fl_cons (f_fn fl_nil fl_nil) fl_nil)))] ?_
        refine go_if h (fun hb12 h => ?_) (fun hb12 h => ?_)
        · cases h
        · rw [hb12]
          refine go_bind h (fun l13 hl13 h => ?_)
          refine gx mo [.jp J1, .blk 0, .pc p72_25] 39 [(0, (.osl 2 0 l13.length)), (9, (.sl (a1.map ApiLeg.v))), (10, (i64 (a1.length : Int))), (11, (i64 (IntKind.wrap .i64 (v1_1 + 1))))] [.dead, .row 3 [(ApiLeg.v y10)], .row 3 (l13.map ApiLeg.v)] 14 [tp 5 [.row 3 (v1_0.map ApiLeg.v), .row 3 [(ApiLeg.v y10)]] (ins_ok_ApiLeg (c := 0) rfl hl13)] ?_
          refine go_pick [2] [] [(0, 0), (9, 0), (10, 0), (11, 0)] (t' := (mk 39 [(0, (.osl 0 0 l13.length)), (9, (.sl (a1.map ApiLeg.v))), (10, (i64 (a1.length : Int))), (11, (i64 (IntKind.wrap .i64 (v1_1 + 1))))])) (s' := [.row 3 (l13.map ApiLeg.v)]) (by kernel_rfl) ⟨clo_map (fun _ => rfl) _, trivial⟩ rfl ?_
          exact go_back rfl (hJ1 m1 _ _ (Nat.lt_succ_self m1) ⟨l13, IntKind.wrap .i64 (v1_1 + 1), h, .inr (⟨rfl, rfl⟩)⟩)
      · rw [hb9]
        refine gx mo [.pc p72_25] 39 [(0, (.osl 0 0 v1_0.length))] [.row 3 (v1_0.map ApiLeg.v)] 2 [] ?_
        exact kont1_1 v1_0 h
/-! corebank/blocking.denies -/
def p77_25 : PC := (.seq (.reg (oo 4 (.mv (.c (.bool false))) :: [])) .ret)
def p77_8 : PC := .ret
def p77_21 : PC := (.block 0 (.seq (.reg (oo 7 (.ta 136 (.agg []) true (.t 6)) :: oo 8 (.ext 1 (.t 7)) :: oo 9 (.ext 0 (.t 7)) :: [])) (.cond (.t 8) (.seq (.reg (oo 4 (.mv (.c (.bool true))) :: [])) .ret) (.seq (.reg (oo 10 (.ta 137 (.agg []) true (.t 6)) :: oo 11 (.ext 1 (.t 10)) :: oo 12 (.ext 0 (.t 10)) :: [])) (.cond (.t 11) (.seq (.reg (om 13 1 :: oo 14 (.bin .gtr .other true (.t 13) (.c (.int .i64 0))) :: om 4 14 :: [])) p77_8) (.seq (.reg (oo 15 (.ta 138 (.agg []) true (.t 6)) :: oo 16 (.ext 1 (.t 15)) :: oo 17 (.ext 0 (.t 15)) :: [])) (.cond (.t 16) (.seq (.reg (om 18 1 :: oo 19 (.bin .lss .other true (.t 18) (.c (.int .i64 0))) :: om 4 19 :: [])) .ret) .skip)))))))
def o77_1_1 : List PO := ⟨some 6, .call 69 [.t 5], none⟩ :: []
def p77_27 : PC := (.seq (.reg (oo 2 (.box (.t 0)) :: oo 4 (.mv (.c (.bool false))) :: [])) (.seq (.seq (.reg (oo 5 (.ldA 7 (.t 2)) :: o77_1_1)) p77_21) p77_25))
theorem fn77 : FnOk Tryz.prog 77 p77_27 20 [.t 4] := ⟨false, Tryz.f77, _, Tryz.func77, by decide, rfl, by kernel_rfl, rfl, by kernel_rfl⟩
def F_blocking_denies  (N : Nat) (a1 : ApiBlock) (a2 : Int) : Option (Bool) :=
      bif decide (a1.Kind_ = 1) then
    (none)
    else
    (bif decide (a1.Kind_ = 2) then
    (some (decide (0 < a2)))
    else
    (none))
theorem P_blocking_denies  {N : Nat} {a1 : ApiBlock} {a2 : Int} {r : Bool} (h : F_blocking_denies N a1 a2 = some r) : Pure Tryz.prog (Gl.at 0) 77 [(ApiBlock.v a1), (i64 a2)] (.bool r) := by
  refine pure_run fn77 ?_
  rw [F_blocking_denies] at h
  replace h := bs h
  change GG [.t 4] _ [.pc p77_27] (mk 20 [(0, (ApiBlock.v a1)), (1, (i64 a2))]) []
  refine gx mo [.ops o77_1_1, .pc p77_21, .pc p77_25] 20 [(1, (i64 a2)), (5, (ApiBlock.v a1))] [.row 7 [(ApiBlock.v a1)]] 9 [] ?_
  refine go_inl (pc := p69_33) rfl fn69 ?_
  refine gx mo [.pc p69_25, .blk 0, .pc p69_31] 25 [(1, (.ref 1 0 0)), (4, (i64 a1.Kind_)), (5, (.bool (decide (a1.Kind_ = 1))))] [.row 7 [(ApiBlock.v a1)], .row 7 [(ApiBlock.v a1)]] 17 [] ?_
  refine go_if h (fun hb3 h => ?_) (fun hb3 h => ?_)
  · cases h
  · rw [hb3]
    refine gx mo [.pc p69_23, .blk 0, .pc p69_31] 25 [(1, (.ref 1 0 0)), (4, (i64 a1.Kind_)), (9, (.bool (decide (a1.Kind_ = 2))))] [.row 7 [(ApiBlock.v a1)], .row 7 [(ApiBlock.v a1)]] 6 [] ?_
    refine go_if h (fun hb4 h => ?_) (fun hb4 h => ?_)
    · rw [hb4]
      refine gx mo [.pc p69_8, .blk 0, .pc p69_31] 25 [(2, (.ifc 137 (.agg [])))] [.row 7 [(ApiBlock.v a1)], .row 7 [(ApiBlock.v a1)]] 7 [] ?_
      refine go_inret (.ifc 137 (.agg [])) (by kernel_rfl) (noMark_ofB rfl) rfl ?_
      refine gx mo [.pc p77_8, .blk 0, .pc p77_25] 20 [(4, (.bool (decide (0 < a2))))] [.row 7 [(ApiBlock.v a1)], .row 7 [(ApiBlock.v a1)]] 22 [] ?_
      obtain rfl := Option.some.inj h
      exact gf (.bool (decide (0 < a2))) (.same rfl)
    · cases h
/-! corebank/blocking.Denies$1 -/
def p76_2 : PC := .ret
def p76_4 : PC := (.seq (.reg (oo 2 (.box (.t 0)) :: oo 3 (.mv (.c (.bool false))) :: [])) (.seq (.reg (oo 4 (.ldA 7 (.t 2)) :: oo 5 (.ld1 (.t 1)) :: ⟨some 6, .call 77 [.t 4, .t 5], none⟩ :: om 3 6 :: [])) p76_2))
theorem fn76 : FnOk Tryz.prog 76 p76_4 7 [.t 3] := ⟨false, Tryz.f76, _, Tryz.func76, by decide, rfl, by kernel_rfl, rfl, by kernel_rfl⟩
def F_blocking_Denies_c1_vb45  (N : Nat) (a1 : ApiBlock) (a2 : Int) : Option (Bool) :=
      (F_blocking_denies N a1 a2).bind fun r3 =>
    some r3
theorem P_blocking_Denies_c1_vb45  {N : Nat} {a1 : ApiBlock} {a2 : Int} {r : Bool} (h : F_blocking_Denies_c1_vb45 N a1 a2 = some r) : Pure Tryz.prog (Gl.at 0) 76 [(ApiBlock.v a1), (.imm [(i64 a2)] 0)] (.bool r) := by
  refine pure_run fn76 ?_
  rw [F_blocking_Denies_c1_vb45] at h
  replace h := bs h
  change GG [.t 3] _ [.pc p76_4] (mk 7 [(0, (ApiBlock.v a1)), (1, (.imm [(i64 a2)] 0))]) []
  refine go_bind h (fun r3 hr3 h => ?_)
  refine gx mo [.pc p76_2] 7 [(3, (.bool r3))] [.row 7 [(ApiBlock.v a1)]] 12 [tc 4 [.row 7 [(ApiBlock.v a1)]] (P_blocking_denies hr3) (fg (fs fl_nil))] ?_
  obtain rfl := Option.some.inj h
  exact gf (.bool r3) (.same rfl)
/-! slices.IndexFunc[[]corebank/api.Block,corebank/api.Block] -/
def p90_24 : PC := .ret
def p90_25 : PC := (.seq (.reg (oo 4 (.mv (.c (.int .i64 (-1)))) :: [])) p90_24)
def p90_16 : PC := (.reg (oo 18 (.bin .add .other true (.t 8) (.c (.int .i64 1))) :: om 8 18 :: []))
def p90_9 : PC := .ret
def p90_12 : PC := (.cond (.t 16) (.seq (.reg (om 17 5 :: om 4 17 :: [])) p90_9) .skip)
def p90_17 : PC := (.seq (.block 1 (.seq (.reg (om 10 8 :: om 5 10 :: [])) (.seq (.reg (om 11 1 :: om 12 0 :: om 13 5 :: oo 14 (.ia 7 (.t 12) (.t 13)) :: oo 15 (.ldA 7 (.t 14)) :: ⟨some 16, .dyn (.t 11) [.t 15], none⟩ :: [])) p90_12))) p90_16)
def p90_5 : PC := (.cond (.t 9) .skip (.exit 0))
def p90_20 : PC := (.loop (.seq (.reg (oo 9 (.bin .lss .other false (.t 8) (.t 7)) :: [])) (.seq p90_5 p90_17)))
def p90_27 : PC := (.seq (.reg (oo 4 (.mv (.c (.int .i64 0))) :: [])) (.seq (.seq (.reg (om 6 0 :: oo 7 (.len .slice (.t 6)) :: oo 8 (.mv (.c (.int .i64 0))) :: [])) (.block 0 p90_20)) p90_25))
theorem fn90 : FnOk Tryz.prog 90 p90_27 19 [.t 4] := ⟨false, Tryz.f90, _, Tryz.func90, by decide, rfl, by kernel_rfl, rfl, by kernel_rfl⟩
def L_slices_IndexFunc_api_Block_vf48_1 (N : Nat) (a1 : List ApiBlock) (a2 : Int) : Nat → Int → Option (Br (Int) (Unit))
  | 0, _ => none
  | m1 + 1, v1_0 =>
    bif decide (v1_0 < (a1.length : Int)) then
    ((getI a1 v1_0).bind fun y8 =>
    (F_blocking_Denies_c1_vb45 N y8 a2).bind fun r9 =>
    bif r9 then
    (some (.ret v1_0))
    else
    ((L_slices_IndexFunc_api_Block_vf48_1 N a1 a2 m1) (IntKind.wrap .i64 (v1_0 + 1))))
    else
    (some (.brk ()))
def K_slices_IndexFunc_api_Block_vf48_1 (N : Nat)  : Br (Int) (Unit) → Option (Int)
  | .ret r => some r
  | .brk _ =>
    some (-1)
def F_slices_IndexFunc_api_Block_vf48  (N : Nat) (a1 : List ApiBlock) (a2 : Int) : Option (Int) :=
      (L_slices_IndexFunc_api_Block_vf48_1 N a1 a2 N 0).bind (K_slices_IndexFunc_api_Block_vf48_1 N)
theorem P_slices_IndexFunc_api_Block_vf48  {N : Nat} {a1 : List ApiBlock} {a2 : Int} {r : Int} (h : F_slices_IndexFunc_api_Block_vf48 N a1 a2 = some r) : Pure Tryz.prog (Gl.at 0) 90 [(.sl (a1.map ApiBlock.v)), (.fn (.func 76) [] [(.imm [(i64 a2)] 0)])] (i64 r) := by
  refine pure_run fn90 ?_
  rw [F_slices_IndexFunc_api_Block_vf48] at h
  replace h := bs h
  change GG [.t 4] _ [.pc p90_27] (mk 19 [(0, (.sl (a1.map ApiBlock.v))), (1, (.fn (.func 76) [] [(.imm [(i64 a2)] 0)]))]) []
  refine gx mo [.pc p90_20, .blk 0, .pc p90_25] 19 [(0, (.sl (a1.map ApiBlock.v))), (1, (.fn (.func 76) [] [(.imm [(i64 a2)] 0)])), (7, (i64 (a1.length : Int))), (8, (i64 0))] [] 12 [tw 2 (E_len [] a1 ApiBlock.v)] ?_
  refine go_cut (X := Unit) (fun x => (K_slices_IndexFunc_api_Block_vf48_1 N (.brk x)).bind some = some r) ([.pc p90_25]) (fun x => (mk 19 [])) (fun x => []) ?_ fun kont1_0 => ?_
  · rintro _ h
    rw [K_slices_IndexFunc_api_Block_vf48_1] at h
    refine gx mo [.pc p90_24] 19 [(4, (i64 (-1)))] [] 4 [] ?_
    obtain rfl := Option.some.inj h
    exact gf (i64 (-1)) (.same rfl)
  refine go_loop' (fun m t s => ∃ (v1_0 : Int), (L_slices_IndexFunc_api_Block_vf48_1 N a1 a2 m v1_0).bind (fun q => (K_slices_IndexFunc_api_Block_vf48_1 N q).bind some) = some r ∧ t = (mk 19 [(0, (.sl (a1.map ApiBlock.v))), (1, (.fn (.func 76) [] [(.imm [(i64 a2)] 0)])), (7, (i64 (a1.length : Int))), (8, (i64 v1_0))]) ∧ s = []) N ⟨0, go_assoc h, rfl, rfl⟩ ?_
  intro m1 J1 hJ1 t s
  rintro ⟨v1_0, h, rfl, rfl⟩
  cases m1 with
  | zero => exact absurd h (by simp [L_slices_IndexFunc_api_Block_vf48_1])
  | succ m1 =>
    rw [L_slices_IndexFunc_api_Block_vf48_1] at h
    refine gx mo [.pc p90_5, .pc p90_17, .jp J1, .blk 0, .pc p90_25] 19 [(0, (.sl (a1.map ApiBlock.v))), (1, (.fn (.func 76) [] [(.imm [(i64 a2)] 0)])), (7, (i64 (a1.length : Int))), (8, (i64 v1_0)), (9, (.bool (decide (v1_0 < (a1.length : Int)))))] [] 5 [] ?_
    refine go_if h (fun hb7 h => ?_) (fun hb7 h => ?_)
    · rw [hb7]
      refine go_bind h (fun y8 hy8 h => ?_)
      refine go_bind h (fun r9 hr9 h => ?_)
      refine gx mo [.pc p90_12, .blk 1, .pc p90_16, .jp J1, .blk 0, .pc p90_25] 19 [(0, (.sl (a1.map ApiBlock.v))), (1, (.fn (.func 76) [] [(.imm [(i64 a2)] 0)])), (5, (i64 v1_0)), (7, (i64 (a1.length : Int))), (8, (i64 v1_0)), (16, (.bool r9))] [] 18 [tw 6 (E_ia [] ApiBlock.v .i64 hy8), td 8 [] [] [(.imm [(i64 a2)] 0)] [(ApiBlock.v y8)] (P_blocking_Denies_c1_vb45 hr9) (fg (fs fl_nil))] ?_
      refine go_if h (fun hb10 h => ?_) (fun hb10 h => ?_)
      · rw [hb10]
        refine gx mo [.pc p90_9, .blk 1, .pc p90_16, .jp J1, .blk 0, .pc p90_25] 19 [(4, (i64 v1_0))] [] 6 [] ?_
        obtain rfl := Option.some.inj h
        exact gf (i64 v1_0) (.same rfl)
      · rw [hb10]
        refine gx mo [.jp J1, .blk 0, .pc p90_25] 19 [(0, (.sl (a1.map ApiBlock.v))), (1, (.fn (.func 76) [] [(.imm [(i64 a2)] 0)])), (7, (i64 (a1.length : Int))), (8, (i64 (IntKind.wrap .i64 (v1_0 + 1))))] [] 7 [] ?_
        exact go_back rfl (hJ1 m1 _ _ (Nat.lt_succ_self m1) ⟨IntKind.wrap .i64 (v1_0 + 1), h, rfl, rfl⟩)
    · rw [hb7]
      refine gx mo [.pc p90_25] 19 [] [] 2 [] ?_
      exact kont1_0 () h
end
end Go.TL
