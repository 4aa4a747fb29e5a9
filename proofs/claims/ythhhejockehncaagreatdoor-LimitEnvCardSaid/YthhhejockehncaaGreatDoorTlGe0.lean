/- The program's functions as Lean's own, with proofs. -/
import Derived.Test.YthhhejockehncaaGreatDoorTlIn2
set_option maxRecDepth 20000
set_option linter.all false
set_option linter.unusedVariables false
namespace Go.TL
open Go Go.Proofs
noncomputable section
open Go.RowKit Go.Lib
/-! corebank/blocking.cover -/
def p69_31 : PC := (.seq (.reg (oo 23 (.build [] []) :: oo 24 (.ifc 139 (.t 23)) :: om 2 24 :: [])) .ret)
def p69_8 : PC := .ret
def p69_23 : PC := (.cond (.t 9) (.seq (.reg (oo 11 (.build [] []) :: oo 12 (.ifc 137 (.t 11)) :: om 2 12 :: [])) p69_8) (.seq (.reg (oo 14 (.bin .eql .other true (.t 4) (.c (.int .i64 3))) :: om 13 14 :: [])) (.cond (.t 13) (.seq (.reg (oo 15 (.build [] []) :: oo 16 (.ifc 138 (.t 15)) :: om 2 16 :: [])) .ret) (.seq (.reg (oo 18 (.bin .eql .other true (.t 4) (.c (.int .i64 4))) :: om 17 18 :: [])) (.cond (.t 17) (.seq (.reg (oo 19 (.fa 3 (.t 1)) :: oo 20 (.ld1 (.t 19)) :: oo 21 (.build [.int .i64 0] [(0, 1, .t 20)]) :: oo 22 (.ifc 121 (.t 21)) :: om 2 22 :: [])) .ret) .skip)))))
def p69_25 : PC := (.cond (.t 5) (.seq (.reg (oo 7 (.build [] []) :: oo 8 (.ifc 136 (.t 7)) :: om 2 8 :: [])) .ret) (.seq (.reg (oo 10 (.bin .eql .other true (.t 4) (.c (.int .i64 2))) :: om 9 10 :: [])) p69_23))
def p69_33 : PC := (.seq (.reg (oo 1 (.box (.t 0)) :: oo 2 (.mv (.c .nili)) :: [])) (.seq (.seq (.reg (oo 3 (.fa 2 (.t 1)) :: oo 4 (.ld1 (.t 3)) :: [])) (.block 0 (.seq (.reg (oo 6 (.bin .eql .other true (.t 4) (.c (.int .i64 1))) :: om 5 6 :: [])) p69_25))) p69_31))
theorem fn69 : FnOk Tryz.prog 69 p69_33 25 [.t 2] := ⟨false, Tryz.f69, _, Tryz.func69, by decide, rfl, by kernel_rfl, rfl, by kernel_rfl⟩
/-! corebank/entry.collect -/
def p72_24 : PC := .ret
def p72_25 : PC := (.seq (.reg (om 38 0 :: om 4 38 :: [])) p72_24)
def p72_16 : PC := (.reg (oo 37 (.bin .add .other true (.t 11) (.c (.int .i64 1))) :: om 11 37 :: []))
def p72_11 : PC := (.cond (.t 21) (.drawn (om 22 0 :: om 23 7 :: oo 24 (.ia 3 (.t 22) (.t 23)) :: oo 25 (.fa 1 (.t 24)) :: oo 26 (.ld1 (.t 25)) :: oo 27 (.fa 1 (.t 6)) :: oo 28 (.ld1 (.t 27)) :: oo 29 (.bin .add .other false (.t 26) (.t 28)) :: oo 30 (.ia 3 (.t 22) (.t 23)) :: oo 31 (.fa 1 (.t 30)) :: on_ (.st 1 (.t 31) (.t 29)) :: []) [[], [], [0, 1], [2], [3], [], [5], [4, 6], [0, 1, 0, 1, 2, 3, 4, 5, 6, 7], [8, 0, 1, 2, 3, 4, 5, 6, 7], [9, 7, 0, 1, 2, 3, 4, 5, 6, 7]]) (.reg (om 32 0 :: om 33 7 :: oo 34 (.ldA 3 (.t 6)) :: oo 35 (.lit (.agg [.int .i64 0, .int .i64 0, .str []]) 1 [(0, .t 34)]) :: ⟨some 36, .call 89 [.t 32, .t 33, .t 35], none⟩ :: om 0 36 :: [])))
def p72_17 : PC := (.seq (.block 1 (.seq (.reg (oo 13 (.ia 3 (.t 9) (.t 11)) :: oo 14 (.ldA 3 (.t 13)) :: oo 6 (.new (.agg [.int .i64 0, .int .i64 0, .str []])) :: on_ (.st 3 (.t 6) (.t 14)) :: [])) (.seq (.reg (om 16 0 :: oo 17 (.ldA 3 (.t 6)) :: ⟨some 18, .call 87 [.t 16, .t 17, .c (.fn (.func 88) [] [])], none⟩ :: om 15 18 :: oo 19 (.ext 0 (.t 15)) :: oo 20 (.ext 1 (.t 15)) :: om 7 19 :: om 8 20 :: [])) (.seq (.reg (om 21 8 :: [])) p72_11)))) p72_16)
def p72_5 : PC := (.cond (.t 12) .skip (.exit 0))
def p72_20 : PC := (.loop (.seq (.reg (oo 12 (.bin .lss .other false (.t 11) (.t 10)) :: [])) (.seq p72_5 p72_17)))
def p72_27 : PC := (.seq (.reg (oo 4 (.mv (.c .nils)) :: [])) (.seq (.seq (.reg (om 9 1 :: oo 10 (.len .slice (.t 9)) :: oo 11 (.mv (.c (.int .i64 0))) :: [])) (.block 0 p72_20)) p72_25))
theorem fn72 : FnOk Tryz.prog 72 p72_27 39 [.t 4] := ⟨false, Tryz.f72, _, Tryz.func72, by decide, rfl, by kernel_rfl, rfl, by kernel_rfl⟩
/-! slices.DeleteFunc[[]corebank/api.Leg,corebank/api.Leg] -/
def p73_36 : PC := (.seq (.seq (.reg (om 14 5 :: oo 15 (.bin .add .other true (.t 14) (.c (.int .i64 1))) :: om 6 15 :: [])) (.block 0 (.loop (.seq (.seq (.reg (om 16 6 :: om 17 0 :: oo 18 (.len .slice (.t 17)) :: oo 19 (.bin .lss .other false (.t 16) (.t 18)) :: [])) (.cond (.t 19) .skip (.exit 0))) (.seq (.block 1 (.seq (.reg (om 22 0 :: om 23 6 :: oo 24 (.ia 3 (.t 22) (.t 23)) :: oo 25 (.ldA 3 (.t 24)) :: oo 7 (.new (.agg [.int .i64 0, .int .i64 0, .str []])) :: on_ (.st 3 (.t 7) (.t 25)) :: [])) (.seq (.reg (om 26 1 :: oo 27 (.ldA 3 (.t 7)) :: ⟨some 28, .dyn (.t 26) [.t 27], none⟩ :: oo 29 (.un .not (.t 28)) :: [])) (.cond (.t 29) (.seq (.reg (om 30 0 :: om 31 5 :: oo 32 (.ldA 3 (.t 7)) :: oo 33 (.ia 3 (.t 30) (.t 31)) :: on_ (.st 3 (.t 33) (.t 32)) :: [])) (.reg (om 34 5 :: oo 35 (.bin .add .other true (.t 34) (.c (.int .i64 1))) :: om 5 35 :: []))) .skip)))) (.reg (om 20 6 :: oo 21 (.bin .add .other true (.t 20) (.c (.int .i64 1))) :: om 6 21 :: []))))))) (.seq (.reg (om 36 0 :: om 37 5 :: oo 38 (.slc (.slice 3) (.t 36) (some (.t 37)) none) :: ⟨none, .bad, none⟩ :: [])) (.seq (.reg (om 39 0 :: om 40 5 :: oo 41 (.slc (.slice 3) (.t 39) none (some (.t 40))) :: om 4 41 :: [])) .ret)))
def p73_4 : PC := .ret
def p73_7 : PC := (.cond (.t 12) (.seq (.reg (om 13 0 :: om 4 13 :: [])) p73_4) .skip)
def p73_39 : PC := (.seq (.reg (oo 4 (.mv (.c .nils)) :: [])) (.seq (.reg (om 8 0 :: om 9 1 :: ⟨some 10, .call 84 [.t 8, .t 9], none⟩ :: om 5 10 :: [])) (.seq (.seq (.reg (om 11 5 :: oo 12 (.bin .eql .other true (.t 11) (.c (.int .i64 (-1)))) :: [])) p73_7) p73_36)))
theorem fn73 : FnOk Tryz.prog 73 p73_39 42 [.t 4] := ⟨false, Tryz.f73, _, Tryz.func73, by decide, rfl, by kernel_rfl, rfl, by kernel_rfl⟩
/-! corebank/limit.windowOf -/
def p93_18 : PC := .ret
def p93_19 : PC := (.seq (.reg (oo 11 (.build [.nilf] []) :: on_ (.st 1 (.t 2) (.t 11)) :: oo 3 (.mv (.c (.bool false))) :: [])) p93_18)
def p93_11 : PC := (.cond (.t 8) (.seq (.reg (oo 10 (.build [.nilf] [(0, 1, .c (.fn (.func 25) [] []))]) :: on_ (.st 1 (.t 2) (.t 10)) :: oo 3 (.mv (.c (.bool true))) :: [])) .ret) .skip)
def p93_13 : PC := (.cond (.t 5) (.seq (.reg (oo 7 (.build [.nilf] [(0, 1, .c (.fn (.func 105) [] []))]) :: on_ (.st 1 (.t 2) (.t 7)) :: oo 3 (.mv (.c (.bool true))) :: [])) .ret) (.seq (.reg (oo 9 (.bin .eql .other true (.t 4) (.c (.int .i64 3))) :: om 8 9 :: [])) p93_11))
def p93_21 : PC := (.seq (.reg (oo 2 (.new (.agg [.nilf])) :: oo 3 (.mv (.c (.bool false))) :: [])) (.seq (.seq (.reg (om 4 0 :: [])) (.block 0 (.seq (.reg (oo 6 (.bin .eql .other true (.t 4) (.c (.int .i64 2))) :: om 5 6 :: [])) p93_13))) p93_19))
theorem fn93 : FnOk Tryz.prog 93 p93_21 12 [.a 2 1, .t 3] := ⟨false, Tryz.f93, _, Tryz.func93, by decide, rfl, by kernel_rfl, rfl, by kernel_rfl⟩
/-! corebank/corebankref22.Great -/
def p16_29 : PC := .ret
def p16_30 : PC := (.seq (.reg (oo 2 (.mv (.c (.bool false))) :: [])) p16_29)
def p16_22 : PC := (.reg (om 11 3 :: oo 12 (.bin .add .other true (.t 11) (.c (.int .i64 1))) :: om 3 12 :: []))
def p16_16 : PC := .ret
def p16_19 : PC := (.cond (.t 19) (.seq (.reg (oo 2 (.mv (.c (.bool true))) :: [])) p16_16) .skip)
def p16_23 : PC := (.seq (.block 1 (.seq (.reg (om 13 0 :: om 14 3 :: oo 15 (.ia 6 (.t 13) (.t 14)) :: oo 16 (.fa 5 (.t 15)) :: oo 17 (.ld1 (.t 16)) :: oo 18 (.len .str (.t 17)) :: oo 19 (.bin .gtr .other true (.t 18) (.c (.int .i64 200))) :: [])) p16_19)) p16_22)
def p16_12 : PC := (.cond (.t 10) .skip (.exit 0))
def p16_25 : PC := (.loop (.seq (.seq (.reg (om 7 3 :: om 8 0 :: oo 9 (.len .slice (.t 8)) :: oo 10 (.bin .lss .other false (.t 7) (.t 9)) :: [])) p16_12) p16_23))
def p16_31 : PC := (.seq (.seq (.reg (oo 3 (.mv (.c (.int .i64 0))) :: [])) (.block 0 p16_25)) p16_30)
def p16_3 : PC := .ret
def p16_6 : PC := (.cond (.t 6) (.seq (.reg (oo 2 (.mv (.c (.bool true))) :: [])) p16_3) .skip)
def p16_33 : PC := (.seq (.reg (oo 2 (.mv (.c (.bool false))) :: [])) (.seq (.seq (.reg (om 4 0 :: oo 5 (.len .slice (.t 4)) :: oo 6 (.bin .gtr .other true (.t 5) (.c (.int .i64 100))) :: [])) p16_6) p16_31))
theorem fn16 : FnOk Tryz.prog 16 p16_33 20 [.t 2] := ⟨false, Tryz.f16, _, Tryz.func16, by decide, rfl, by kernel_rfl, rfl, by kernel_rfl⟩
def L_r22_Great_1 (N : Nat) (a1 : List ApiHold) : Nat → Int → Option (Br (Bool) (Unit))
  | 0, _ => none
  | m1 + 1, v1_0 =>
    bif decide (v1_0 < (a1.length : Int)) then
    ((getI a1 v1_0).bind fun y7 =>
    bif decide (200 < (y7.Key_.length : Int)) then
    (some (.ret true))
    else
    ((L_r22_Great_1 N a1 m1) (IntKind.wrap .i64 (v1_0 + 1))))
    else
    (some (.brk ()))
def K_r22_Great_1 (N : Nat)  : Br (Bool) (Unit) → Option (Bool)
  | .ret r => some r
  | .brk _ =>
    some false
def F_r22_Great  (N : Nat) (a1 : List ApiHold) : Option (Bool) :=
      bif decide (100 < (a1.length : Int)) then
    (some true)
    else
    ((L_r22_Great_1 N a1 N 0).bind (K_r22_Great_1 N))
theorem P_r22_Great  {N : Nat} {a1 : List ApiHold} {r : Bool} (h : F_r22_Great N a1 = some r) : Pure Tryz.prog (Gl.at 0) 16 [(.sl (a1.map ApiHold.v))] (.bool r) := by
  refine pure_run fn16 ?_
  rw [F_r22_Great] at h
  replace h := bs h
  change GG [.t 2] _ [.pc p16_33] (mk 20 [(0, (.sl (a1.map ApiHold.v)))]) []
  refine gx mo [.pc p16_6, .pc p16_31] 20 [(0, (.sl (a1.map ApiHold.v))), (6, (.bool (decide (100 < (a1.length : Int)))))] [] 11 [tw 2 (E_len [] a1 ApiHold.v)] ?_
  refine go_if h (fun hb2 h => ?_) (fun hb2 h => ?_)
  · rw [hb2]
    refine gx mo [.pc p16_3, .pc p16_31] 20 [(2, (.bool true))] [] 5 [] ?_
    obtain rfl := Option.some.inj h
    exact gf (.bool true) (.same rfl)
  · rw [hb2]
    refine gx mo [.pc p16_25, .blk 0, .pc p16_30] 20 [(0, (.sl (a1.map ApiHold.v))), (3, (i64 0))] [] 8 [] ?_
    refine go_cut (X := Unit) (fun x => (K_r22_Great_1 N (.brk x)).bind some = some r) ([.pc p16_30]) (fun x => (mk 20 [])) (fun x => []) ?_ fun kont1_0 => ?_
    · rintro _ h
      rw [K_r22_Great_1] at h
      refine gx mo [.pc p16_29] 20 [(2, (.bool false))] [] 4 [] ?_
      obtain rfl := Option.some.inj h
      exact gf (.bool false) (.same rfl)
    refine go_loop' (fun m t s => ∃ (v1_0 : Int), (L_r22_Great_1 N a1 m v1_0).bind (fun q => (K_r22_Great_1 N q).bind some) = some r ∧ t = (mk 20 [(0, (.sl (a1.map ApiHold.v))), (3, (i64 v1_0))]) ∧ s = []) N ⟨0, go_assoc h, rfl, rfl⟩ ?_
    intro m1 J1 hJ1 t s
    rintro ⟨v1_0, h, rfl, rfl⟩
    cases m1 with
    | zero => exact absurd h (by simp [L_r22_Great_1])
    | succ m1 =>
      rw [L_r22_Great_1] at h
      refine gx mo [.pc p16_12, .pc p16_23, .jp J1, .blk 0, .pc p16_30] 20 [(0, (.sl (a1.map ApiHold.v))), (3, (i64 v1_0)), (10, (.bool (decide (v1_0 < (a1.length : Int)))))] [] 8 [tw 2 (E_len [] a1 ApiHold.v)] ?_
      refine go_if h (fun hb6 h => ?_) (fun hb6 h => ?_)
      · rw [hb6]
        refine go_bind h (fun y7 hy7 h => ?_)
        refine gx mo [.pc p16_19, .blk 1, .pc p16_22, .jp J1, .blk 0, .pc p16_30] 20 [(0, (.sl (a1.map ApiHold.v))), (3, (i64 v1_0)), (19, (.bool (decide (200 < (y7.Key_.length : Int)))))] [] 14 [tw 3 (E_ia [] ApiHold.v .i64 hy7)] ?_
        refine go_if h (fun hb8 h => ?_) (fun hb8 h => ?_)
        · rw [hb8]
          refine gx mo [.pc p16_16, .blk 1, .pc p16_22, .jp J1, .blk 0, .pc p16_30] 20 [(2, (.bool true))] [] 5 [] ?_
          obtain rfl := Option.some.inj h
          exact gf (.bool true) (.same rfl)
        · rw [hb8]
          refine gx mo [.jp J1, .blk 0, .pc p16_30] 20 [(0, (.sl (a1.map ApiHold.v))), (3, (i64 (IntKind.wrap .i64 (v1_0 + 1))))] [] 8 [] ?_
          exact go_back rfl (hJ1 m1 _ _ (Nat.lt_succ_self m1) ⟨IntKind.wrap .i64 (v1_0 + 1), h, rfl, rfl⟩)
      · rw [hb6]
        refine gx mo [.pc p16_30] 20 [] [] 2 [] ?_
        exact kont1_0 () h
/-! corebank/corebankref10.count -/
def p71_17 : PC := .ret
def p71_18 : PC := (.seq (.reg (om 30 5 :: om 4 30 :: [])) p71_17)
def p71_11 : PC := (.seq (.block 1 (.reg (om 19 5 :: oo 20 (.fa 3 (.t 2)) :: oo 21 (.ld1 (.t 20)) :: om 22 6 :: oo 23 (.ia 4 (.t 21) (.t 22)) :: oo 24 (.ldA 4 (.t 23)) :: om 25 1 :: om 26 5 :: oo 27 (.bin .sub .other false (.t 25) (.t 26)) :: ⟨some 28, .call 71 [.t 24, .t 27], none⟩ :: oo 29 (.bin .add .other false (.t 19) (.t 28)) :: om 5 29 :: []))) (.reg (om 17 6 :: oo 18 (.bin .add .other true (.t 17) (.c (.int .i64 1))) :: om 6 18 :: [])))
def p71_6 : PC := (.cond (.t 16) .skip (.exit 0))
def p71_13 : PC := (.loop (.seq (.seq (.reg (om 7 6 :: oo 8 (.fa 3 (.t 2)) :: oo 9 (.ld1 (.t 8)) :: oo 10 (.len .slice (.t 9)) :: oo 11 (.bin .lss .other false (.t 7) (.t 10)) :: om 12 11 :: ⟨some 13, .op (.mv (.t 5)), some (12, true)⟩ :: ⟨some 14, .op (.mv (.t 1)), some (12, true)⟩ :: ⟨some 15, .op (.bin .leq .other false (.t 13) (.t 14)), some (12, true)⟩ :: oo 16 (.pick (.t 12) (.t 15) (.c (.bool false))) :: [])) p71_6) p71_11))
def p71_21 : PC := (.seq (.reg (oo 2 (.box (.t 0)) :: oo 4 (.mv (.c (.int .i64 0))) :: [])) (.seq (.reg (oo 5 (.mv (.c (.int .i64 1))) :: [])) (.seq (.seq (.reg (oo 6 (.mv (.c (.int .i64 0))) :: [])) (.block 0 p71_13)) p71_18)))
theorem fn71 : FnOk Tryz.prog 71 p71_21 31 [.t 4] := ⟨false, Tryz.f71, _, Tryz.func71, by decide, rfl, by kernel_rfl, rfl, by kernel_rfl⟩
def L_r10_count_1 (N : Nat) (a1 : ApiExpr) (a2 : Int) (fr_r10_count : ApiExpr → Int → Option (Int)) : Nat → Int → Int → Option (Int)
  | 0, _, _ => none
  | m1 + 1, v1_0, v1_1 =>
    bif decide (v1_1 < (a1.Args_.length : Int)) then
    (bif decide (v1_0 ≤ a2) then
    ((getI a1.Args_ v1_1).bind fun y9 =>
    (fr_r10_count y9 (IntKind.wrap .i64 (a2 - v1_0))).bind fun r10 =>
    (L_r10_count_1 N a1 a2 fr_r10_count m1) (IntKind.wrap .i64 (v1_0 + r10)) (IntKind.wrap .i64 (v1_1 + 1)))
    else
    (some v1_0))
    else
    (some v1_0)
def K_r10_count_1 (N : Nat)  : (Int) → Option (Int)
  | x1_0 =>
    some x1_0
def F_r10_count  : Nat → ApiExpr → Int → Option (Int)
  | 0, _, _ => none
  | N + 1, a1, a2 =>
      (L_r10_count_1 N a1 a2 (F_r10_count N) N 1 0).bind (K_r10_count_1 N)
theorem P_r10_count  {N : Nat} {a1 : ApiExpr} {a2 : Int} {r : Int} (h : F_r10_count N a1 a2 = some r) : Pure Tryz.prog (Gl.at 0) 71 [(ApiExpr.v a1), (i64 a2)] (i64 r) := by
  induction N generalizing a1 a2 r with
  | zero => simp [F_r10_count] at h
  | succ N ih =>
    refine pure_run fn71 ?_
    rw [F_r10_count] at h
    replace h := bs h
    change GG [.t 4] _ [.pc p71_21] (mk 31 [(0, (ApiExpr.v a1)), (1, (i64 a2))]) []
    refine gx mo [.pc p71_13, .blk 0, .pc p71_18] 31 [(1, (i64 a2)), (2, (.ref 0 0 0)), (5, (i64 1)), (6, (i64 0))] [.row 4 [(ApiExpr.v a1)]] 15 [] ?_
    refine go_cut (X := Int) (fun x => (K_r10_count_1 N x).bind some = some r) ([.pc p71_18]) (fun x => (mk 31 [(5, (i64 x))])) (fun x => []) ?_ fun kont1_0 => ?_
    · rintro x1_0 h
      rw [K_r10_count_1] at h
      refine gx mo [.pc p71_17] 31 [(4, (i64 x1_0))] [] 5 [] ?_
      obtain rfl := Option.some.inj h
      exact gf (i64 x1_0) (.same rfl)
    refine go_loop' (fun m t s => ∃ (v1_0 : Int) (v1_1 : Int), (L_r10_count_1 N a1 a2 (F_r10_count N) m v1_0 v1_1).bind (fun q => (K_r10_count_1 N q).bind some) = some r ∧ t = (mk 31 [(1, (i64 a2)), (2, (.ref 0 0 0)), (5, (i64 v1_0)), (6, (i64 v1_1))]) ∧ s = [.row 4 [(ApiExpr.v a1)]]) N ⟨1, 0, go_assoc h, rfl, rfl⟩ ?_
    intro m1 J1 hJ1 t s
    rintro ⟨v1_0, v1_1, h, rfl, rfl⟩
    cases m1 with
    | zero => exact absurd h (by simp [L_r10_count_1])
    | succ m1 =>
      rw [L_r10_count_1] at h
      refine go_if h (fun hb7 h => ?_) (fun hb7 h => ?_)
      · refine gx mo [.pc p71_6, .pc p71_11, .jp J1, .blk 0, .pc p71_18] 31 [(1, (i64 a2)), (2, (.ref 0 0 0)), (5, (i64 v1_0)), (6, (i64 v1_1)), (16, (.bool (decide (v1_0 ≤ a2))))] [.row 4 [(ApiExpr.v a1)]] 14 [tw 3 (E_lenv [.row 4 [(ApiExpr.v a1)]] (ApiExpr.va_map a1)), twb 4 [.row 4 [(ApiExpr.v a1)]] (.bin .lss .other false (.c (i64 v1_1)) (.c (i64 (a1.Args_.length : Int)))) (decide (v1_1 < (a1.Args_.length : Int))) true hb7] ?_
        refine go_if h (fun hb8 h => ?_) (fun hb8 h => ?_)
        · rw [hb8]
          refine go_bind h (fun y9 hy9 h => ?_)
          refine go_bind h (fun r10 hr10 h => ?_)
          refine gx mo [.jp J1, .blk 0, .pc p71_18] 31 [(1, (i64 a2)), (2, (.ref 0 0 0)), (5, (i64 (IntKind.wrap .i64 (v1_0 + r10)))), (6, (i64 (IntKind.wrap .i64 (v1_1 + 1))))] [.row 4 [(ApiExpr.v a1)]] 24 [tw 5 (E_iav [.row 4 [(ApiExpr.v a1)]] .i64 (ApiExpr.va_map a1) hy9), tc 10 [.row 4 [(ApiExpr.v a1)]] (ih hr10) (fg (fs fl_nil))] ?_
          exact go_back rfl (hJ1 m1 _ _ (Nat.lt_succ_self m1) ⟨IntKind.wrap .i64 (v1_0 + r10), IntKind.wrap .i64 (v1_1 + 1), h, rfl, rfl⟩)
        · rw [hb8]
          refine gx mo [.pc p71_18] 31 [(5, (i64 v1_0))] [.row 4 [(ApiExpr.v a1)]] 2 [] ?_
          refine go_pick [] [] [(5, 0)] (t' := (mk 31 [(5, (i64 v1_0))])) (s' := []) (by kernel_rfl) trivial rfl ?_
          exact kont1_0 v1_0 h
      · refine gx mo [.pc p71_18] 31 [(5, (i64 v1_0))] [.row 4 [(ApiExpr.v a1)]] 16 [tw 3 (E_lenv [.row 4 [(ApiExpr.v a1)]] (ApiExpr.va_map a1)), twb 4 [.row 4 [(ApiExpr.v a1)]] (.bin .lss .other false (.c (i64 v1_1)) (.c (i64 (a1.Args_.length : Int)))) (decide (v1_1 < (a1.Args_.length : Int))) false hb7] ?_
        refine go_pick [] [] [(5, 0)] (t' := (mk 31 [(5, (i64 v1_0))])) (s' := []) (by kernel_rfl) trivial rfl ?_
        exact kont1_0 v1_0 h
/-! corebank/corebankref10.Great -/
def p52_2 : PC := .ret
def p52_4 : PC := (.seq (.reg (oo 2 (.box (.t 0)) :: oo 4 (.mv (.c (.bool false))) :: [])) (.seq (.reg (oo 5 (.ldA 4 (.t 2)) :: om 6 1 :: ⟨some 7, .call 71 [.t 5, .t 6], none⟩ :: om 8 1 :: oo 9 (.bin .gtr .other false (.t 7) (.t 8)) :: om 4 9 :: [])) p52_2))
theorem fn52 : FnOk Tryz.prog 52 p52_4 10 [.t 4] := ⟨false, Tryz.f52, _, Tryz.func52, by decide, rfl, by kernel_rfl, rfl, by kernel_rfl⟩
def F_r10_Great  (N : Nat) (a1 : ApiExpr) (a2 : Int) : Option (Bool) :=
      (F_r10_count N a1 a2).bind fun r3 =>
    some (decide (a2 < r3))
theorem P_r10_Great  {N : Nat} {a1 : ApiExpr} {a2 : Int} {r : Bool} (h : F_r10_Great N a1 a2 = some r) : Pure Tryz.prog (Gl.at 0) 52 [(ApiExpr.v a1), (i64 a2)] (.bool r) := by
  refine pure_run fn52 ?_
  rw [F_r10_Great] at h
  replace h := bs h
  change GG [.t 4] _ [.pc p52_4] (mk 10 [(0, (ApiExpr.v a1)), (1, (i64 a2))]) []
  refine go_bind h (fun r3 hr3 h => ?_)
  refine gx mo [.pc p52_2] 10 [(4, (.bool (decide (a2 < r3))))] [.row 4 [(ApiExpr.v a1)]] 14 [tc 4 [.row 4 [(ApiExpr.v a1)]] (P_r10_count hr3) (fg (fs fl_nil))] ?_
  obtain rfl := Option.some.inj h
  exact gf (.bool (decide (a2 < r3))) (.same rfl)
/-! corebank/corebankref16.Great -/
def p17_49 : PC := .ret
def p17_50 : PC := (.seq (.reg (oo 2 (.mv (.c (.bool false))) :: [])) p17_49)
def p17_42 : PC := (.reg (om 85 4 :: oo 86 (.bin .add .other true (.t 85) (.c (.int .i64 1))) :: om 4 86 :: []))
def p17_36 : PC := .ret
def p17_39 : PC := (.cond (.t 103) (.seq (.reg (oo 2 (.mv (.c (.bool true))) :: [])) p17_36) .skip)
def p17_43 : PC := (.seq (.block 3 (.seq (.reg (oo 87 (.fa 18 (.t 1)) :: oo 88 (.ld1 (.t 87)) :: om 89 4 :: oo 90 (.ia 6 (.t 88) (.t 89)) :: oo 91 (.fa 0 (.t 90)) :: oo 92 (.ld1 (.t 91)) :: oo 93 (.len .str (.t 92)) :: oo 94 (.bin .gtr .other true (.t 93) (.c (.int .i64 100))) :: om 95 94 :: ⟨some 96, .op (.fa 18 (.t 1)), some (95, false)⟩ :: ⟨some 97, .op (.ld1 (.t 96)), some (95, false)⟩ :: ⟨some 98, .op (.mv (.t 4)), some (95, false)⟩ :: ⟨some 99, .op (.ia 6 (.t 97) (.t 98)), some (95, false)⟩ :: ⟨some 100, .op (.fa 2 (.t 99)), some (95, false)⟩ :: ⟨some 101, .op (.ldA 4 (.t 100)), some (95, false)⟩ :: ⟨some 102, .call 52 [.t 101, .c (.int .i64 100)], some (95, false)⟩ :: oo 103 (.pick (.t 95) (.c (.bool true)) (.t 102)) :: [])) p17_39)) p17_42)
def p17_32 : PC := (.cond (.t 84) .skip (.exit 2))
def p17_45 : PC := (.loop (.seq (.seq (.reg (om 80 4 :: oo 81 (.fa 18 (.t 1)) :: oo 82 (.ld1 (.t 81)) :: oo 83 (.len .slice (.t 82)) :: oo 84 (.bin .lss .other false (.t 80) (.t 83)) :: [])) p17_32) p17_43))
def p17_51 : PC := (.seq (.seq (.reg (oo 4 (.mv (.c (.int .i64 0))) :: [])) (.block 2 p17_45)) p17_50)
def p17_22 : PC := (.reg (om 52 3 :: oo 53 (.bin .add .other true (.t 52) (.c (.int .i64 1))) :: om 3 53 :: []))
def p17_16 : PC := .ret
def p17_19 : PC := (.cond (.t 79) (.seq (.reg (oo 2 (.mv (.c (.bool true))) :: [])) p17_16) .skip)
def p17_23 : PC := (.seq (.block 1 (.seq (.reg (oo 54 (.fa 17 (.t 1)) :: oo 55 (.ld1 (.t 54)) :: om 56 3 :: oo 57 (.ia 10 (.t 55) (.t 56)) :: oo 58 (.fa 0 (.t 57)) :: oo 59 (.ld1 (.t 58)) :: oo 60 (.len .str (.t 59)) :: oo 61 (.bin .gtr .other true (.t 60) (.c (.int .i64 100))) :: om 62 61 :: ⟨some 63, .op (.fa 17 (.t 1)), some (62, false)⟩ :: ⟨some 64, .op (.ld1 (.t 63)), some (62, false)⟩ :: ⟨some 65, .op (.mv (.t 3)), some (62, false)⟩ :: ⟨some 66, .op (.ia 10 (.t 64) (.t 65)), some (62, false)⟩ :: ⟨some 67, .op (.fa 2 (.t 66)), some (62, false)⟩ :: ⟨some 68, .op (.ldA 4 (.t 67)), some (62, false)⟩ :: ⟨some 69, .call 52 [.t 68, .c (.int .i64 100)], some (62, false)⟩ :: oo 70 (.pick (.t 62) (.c (.bool true)) (.t 69)) :: om 71 70 :: ⟨some 72, .op (.fa 17 (.t 1)), some (71, false)⟩ :: ⟨some 73, .op (.ld1 (.t 72)), some (71, false)⟩ :: ⟨some 74, .op (.mv (.t 3)), some (71, false)⟩ :: ⟨some 75, .op (.ia 10 (.t 73) (.t 74)), some (71, false)⟩ :: ⟨some 76, .op (.fa 6 (.t 75)), some (71, false)⟩ :: ⟨some 77, .op (.ldA 4 (.t 76)), some (71, false)⟩ :: ⟨some 78, .call 52 [.t 77, .c (.int .i64 100)], some (71, false)⟩ :: oo 79 (.pick (.t 71) (.c (.bool true)) (.t 78)) :: [])) p17_19)) p17_22)
def p17_12 : PC := (.cond (.t 51) .skip (.exit 0))
def p17_25 : PC := (.loop (.seq (.seq (.reg (om 47 3 :: oo 48 (.fa 17 (.t 1)) :: oo 49 (.ld1 (.t 48)) :: oo 50 (.len .slice (.t 49)) :: oo 51 (.bin .lss .other false (.t 47) (.t 50)) :: [])) p17_12) p17_23))
def p17_52 : PC := (.seq (.seq (.reg (oo 3 (.mv (.c (.int .i64 0))) :: [])) (.block 0 p17_25)) p17_51)
def p17_3 : PC := .ret
def p17_6 : PC := (.cond (.t 46) (.seq (.reg (oo 2 (.mv (.c (.bool true))) :: [])) p17_3) .skip)
def p17_54 : PC := (.seq (.reg (oo 1 (.box (.t 0)) :: oo 2 (.mv (.c (.bool false))) :: [])) (.seq (.seq (.reg (oo 5 (.fa 0 (.t 1)) :: oo 6 (.ld1 (.t 5)) :: oo 7 (.len .str (.t 6)) :: oo 8 (.bin .gtr .other true (.t 7) (.c (.int .i64 100))) :: om 9 8 :: ⟨some 10, .op (.fa 1 (.t 1)), some (9, false)⟩ :: ⟨some 11, .op (.ld1 (.t 10)), some (9, false)⟩ :: ⟨some 12, .op (.len .str (.t 11)), some (9, false)⟩ :: ⟨some 13, .op (.bin .gtr .other true (.t 12) (.c (.int .i64 100))), some (9, false)⟩ :: oo 14 (.pick (.t 9) (.c (.bool true)) (.t 13)) :: om 15 14 :: ⟨some 16, .op (.fa 2 (.t 1)), some (15, false)⟩ :: ⟨some 17, .op (.ld1 (.t 16)), some (15, false)⟩ :: ⟨some 18, .op (.len .str (.t 17)), some (15, false)⟩ :: ⟨some 19, .op (.bin .gtr .other true (.t 18) (.c (.int .i64 100))), some (15, false)⟩ :: oo 20 (.pick (.t 15) (.c (.bool true)) (.t 19)) :: om 21 20 :: ⟨some 22, .op (.fa 7 (.t 1)), some (21, false)⟩ :: ⟨some 23, .op (.fa 0 (.t 22)), some (21, false)⟩ :: ⟨some 24, .op (.ld1 (.t 23)), some (21, false)⟩ :: ⟨some 25, .op (.len .slice (.t 24)), some (21, false)⟩ :: ⟨some 26, .op (.bin .gtr .other true (.t 25) (.c (.int .i64 20))), some (21, false)⟩ :: oo 27 (.pick (.t 21) (.c (.bool true)) (.t 26)) :: om 28 27 :: ⟨some 29, .op (.fa 12 (.t 1)), some (28, false)⟩ :: ⟨some 30, .op (.fa 0 (.t 29)), some (28, false)⟩ :: ⟨some 31, .op (.ld1 (.t 30)), some (28, false)⟩ :: ⟨some 32, .op (.len .slice (.t 31)), some (28, false)⟩ :: ⟨some 33, .op (.bin .gtr .other true (.t 32) (.c (.int .i64 20))), some (28, false)⟩ :: oo 34 (.pick (.t 28) (.c (.bool true)) (.t 33)) :: om 35 34 :: ⟨some 36, .op (.fa 17 (.t 1)), some (35, false)⟩ :: ⟨some 37, .op (.ld1 (.t 36)), some (35, false)⟩ :: ⟨some 38, .op (.len .slice (.t 37)), some (35, false)⟩ :: ⟨some 39, .op (.bin .gtr .other true (.t 38) (.c (.int .i64 10))), some (35, false)⟩ :: oo 40 (.pick (.t 35) (.c (.bool true)) (.t 39)) :: om 41 40 :: ⟨some 42, .op (.fa 18 (.t 1)), some (41, false)⟩ :: ⟨some 43, .op (.ld1 (.t 42)), some (41, false)⟩ :: ⟨some 44, .op (.len .slice (.t 43)), some (41, false)⟩ :: ⟨some 45, .op (.bin .gtr .other true (.t 44) (.c (.int .i64 10))), some (41, false)⟩ :: oo 46 (.pick (.t 41) (.c (.bool true)) (.t 45)) :: [])) p17_6) p17_52))
theorem fn17 : FnOk Tryz.prog 17 p17_54 104 [.t 2] := ⟨false, Tryz.f17, _, Tryz.func17, by decide, rfl, by kernel_rfl, rfl, by kernel_rfl⟩
def L_r16_Great_2 (N : Nat) (a1 : ApiProduct) : Nat → Int → Option (Br (Bool) (Unit))
  | 0, _ => none
  | m2 + 1, v2_0 =>
    bif decide (v2_0 < (a1.Rules_.length : Int)) then
    ((getI a1.Rules_ v2_0).bind fun y25 =>
    bif decide (100 < (y25.Name_.length : Int)) then
    (some (.ret true))
    else
    ((getI a1.Rules_ v2_0).bind fun y27 =>
    (F_r10_Great N y27.Amount_ 100).bind fun r28 =>
    bif r28 then
    (some (.ret true))
    else
    ((L_r16_Great_2 N a1 m2) (IntKind.wrap .i64 (v2_0 + 1)))))
    else
    (some (.brk ()))
def K_r16_Great_2 (N : Nat)  : Br (Bool) (Unit) → Option (Bool)
  | .ret r => some r
  | .brk _ =>
    some false
def L_r16_Great_1 (N : Nat) (a1 : ApiProduct) : Nat → Int → Option (Br (Bool) (Unit))
  | 0, _ => none
  | m1 + 1, v1_0 =>
    bif decide (v1_0 < (a1.Fees_.length : Int)) then
    ((getI a1.Fees_ v1_0).bind fun y31 =>
    bif decide (100 < (y31.Name_.length : Int)) then
    (some (.ret true))
    else
    ((getI a1.Fees_ v1_0).bind fun y33 =>
    (F_r10_Great N y33.When_ 100).bind fun r34 =>
    bif r34 then
    (some (.ret true))
    else
    ((getI a1.Fees_ v1_0).bind fun y36 =>
    (F_r10_Great N y36.Amount_ 100).bind fun r37 =>
    bif r37 then
    (some (.ret true))
    else
    ((L_r16_Great_1 N a1 m1) (IntKind.wrap .i64 (v1_0 + 1))))))
    else
    (some (.brk ()))
def K_r16_Great_1 (N : Nat) (a1 : ApiProduct) : Br (Bool) (Unit) → Option (Bool)
  | .ret r => some r
  | .brk _ =>
    (L_r16_Great_2 N a1 N 0).bind (K_r16_Great_2 N)
def F_r16_Great  (N : Nat) (a1 : ApiProduct) : Option (Bool) :=
      bif decide (100 < (a1.Name_.length : Int)) then
    (some true)
    else
    (bif decide (100 < (a1.Currency_.length : Int)) then
    (some true)
    else
    (bif decide (100 < (a1.Calendar_.length : Int)) then
    (some true)
    else
    (bif decide (20 < (a1.Credit_.Tiers_.length : Int)) then
    (some true)
    else
    (bif decide (20 < (a1.Debit_.Tiers_.length : Int)) then
    (some true)
    else
    (bif decide (10 < (a1.Fees_.length : Int)) then
    (some true)
    else
    (bif decide (10 < (a1.Rules_.length : Int)) then
    (some true)
    else
    ((L_r16_Great_1 N a1 N 0).bind (K_r16_Great_1 N a1))))))))
theorem P_r16_Great  {N : Nat} {a1 : ApiProduct} {r : Bool} (h : F_r16_Great N a1 = some r) : Pure Tryz.prog (Gl.at 0) 17 [(ApiProduct.v a1)] (.bool r) := by
  refine pure_run fn17 ?_
  rw [F_r16_Great] at h
  replace h := bs h
  change GG [.t 2] _ [.pc p17_54] (mk 104 [(0, (ApiProduct.v a1))]) []
  refine go_if h (fun hb2 h => ?_) (fun hb2 h => ?_)
  · refine gx mo [.pc p17_3, .pc p17_52] 104 [(2, (.bool true))] [.row 19 [(ApiProduct.v a1)]] 56 [twb 5 [.row 19 [(ApiProduct.v a1)]] (.bin .gtr .other true (.c (i64 (a1.Name_.length : Int))) (.c (i64 100))) (decide (100 < (a1.Name_.length : Int))) true hb2] ?_
    obtain rfl := Option.some.inj h
    exact gf (.bool true) (.same rfl)
  · refine go_if h (fun hb3 h => ?_) (fun hb3 h => ?_)
    · refine gx mo [.pc p17_3, .pc p17_52] 104 [(2, (.bool true))] [.row 19 [(ApiProduct.v a1)]] 56 [twb 5 [.row 19 [(ApiProduct.v a1)]] (.bin .gtr .other true (.c (i64 (a1.Name_.length : Int))) (.c (i64 100))) (decide (100 < (a1.Name_.length : Int))) false hb2, twb 11 [.row 19 [(ApiProduct.v a1)]] (.pick (.c (.bool false)) (.c (.bool true)) (.c (.bool (decide (100 < (a1.Currency_.length : Int)))))) (decide (100 < (a1.Currency_.length : Int))) true hb3] ?_
      obtain rfl := Option.some.inj h
      exact gf (.bool true) (.same rfl)
    · refine go_if h (fun hb4 h => ?_) (fun hb4 h => ?_)
      · refine gx mo [.pc p17_3, .pc p17_52] 104 [(2, (.bool true))] [.row 19 [(ApiProduct.v a1)]] 56 [twb 5 [.row 19 [(ApiProduct.v a1)]] (.bin .gtr .other true (.c (i64 (a1.Name_.length : Int))) (.c (i64 100))) (decide (100 < (a1.Name_.length : Int))) false hb2, twb 11 [.row 19 [(ApiProduct.v a1)]] (.pick (.c (.bool false)) (.c (.bool true)) (.c (.bool (decide (100 < (a1.Currency_.length : Int)))))) (decide (100 < (a1.Currency_.length : Int))) false hb3, twb 17 [.row 19 [(ApiProduct.v a1)]] (.pick (.c (.bool false)) (.c (.bool true)) (.c (.bool (decide (100 < (a1.Calendar_.length : Int)))))) (decide (100 < (a1.Calendar_.length : Int))) true hb4] ?_
        obtain rfl := Option.some.inj h
        exact gf (.bool true) (.same rfl)
      · refine go_if h (fun hb5 h => ?_) (fun hb5 h => ?_)
        · refine gx mo [.pc p17_3, .pc p17_52] 104 [(2, (.bool true))] [.row 19 [(ApiProduct.v a1)]] 56 [twb 5 [.row 19 [(ApiProduct.v a1)]] (.bin .gtr .other true (.c (i64 (a1.Name_.length : Int))) (.c (i64 100))) (decide (100 < (a1.Name_.length : Int))) false hb2, twb 11 [.row 19 [(ApiProduct.v a1)]] (.pick (.c (.bool false)) (.c (.bool true)) (.c (.bool (decide (100 < (a1.Currency_.length : Int)))))) (decide (100 < (a1.Currency_.length : Int))) false hb3, twb 17 [.row 19 [(ApiProduct.v a1)]] (.pick (.c (.bool false)) (.c (.bool true)) (.c (.bool (decide (100 < (a1.Calendar_.length : Int)))))) (decide (100 < (a1.Calendar_.length : Int))) false hb4, tw 22 (E_len [.row 19 [(ApiProduct.v a1)]] a1.Credit_.Tiers_ ApiTier.v), twb 24 [.row 19 [(ApiProduct.v a1)]] (.pick (.c (.bool false)) (.c (.bool true)) (.c (.bool (decide (20 < (a1.Credit_.Tiers_.length : Int)))))) (decide (20 < (a1.Credit_.Tiers_.length : Int))) true hb5] ?_
          obtain rfl := Option.some.inj h
          exact gf (.bool true) (.same rfl)
        · refine go_if h (fun hb6 h => ?_) (fun hb6 h => ?_)
          · refine gx mo [.pc p17_3, .pc p17_52] 104 [(2, (.bool true))] [.row 19 [(ApiProduct.v a1)]] 56 [twb 5 [.row 19 [(ApiProduct.v a1)]] (.bin .gtr .other true (.c (i64 (a1.Name_.length : Int))) (.c (i64 100))) (decide (100 < (a1.Name_.length : Int))) false hb2, twb 11 [.row 19 [(ApiProduct.v a1)]] (.pick (.c (.bool false)) (.c (.bool true)) (.c (.bool (decide (100 < (a1.Currency_.length : Int)))))) (decide (100 < (a1.Currency_.length : Int))) false hb3, twb 17 [.row 19 [(ApiProduct.v a1)]] (.pick (.c (.bool false)) (.c (.bool true)) (.c (.bool (decide (100 < (a1.Calendar_.length : Int)))))) (decide (100 < (a1.Calendar_.length : Int))) false hb4, tw 22 (E_len [.row 19 [(ApiProduct.v a1)]] a1.Credit_.Tiers_ ApiTier.v), twb 24 [.row 19 [(ApiProduct.v a1)]] (.pick (.c (.bool false)) (.c (.bool true)) (.c (.bool (decide (20 < (a1.Credit_.Tiers_.length : Int)))))) (decide (20 < (a1.Credit_.Tiers_.length : Int))) false hb5, tw 29 (E_len [.row 19 [(ApiProduct.v a1)]] a1.Debit_.Tiers_ ApiTier.v), twb 31 [.row 19 [(ApiProduct.v a1)]] (.pick (.c (.bool false)) (.c (.bool true)) (.c (.bool (decide (20 < (a1.Debit_.Tiers_.length : Int)))))) (decide (20 < (a1.Debit_.Tiers_.length : Int))) true hb6] ?_
            obtain rfl := Option.some.inj h
            exact gf (.bool true) (.same rfl)
          · refine go_if h (fun hb7 h => ?_) (fun hb7 h => ?_)
            · refine gx mo [.pc p17_3, .pc p17_52] 104 [(2, (.bool true))] [.row 19 [(ApiProduct.v a1)]] 56 [twb 5 [.row 19 [(ApiProduct.v a1)]] (.bin .gtr .other true (.c (i64 (a1.Name_.length : Int))) (.c (i64 100))) (decide (100 < (a1.Name_.length : Int))) false hb2, twb 11 [.row 19 [(ApiProduct.v a1)]] (.pick (.c (.bool false)) (.c (.bool true)) (.c (.bool (decide (100 < (a1.Currency_.length : Int)))))) (decide (100 < (a1.Currency_.length : Int))) false hb3, twb 17 [.row 19 [(ApiProduct.v a1)]] (.pick (.c (.bool false)) (.c (.bool true)) (.c (.bool (decide (100 < (a1.Calendar_.length : Int)))))) (decide (100 < (a1.Calendar_.length : Int))) false hb4, tw 22 (E_len [.row 19 [(ApiProduct.v a1)]] a1.Credit_.Tiers_ ApiTier.v), twb 24 [.row 19 [(ApiProduct.v a1)]] (.pick (.c (.bool false)) (.c (.bool true)) (.c (.bool (decide (20 < (a1.Credit_.Tiers_.length : Int)))))) (decide (20 < (a1.Credit_.Tiers_.length : Int))) false hb5, tw 29 (E_len [.row 19 [(ApiProduct.v a1)]] a1.Debit_.Tiers_ ApiTier.v), twb 31 [.row 19 [(ApiProduct.v a1)]] (.pick (.c (.bool false)) (.c (.bool true)) (.c (.bool (decide (20 < (a1.Debit_.Tiers_.length : Int)))))) (decide (20 < (a1.Debit_.Tiers_.length : Int))) false hb6, tw 35 (E_len [.row 19 [(ApiProduct.v a1)]] a1.Fees_ ApiFee.v), twb 37 [.row 19 [(ApiProduct.v a1)]] (.pick (.c (.bool false)) (.c (.bool true)) (.c (.bool (decide (10 < (a1.Fees_.length : Int)))))) (decide (10 < (a1.Fees_.length : Int))) true hb7] ?_
              obtain rfl := Option.some.inj h
              exact gf (.bool true) (.same rfl)
            · refine gx mo [.pc p17_6, .pc p17_52] 104 [(1, (.ref 0 0 0)), (46, (.bool (decide (10 < (a1.Rules_.length : Int)))))] [.row 19 [(ApiProduct.v a1)]] 51 [twb 5 [.row 19 [(ApiProduct.v a1)]] (.bin .gtr .other true (.c (i64 (a1.Name_.length : Int))) (.c (i64 100))) (decide (100 < (a1.Name_.length : Int))) false hb2, twb 11 [.row 19 [(ApiProduct.v a1)]] (.pick (.c (.bool false)) (.c (.bool true)) (.c (.bool (decide (100 < (a1.Currency_.length : Int)))))) (decide (100 < (a1.Currency_.length : Int))) false hb3, twb 17 [.row 19 [(ApiProduct.v a1)]] (.pick (.c (.bool false)) (.c (.bool true)) (.c (.bool (decide (100 < (a1.Calendar_.length : Int)))))) (decide (100 < (a1.Calendar_.length : Int))) false hb4, tw 22 (E_len [.row 19 [(ApiProduct.v a1)]] a1.Credit_.Tiers_ ApiTier.v), twb 24 [.row 19 [(ApiProduct.v a1)]] (.pick (.c (.bool false)) (.c (.bool true)) (.c (.bool (decide (20 < (a1.Credit_.Tiers_.length : Int)))))) (decide (20 < (a1.Credit_.Tiers_.length : Int))) false hb5, tw 29 (E_len [.row 19 [(ApiProduct.v a1)]] a1.Debit_.Tiers_ ApiTier.v), twb 31 [.row 19 [(ApiProduct.v a1)]] (.pick (.c (.bool false)) (.c (.bool true)) (.c (.bool (decide (20 < (a1.Debit_.Tiers_.length : Int)))))) (decide (20 < (a1.Debit_.Tiers_.length : Int))) false hb6, tw 35 (E_len [.row 19 [(ApiProduct.v a1)]] a1.Fees_ ApiFee.v), twb 37 [.row 19 [(ApiProduct.v a1)]] (.pick (.c (.bool false)) (.c (.bool true)) (.c (.bool (decide (10 < (a1.Fees_.length : Int)))))) (decide (10 < (a1.Fees_.length : Int))) false hb7, tw 41 (E_len [.row 19 [(ApiProduct.v a1)]] a1.Rules_ ApiRule.v)] ?_
              refine go_if h (fun hb8 h => ?_) (fun hb8 h => ?_)
              · rw [hb8]
                refine gx mo [.pc p17_3, .pc p17_52] 104 [(2, (.bool true))] [.row 19 [(ApiProduct.v a1)]] 5 [] ?_
                obtain rfl := Option.some.inj h
                exact gf (.bool true) (.same rfl)
              · rw [hb8]
                refine gx mo [.pc p17_25, .blk 0, .pc p17_51] 104 [(1, (.ref 0 0 0)), (3, (i64 0))] [.row 19 [(ApiProduct.v a1)]] 8 [] ?_
                refine go_cut (X := Unit) (fun x => (K_r16_Great_1 N a1 (.brk x)).bind some = some r) ([.pc p17_51]) (fun x => (mk 104 [(1, (.ref 0 0 0))])) (fun x => [.row 19 [(ApiProduct.v a1)]]) ?_ fun kont1_0 => ?_
                · rintro _ h
                  rw [K_r16_Great_1] at h
                  refine gx mo [.pc p17_45, .blk 2, .pc p17_50] 104 [(1, (.ref 0 0 0)), (4, (i64 0))] [.row 19 [(ApiProduct.v a1)]] 6 [] ?_
                  refine go_cut (X := Unit) (fun x => (K_r16_Great_2 N (.brk x)).bind some = some r) ([.pc p17_50]) (fun x => (mk 104 [])) (fun x => []) ?_ fun kont2_0 => ?_
                  · rintro _ h
                    rw [K_r16_Great_2] at h
                    refine gx mo [.pc p17_49] 104 [(2, (.bool false))] [] 4 [] ?_
                    obtain rfl := Option.some.inj h
                    exact gf (.bool false) (.same rfl)
                  refine go_loop' (fun m t s => ∃ (v2_0 : Int), (L_r16_Great_2 N a1 m v2_0).bind (fun q => (K_r16_Great_2 N q).bind some) = some r ∧ t = (mk 104 [(1, (.ref 0 0 0)), (4, (i64 v2_0))]) ∧ s = [.row 19 [(ApiProduct.v a1)]]) N ⟨0, go_assoc h, rfl, rfl⟩ ?_
                  intro m2 J2 hJ2 t s
                  rintro ⟨v2_0, h, rfl, rfl⟩
                  cases m2 with
                  | zero => exact absurd h (by simp [L_r16_Great_2])
                  | succ m2 =>
                    rw [L_r16_Great_2] at h
                    refine gx mo [.pc p17_32, .pc p17_43, .jp J2, .blk 2, .pc p17_50] 104 [(1, (.ref 0 0 0)), (4, (i64 v2_0)), (84, (.bool (decide (v2_0 < (a1.Rules_.length : Int)))))] [.row 19 [(ApiProduct.v a1)]] 9 [tw 3 (E_len [.row 19 [(ApiProduct.v a1)]] a1.Rules_ ApiRule.v)] ?_
                    refine go_if h (fun hb24 h => ?_) (fun hb24 h => ?_)
                    · rw [hb24]
                      refine go_bind h (fun y25 hy25 h => ?_)
                      refine go_if h (fun hb26 h => ?_) (fun hb26 h => ?_)
                      · refine gx mo [.pc p17_36, .blk 3, .pc p17_42, .jp J2, .blk 2, .pc p17_50] 104 [(2, (.bool true))] [.row 19 [(ApiProduct.v a1)]] 29 [tw 4 (E_ia [.row 19 [(ApiProduct.v a1)]] ApiRule.v .i64 hy25), twb 8 [.row 19 [(ApiProduct.v a1)]] (.bin .gtr .other true (.c (i64 (y25.Name_.length : Int))) (.c (i64 100))) (decide (100 < (y25.Name_.length : Int))) true hb26] ?_
                        obtain rfl := Option.some.inj h
                        exact gf (.bool true) (.same rfl)
                      · refine go_bind h (fun y27 hy27 h => ?_)
                        refine go_bind h (fun r28 hr28 h => ?_)
                        refine gx mo [.pc p17_39, .blk 3, .pc p17_42, .jp J2, .blk 2, .pc p17_50] 104 [(1, (.ref 0 0 0)), (4, (i64 v2_0)), (103, (.bool r28))] [.row 19 [(ApiProduct.v a1)]] 24 [tw 4 (E_ia [.row 19 [(ApiProduct.v a1)]] ApiRule.v .i64 hy25), twb 8 [.row 19 [(ApiProduct.v a1)]] (.bin .gtr .other true (.c (i64 (y25.Name_.length : Int))) (.c (i64 100))) (decide (100 < (y25.Name_.length : Int))) false hb26, tw 13 (E_ia [.row 19 [(ApiProduct.v a1)]] ApiRule.v .i64 hy27), tc 16 [.row 19 [(ApiProduct.v a1)]] (P_r10_Great hr28) (fg (fs fl_nil))] ?_
                        refine go_if h (fun hb29 h => ?_) (fun hb29 h => ?_)
                        · rw [hb29]
                          refine gx mo [.pc p17_36, .blk 3, .pc p17_42, .jp J2, .blk 2, .pc p17_50] 104 [(2, (.bool true))] [.row 19 [(ApiProduct.v a1)]] 5 [] ?_
                          obtain rfl := Option.some.inj h
                          exact gf (.bool true) (.same rfl)
                        · rw [hb29]
                          refine gx mo [.jp J2, .blk 2, .pc p17_50] 104 [(1, (.ref 0 0 0)), (4, (i64 (IntKind.wrap .i64 (v2_0 + 1))))] [.row 19 [(ApiProduct.v a1)]] 8 [] ?_
                          exact go_back rfl (hJ2 m2 _ _ (Nat.lt_succ_self m2) ⟨IntKind.wrap .i64 (v2_0 + 1), h, rfl, rfl⟩)
                    · rw [hb24]
                      refine gx mo [.pc p17_50] 104 [] [.row 19 [(ApiProduct.v a1)]] 2 [] ?_
                      refine go_pick [] [] [] (t' := (mk 104 [])) (s' := []) (by kernel_rfl) trivial rfl ?_
                      exact kont2_0 () h
                refine go_loop' (fun m t s => ∃ (v1_0 : Int), (L_r16_Great_1 N a1 m v1_0).bind (fun q => (K_r16_Great_1 N a1 q).bind some) = some r ∧ t = (mk 104 [(1, (.ref 0 0 0)), (3, (i64 v1_0))]) ∧ s = [.row 19 [(ApiProduct.v a1)]]) N ⟨0, go_assoc h, rfl, rfl⟩ ?_
                intro m1 J1 hJ1 t s
                rintro ⟨v1_0, h, rfl, rfl⟩
                cases m1 with
                | zero => exact absurd h (by simp [L_r16_Great_1])
                | succ m1 =>
                  rw [L_r16_Great_1] at h
                  refine gx mo [.pc p17_12, .pc p17_23, .jp J1, .blk 0, .pc p17_51] 104 [(1, (.ref 0 0 0)), (3, (i64 v1_0)), (51, (.bool (decide (v1_0 < (a1.Fees_.length : Int)))))] [.row 19 [(ApiProduct.v a1)]] 9 [tw 3 (E_len [.row 19 [(ApiProduct.v a1)]] a1.Fees_ ApiFee.v)] ?_
                  refine go_if h (fun hb30 h => ?_) (fun hb30 h => ?_)
                  · rw [hb30]
                    refine go_bind h (fun y31 hy31 h => ?_)
                    refine go_if h (fun hb32 h => ?_) (fun hb32 h => ?_)
                    · refine gx mo [.pc p17_16, .blk 1, .pc p17_22, .jp J1, .blk 0, .pc p17_51] 104 [(2, (.bool true))] [.row 19 [(ApiProduct.v a1)]] 38 [tw 4 (E_ia [.row 19 [(ApiProduct.v a1)]] ApiFee.v .i64 hy31), twb 8 [.row 19 [(ApiProduct.v a1)]] (.bin .gtr .other true (.c (i64 (y31.Name_.length : Int))) (.c (i64 100))) (decide (100 < (y31.Name_.length : Int))) true hb32] ?_
                      obtain rfl := Option.some.inj h
                      exact gf (.bool true) (.same rfl)
                    · refine go_bind h (fun y33 hy33 h => ?_)
                      refine go_bind h (fun r34 hr34 h => ?_)
                      refine go_if h (fun hb35 h => ?_) (fun hb35 h => ?_)
                      · refine gx mo [.pc p17_16, .blk 1, .pc p17_22, .jp J1, .blk 0, .pc p17_51] 104 [(2, (.bool true))] [.row 19 [(ApiProduct.v a1)]] 38 [tw 4 (E_ia [.row 19 [(ApiProduct.v a1)]] ApiFee.v .i64 hy31), twb 8 [.row 19 [(ApiProduct.v a1)]] (.bin .gtr .other true (.c (i64 (y31.Name_.length : Int))) (.c (i64 100))) (decide (100 < (y31.Name_.length : Int))) false hb32, tw 13 (E_ia [.row 19 [(ApiProduct.v a1)]] ApiFee.v .i64 hy33), tc 16 [.row 19 [(ApiProduct.v a1)]] (P_r10_Great hr34) (fg (fs fl_nil)), twb 17 [.row 19 [(ApiProduct.v a1)]] (.pick (.c (.bool false)) (.c (.bool true)) (.c (.bool r34))) (r34) true hb35] ?_
                        obtain rfl := Option.some.inj h
                        exact gf (.bool true) (.same rfl)
                      · refine go_bind h (fun y36 hy36 h => ?_)
                        refine go_bind h (fun r37 hr37 h => ?_)
                        refine gx mo [.pc p17_19, .blk 1, .pc p17_22, .jp J1, .blk 0, .pc p17_51] 104 [(1, (.ref 0 0 0)), (3, (i64 v1_0)), (79, (.bool r37))] [.row 19 [(ApiProduct.v a1)]] 33 [tw 4 (E_ia [.row 19 [(ApiProduct.v a1)]] ApiFee.v .i64 hy31), twb 8 [.row 19 [(ApiProduct.v a1)]] (.bin .gtr .other true (.c (i64 (y31.Name_.length : Int))) (.c (i64 100))) (decide (100 < (y31.Name_.length : Int))) false hb32, tw 13 (E_ia [.row 19 [(ApiProduct.v a1)]] ApiFee.v .i64 hy33), tc 16 [.row 19 [(ApiProduct.v a1)]] (P_r10_Great hr34) (fg (fs fl_nil)), twb 17 [.row 19 [(ApiProduct.v a1)]] (.pick (.c (.bool false)) (.c (.bool true)) (.c (.bool r34))) (r34) false hb35, tw 22 (E_ia [.row 19 [(ApiProduct.v a1)]] ApiFee.v .i64 hy36), tc 25 [.row 19 [(ApiProduct.v a1)]] (P_r10_Great hr37) (fg (fs fl_nil))] ?_
                        refine go_if h (fun hb38 h => ?_) (fun hb38 h => ?_)
                        · rw [hb38]
                          refine gx mo [.pc p17_16, .blk 1, .pc p17_22, .jp J1, .blk 0, .pc p17_51] 104 [(2, (.bool true))] [.row 19 [(ApiProduct.v a1)]] 5 [] ?_
                          obtain rfl := Option.some.inj h
                          exact gf (.bool true) (.same rfl)
                        · rw [hb38]
                          refine gx mo [.jp J1, .blk 0, .pc p17_51] 104 [(1, (.ref 0 0 0)), (3, (i64 (IntKind.wrap .i64 (v1_0 + 1))))] [.row 19 [(ApiProduct.v a1)]] 8 [] ?_
                          exact go_back rfl (hJ1 m1 _ _ (Nat.lt_succ_self m1) ⟨IntKind.wrap .i64 (v1_0 + 1), h, rfl, rfl⟩)
                  · rw [hb30]
                    refine gx mo [.pc p17_51] 104 [(1, (.ref 0 0 0))] [.row 19 [(ApiProduct.v a1)]] 2 [] ?_
                    exact kont1_0 () h
/-! corebank/corebankref19.Great -/
def p18_29 : PC := .ret
def p18_30 : PC := (.seq (.reg (oo 2 (.mv (.c (.bool false))) :: [])) p18_29)
def p18_22 : PC := (.reg (om 25 3 :: oo 26 (.bin .add .other true (.t 25) (.c (.int .i64 1))) :: om 3 26 :: []))
def p18_16 : PC := .ret
def p18_19 : PC := (.cond (.t 34) (.seq (.reg (oo 2 (.mv (.c (.bool true))) :: [])) p18_16) .skip)
def p18_23 : PC := (.seq (.block 1 (.seq (.reg (oo 27 (.fa 8 (.t 1)) :: oo 28 (.ld1 (.t 27)) :: om 29 3 :: oo 30 (.ia 3 (.t 28) (.t 29)) :: oo 31 (.fa 2 (.t 30)) :: oo 32 (.ld1 (.t 31)) :: oo 33 (.len .str (.t 32)) :: oo 34 (.bin .gtr .other true (.t 33) (.c (.int .i64 100))) :: [])) p18_19)) p18_22)
def p18_12 : PC := (.cond (.t 24) .skip (.exit 0))
def p18_25 : PC := (.loop (.seq (.seq (.reg (om 20 3 :: oo 21 (.fa 8 (.t 1)) :: oo 22 (.ld1 (.t 21)) :: oo 23 (.len .slice (.t 22)) :: oo 24 (.bin .lss .other false (.t 20) (.t 23)) :: [])) p18_12) p18_23))
def p18_31 : PC := (.seq (.seq (.reg (oo 3 (.mv (.c (.int .i64 0))) :: [])) (.block 0 p18_25)) p18_30)
def p18_3 : PC := .ret
def p18_6 : PC := (.cond (.t 19) (.seq (.reg (oo 2 (.mv (.c (.bool true))) :: [])) p18_3) .skip)
def p18_33 : PC := (.seq (.reg (oo 1 (.box (.t 0)) :: oo 2 (.mv (.c (.bool false))) :: [])) (.seq (.seq (.reg (oo 4 (.fa 8 (.t 1)) :: oo 5 (.ld1 (.t 4)) :: oo 6 (.len .slice (.t 5)) :: oo 7 (.bin .gtr .other true (.t 6) (.c (.int .i64 30))) :: om 8 7 :: ⟨some 9, .op (.fa 6 (.t 1)), some (8, false)⟩ :: ⟨some 10, .op (.ld1 (.t 9)), some (8, false)⟩ :: ⟨some 11, .op (.len .str (.t 10)), some (8, false)⟩ :: ⟨some 12, .op (.bin .gtr .other true (.t 11) (.c (.int .i64 1000))), some (8, false)⟩ :: oo 13 (.pick (.t 8) (.c (.bool true)) (.t 12)) :: om 14 13 :: ⟨some 15, .op (.fa 7 (.t 1)), some (14, false)⟩ :: ⟨some 16, .op (.ld1 (.t 15)), some (14, false)⟩ :: ⟨some 17, .op (.len .str (.t 16)), some (14, false)⟩ :: ⟨some 18, .op (.bin .gtr .other true (.t 17) (.c (.int .i64 1000))), some (14, false)⟩ :: oo 19 (.pick (.t 14) (.c (.bool true)) (.t 18)) :: [])) p18_6) p18_31))
theorem fn18 : FnOk Tryz.prog 18 p18_33 35 [.t 2] := ⟨false, Tryz.f18, _, Tryz.func18, by decide, rfl, by kernel_rfl, rfl, by kernel_rfl⟩
def L_r19_Great_1 (N : Nat) (a1 : ApiEntry) : Nat → Int → Option (Br (Bool) (Unit))
  | 0, _ => none
  | m1 + 1, v1_0 =>
    bif decide (v1_0 < (a1.Legs_.length : Int)) then
    ((getI a1.Legs_ v1_0).bind fun y9 =>
    bif decide (100 < (y9.Currency_.length : Int)) then
    (some (.ret true))
    else
    ((L_r19_Great_1 N a1 m1) (IntKind.wrap .i64 (v1_0 + 1))))
    else
    (some (.brk ()))
def K_r19_Great_1 (N : Nat)  : Br (Bool) (Unit) → Option (Bool)
  | .ret r => some r
  | .brk _ =>
    some false
def F_r19_Great  (N : Nat) (a1 : ApiEntry) : Option (Bool) :=
      bif decide (30 < (a1.Legs_.length : Int)) then
    (some true)
    else
    (bif decide (1000 < (a1.Key_.length : Int)) then
    (some true)
    else
    (bif decide (1000 < (a1.Text_.length : Int)) then
    (some true)
    else
    ((L_r19_Great_1 N a1 N 0).bind (K_r19_Great_1 N))))
theorem P_r19_Great  {N : Nat} {a1 : ApiEntry} {r : Bool} (h : F_r19_Great N a1 = some r) : Pure Tryz.prog (Gl.at 0) 18 [(ApiEntry.v a1)] (.bool r) := by
  refine pure_run fn18 ?_
  rw [F_r19_Great] at h
  replace h := bs h
  change GG [.t 2] _ [.pc p18_33] (mk 35 [(0, (ApiEntry.v a1))]) []
  refine go_if h (fun hb2 h => ?_) (fun hb2 h => ?_)
  · refine gx mo [.pc p18_3, .pc p18_31] 35 [(2, (.bool true))] [.row 10 [(ApiEntry.v a1)]] 30 [tw 4 (E_len [.row 10 [(ApiEntry.v a1)]] a1.Legs_ ApiLeg.v), twb 5 [.row 10 [(ApiEntry.v a1)]] (.bin .gtr .other true (.c (i64 (a1.Legs_.length : Int))) (.c (i64 30))) (decide (30 < (a1.Legs_.length : Int))) true hb2] ?_
    obtain rfl := Option.some.inj h
    exact gf (.bool true) (.same rfl)
  · refine go_if h (fun hb3 h => ?_) (fun hb3 h => ?_)
    · refine gx mo [.pc p18_3, .pc p18_31] 35 [(2, (.bool true))] [.row 10 [(ApiEntry.v a1)]] 30 [tw 4 (E_len [.row 10 [(ApiEntry.v a1)]] a1.Legs_ ApiLeg.v), twb 5 [.row 10 [(ApiEntry.v a1)]] (.bin .gtr .other true (.c (i64 (a1.Legs_.length : Int))) (.c (i64 30))) (decide (30 < (a1.Legs_.length : Int))) false hb2, twb 11 [.row 10 [(ApiEntry.v a1)]] (.pick (.c (.bool false)) (.c (.bool true)) (.c (.bool (decide (1000 < (a1.Key_.length : Int)))))) (decide (1000 < (a1.Key_.length : Int))) true hb3] ?_
      obtain rfl := Option.some.inj h
      exact gf (.bool true) (.same rfl)
    · refine gx mo [.pc p18_6, .pc p18_31] 35 [(1, (.ref 0 0 0)), (19, (.bool (decide (1000 < (a1.Text_.length : Int)))))] [.row 10 [(ApiEntry.v a1)]] 25 [tw 4 (E_len [.row 10 [(ApiEntry.v a1)]] a1.Legs_ ApiLeg.v), twb 5 [.row 10 [(ApiEntry.v a1)]] (.bin .gtr .other true (.c (i64 (a1.Legs_.length : Int))) (.c (i64 30))) (decide (30 < (a1.Legs_.length : Int))) false hb2, twb 11 [.row 10 [(ApiEntry.v a1)]] (.pick (.c (.bool false)) (.c (.bool true)) (.c (.bool (decide (1000 < (a1.Key_.length : Int)))))) (decide (1000 < (a1.Key_.length : Int))) false hb3] ?_
      refine go_if h (fun hb4 h => ?_) (fun hb4 h => ?_)
      · rw [hb4]
        refine gx mo [.pc p18_3, .pc p18_31] 35 [(2, (.bool true))] [.row 10 [(ApiEntry.v a1)]] 5 [] ?_
        obtain rfl := Option.some.inj h
        exact gf (.bool true) (.same rfl)
      · rw [hb4]
        refine gx mo [.pc p18_25, .blk 0, .pc p18_30] 35 [(1, (.ref 0 0 0)), (3, (i64 0))] [.row 10 [(ApiEntry.v a1)]] 8 [] ?_
        refine go_cut (X := Unit) (fun x => (K_r19_Great_1 N (.brk x)).bind some = some r) ([.pc p18_30]) (fun x => (mk 35 [])) (fun x => []) ?_ fun kont1_0 => ?_
        · rintro _ h
          rw [K_r19_Great_1] at h
          refine gx mo [.pc p18_29] 35 [(2, (.bool false))] [] 4 [] ?_
          obtain rfl := Option.some.inj h
          exact gf (.bool false) (.same rfl)
        refine go_loop' (fun m t s => ∃ (v1_0 : Int), (L_r19_Great_1 N a1 m v1_0).bind (fun q => (K_r19_Great_1 N q).bind some) = some r ∧ t = (mk 35 [(1, (.ref 0 0 0)), (3, (i64 v1_0))]) ∧ s = [.row 10 [(ApiEntry.v a1)]]) N ⟨0, go_assoc h, rfl, rfl⟩ ?_
        intro m1 J1 hJ1 t s
        rintro ⟨v1_0, h, rfl, rfl⟩
        cases m1 with
        | zero => exact absurd h (by simp [L_r19_Great_1])
        | succ m1 =>
          rw [L_r19_Great_1] at h
          refine gx mo [.pc p18_12, .pc p18_23, .jp J1, .blk 0, .pc p18_30] 35 [(1, (.ref 0 0 0)), (3, (i64 v1_0)), (24, (.bool (decide (v1_0 < (a1.Legs_.length : Int)))))] [.row 10 [(ApiEntry.v a1)]] 9 [tw 3 (E_len [.row 10 [(ApiEntry.v a1)]] a1.Legs_ ApiLeg.v)] ?_
          refine go_if h (fun hb8 h => ?_) (fun hb8 h => ?_)
          · rw [hb8]
            refine go_bind h (fun y9 hy9 h => ?_)
            refine gx mo [.pc p18_19, .blk 1, .pc p18_22, .jp J1, .blk 0, .pc p18_30] 35 [(1, (.ref 0 0 0)), (3, (i64 v1_0)), (34, (.bool (decide (100 < (y9.Currency_.length : Int)))))] [.row 10 [(ApiEntry.v a1)]] 15 [tw 4 (E_ia [.row 10 [(ApiEntry.v a1)]] ApiLeg.v .i64 hy9)] ?_
            refine go_if h (fun hb10 h => ?_) (fun hb10 h => ?_)
            · rw [hb10]
              refine gx mo [.pc p18_16, .blk 1, .pc p18_22, .jp J1, .blk 0, .pc p18_30] 35 [(2, (.bool true))] [.row 10 [(ApiEntry.v a1)]] 5 [] ?_
              obtain rfl := Option.some.inj h
              exact gf (.bool true) (.same rfl)
            · rw [hb10]
              refine gx mo [.jp J1, .blk 0, .pc p18_30] 35 [(1, (.ref 0 0 0)), (3, (i64 (IntKind.wrap .i64 (v1_0 + 1))))] [.row 10 [(ApiEntry.v a1)]] 8 [] ?_
              exact go_back rfl (hJ1 m1 _ _ (Nat.lt_succ_self m1) ⟨IntKind.wrap .i64 (v1_0 + 1), h, rfl, rfl⟩)
          · rw [hb8]
            refine gx mo [.pc p18_30] 35 [] [.row 10 [(ApiEntry.v a1)]] 2 [] ?_
            refine go_pick [] [] [] (t' := (mk 35 [])) (s' := []) (by kernel_rfl) trivial rfl ?_
            exact kont1_0 () h
/-! corebank/corebankref25.Great -/
def p5_69 : PC := .ret
def p5_70 : PC := (.seq (.reg (oo 2 (.mv (.c (.bool false))) :: [])) p5_69)
def p5_62 : PC := (.reg (om 82 5 :: oo 83 (.bin .add .other true (.t 82) (.c (.int .i64 1))) :: om 5 83 :: []))
def p5_56 : PC := .ret
def p5_59 : PC := (.cond (.t 101) (.seq (.reg (oo 2 (.mv (.c (.bool true))) :: [])) p5_56) .skip)
def p5_63 : PC := (.seq (.block 5 (.seq (.reg (oo 84 (.fa 1 (.t 1)) :: oo 85 (.ld1 (.t 84)) :: om 86 5 :: oo 87 (.ia 3 (.t 85) (.t 86)) :: oo 88 (.fa 2 (.t 87)) :: oo 89 (.ld1 (.t 88)) :: oo 90 (.len .slice (.t 89)) :: oo 91 (.bin .gtr .other true (.t 90) (.c (.int .i64 400))) :: om 92 91 :: ⟨some 93, .op (.fa 1 (.t 1)), some (92, false)⟩ :: ⟨some 94, .op (.ld1 (.t 93)), some (92, false)⟩ :: ⟨some 95, .op (.mv (.t 5)), some (92, false)⟩ :: ⟨some 96, .op (.ia 3 (.t 94) (.t 95)), some (92, false)⟩ :: ⟨some 97, .op (.fa 1 (.t 96)), some (92, false)⟩ :: ⟨some 98, .op (.ld1 (.t 97)), some (92, false)⟩ :: ⟨some 99, .op (.len .slice (.t 98)), some (92, false)⟩ :: ⟨some 100, .op (.bin .gtr .other true (.t 99) (.c (.int .i64 20))), some (92, false)⟩ :: oo 101 (.pick (.t 92) (.c (.bool true)) (.t 100)) :: [])) p5_59)) p5_62)
def p5_52 : PC := (.cond (.t 81) .skip (.exit 4))
def p5_65 : PC := (.loop (.seq (.seq (.reg (om 77 5 :: oo 78 (.fa 1 (.t 1)) :: oo 79 (.ld1 (.t 78)) :: oo 80 (.len .slice (.t 79)) :: oo 81 (.bin .lss .other false (.t 77) (.t 80)) :: [])) p5_52) p5_63))
def p5_71 : PC := (.seq (.seq (.reg (oo 5 (.mv (.c (.int .i64 0))) :: [])) (.block 4 p5_65)) p5_70)
def p5_42 : PC := (.reg (om 69 4 :: oo 70 (.bin .add .other true (.t 69) (.c (.int .i64 1))) :: om 4 70 :: []))
def p5_36 : PC := .ret
def p5_39 : PC := (.cond (.t 76) (.seq (.reg (oo 2 (.mv (.c (.bool true))) :: [])) p5_36) .skip)
def p5_43 : PC := (.seq (.block 3 (.seq (.reg (oo 71 (.fa 19 (.t 1)) :: oo 72 (.ld1 (.t 71)) :: om 73 4 :: oo 74 (.ia 10 (.t 72) (.t 73)) :: oo 75 (.ldA 10 (.t 74)) :: ⟨some 76, .call 18 [.t 75], none⟩ :: [])) p5_39)) p5_42)
def p5_32 : PC := (.cond (.t 68) .skip (.exit 2))
def p5_45 : PC := (.loop (.seq (.seq (.reg (om 64 4 :: oo 65 (.fa 19 (.t 1)) :: oo 66 (.ld1 (.t 65)) :: oo 67 (.len .slice (.t 66)) :: oo 68 (.bin .lss .other false (.t 64) (.t 67)) :: [])) p5_32) p5_43))
def p5_72 : PC := (.seq (.seq (.reg (oo 4 (.mv (.c (.int .i64 0))) :: [])) (.block 2 p5_45)) p5_71)
def p5_22 : PC := (.reg (om 56 3 :: oo 57 (.bin .add .other true (.t 56) (.c (.int .i64 1))) :: om 3 57 :: []))
def p5_16 : PC := .ret
def p5_19 : PC := (.cond (.t 63) (.seq (.reg (oo 2 (.mv (.c (.bool true))) :: [])) p5_16) .skip)
def p5_23 : PC := (.seq (.block 1 (.seq (.reg (oo 58 (.fa 17 (.t 1)) :: oo 59 (.ld1 (.t 58)) :: om 60 3 :: oo 61 (.ia 19 (.t 59) (.t 60)) :: oo 62 (.ldA 19 (.t 61)) :: ⟨some 63, .call 17 [.t 62], none⟩ :: [])) p5_19)) p5_22)
def p5_12 : PC := (.cond (.t 55) .skip (.exit 0))
def p5_25 : PC := (.loop (.seq (.seq (.reg (om 51 3 :: oo 52 (.fa 17 (.t 1)) :: oo 53 (.ld1 (.t 52)) :: oo 54 (.len .slice (.t 53)) :: oo 55 (.bin .lss .other false (.t 51) (.t 54)) :: [])) p5_12) p5_23))
def p5_73 : PC := (.seq (.seq (.reg (oo 3 (.mv (.c (.int .i64 0))) :: [])) (.block 0 p5_25)) p5_72)
def p5_3 : PC := .ret
def p5_6 : PC := (.cond (.t 50) (.seq (.reg (oo 2 (.mv (.c (.bool true))) :: [])) p5_3) .skip)
def p5_75 : PC := (.seq (.reg (oo 1 (.box (.t 0)) :: oo 2 (.mv (.c (.bool false))) :: [])) (.seq (.seq (.reg (oo 6 (.fa 0 (.t 1)) :: oo 7 (.ld1 (.t 6)) :: oo 8 (.len .slice (.t 7)) :: oo 9 (.bin .gtr .other true (.t 8) (.c (.int .i64 20))) :: om 10 9 :: ⟨some 11, .op (.fa 1 (.t 1)), some (10, false)⟩ :: ⟨some 12, .op (.ld1 (.t 11)), some (10, false)⟩ :: ⟨some 13, .op (.len .slice (.t 12)), some (10, false)⟩ :: ⟨some 14, .op (.bin .gtr .other true (.t 13) (.c (.int .i64 10))), some (10, false)⟩ :: oo 15 (.pick (.t 10) (.c (.bool true)) (.t 14)) :: om 16 15 :: ⟨some 17, .op (.fa 2 (.t 1)), some (16, false)⟩ :: ⟨some 18, .op (.ld1 (.t 17)), some (16, false)⟩ :: ⟨some 19, .op (.len .slice (.t 18)), some (16, false)⟩ :: ⟨some 20, .op (.bin .gtr .other true (.t 19) (.c (.int .i64 60))), some (16, false)⟩ :: oo 21 (.pick (.t 16) (.c (.bool true)) (.t 20)) :: om 22 21 :: ⟨some 23, .op (.fa 17 (.t 1)), some (22, false)⟩ :: ⟨some 24, .op (.ld1 (.t 23)), some (22, false)⟩ :: ⟨some 25, .op (.len .slice (.t 24)), some (22, false)⟩ :: ⟨some 26, .op (.bin .gtr .other true (.t 25) (.c (.int .i64 20))), some (22, false)⟩ :: oo 27 (.pick (.t 22) (.c (.bool true)) (.t 26)) :: om 28 27 :: ⟨some 29, .op (.fa 18 (.t 1)), some (28, false)⟩ :: ⟨some 30, .op (.ld1 (.t 29)), some (28, false)⟩ :: ⟨some 31, .op (.len .slice (.t 30)), some (28, false)⟩ :: ⟨some 32, .op (.bin .gtr .other true (.t 31) (.c (.int .i64 40))), some (28, false)⟩ :: oo 33 (.pick (.t 28) (.c (.bool true)) (.t 32)) :: om 34 33 :: ⟨some 35, .op (.fa 19 (.t 1)), some (34, false)⟩ :: ⟨some 36, .op (.ld1 (.t 35)), some (34, false)⟩ :: ⟨some 37, .op (.len .slice (.t 36)), some (34, false)⟩ :: ⟨some 38, .op (.bin .gtr .other true (.t 37) (.c (.int .i64 150))), some (34, false)⟩ :: oo 39 (.pick (.t 34) (.c (.bool true)) (.t 38)) :: om 40 39 :: ⟨some 41, .op (.fa 20 (.t 1)), some (40, false)⟩ :: ⟨some 42, .op (.ld1 (.t 41)), some (40, false)⟩ :: ⟨some 43, .call 16 [.t 42], some (40, false)⟩ :: oo 44 (.pick (.t 40) (.c (.bool true)) (.t 43)) :: om 45 44 :: ⟨some 46, .op (.fa 21 (.t 1)), some (45, false)⟩ :: ⟨some 47, .op (.ld1 (.t 46)), some (45, false)⟩ :: ⟨some 48, .op (.len .slice (.t 47)), some (45, false)⟩ :: ⟨some 49, .op (.bin .gtr .other true (.t 48) (.c (.int .i64 100))), some (45, false)⟩ :: oo 50 (.pick (.t 45) (.c (.bool true)) (.t 49)) :: [])) p5_6) p5_73))
theorem fn5 : FnOk Tryz.prog 5 p5_75 102 [.t 2] := ⟨false, Tryz.f5, _, Tryz.func5, by decide, rfl, by kernel_rfl, rfl, by kernel_rfl⟩
def L_r25_Great_3 (N : Nat) (a1 : ApiBooks) : Nat → Int → Option (Br (Bool) (Unit))
  | 0, _ => none
  | m3 + 1, v3_0 =>
    bif decide (v3_0 < (a1.Calendars_.length : Int)) then
    ((getI a1.Calendars_ v3_0).bind fun y25 =>
    bif decide (400 < (y25.Holidays_.length : Int)) then
    (some (.ret true))
    else
    ((getI a1.Calendars_ v3_0).bind fun y27 =>
    bif decide (20 < (y27.Weekend_.length : Int)) then
    (some (.ret true))
    else
    ((L_r25_Great_3 N a1 m3) (IntKind.wrap .i64 (v3_0 + 1)))))
    else
    (some (.brk ()))
def K_r25_Great_3 (N : Nat)  : Br (Bool) (Unit) → Option (Bool)
  | .ret r => some r
  | .brk _ =>
    some false
def L_r25_Great_2 (N : Nat) (a1 : ApiBooks) : Nat → Int → Option (Br (Bool) (Unit))
  | 0, _ => none
  | m2 + 1, v2_0 =>
    bif decide (v2_0 < (a1.Journal_.length : Int)) then
    ((getI a1.Journal_ v2_0).bind fun y30 =>
    (F_r19_Great N y30).bind fun r31 =>
    bif r31 then
    (some (.ret true))
    else
    ((L_r25_Great_2 N a1 m2) (IntKind.wrap .i64 (v2_0 + 1))))
    else
    (some (.brk ()))
def K_r25_Great_2 (N : Nat) (a1 : ApiBooks) : Br (Bool) (Unit) → Option (Bool)
  | .ret r => some r
  | .brk _ =>
    (L_r25_Great_3 N a1 N 0).bind (K_r25_Great_3 N)
def L_r25_Great_1 (N : Nat) (a1 : ApiBooks) : Nat → Int → Option (Br (Bool) (Unit))
  | 0, _ => none
  | m1 + 1, v1_0 =>
    bif decide (v1_0 < (a1.Products_.length : Int)) then
    ((getI a1.Products_ v1_0).bind fun y34 =>
    (F_r16_Great N y34).bind fun r35 =>
    bif r35 then
    (some (.ret true))
    else
    ((L_r25_Great_1 N a1 m1) (IntKind.wrap .i64 (v1_0 + 1))))
    else
    (some (.brk ()))
def K_r25_Great_1 (N : Nat) (a1 : ApiBooks) : Br (Bool) (Unit) → Option (Bool)
  | .ret r => some r
  | .brk _ =>
    (L_r25_Great_2 N a1 N 0).bind (K_r25_Great_2 N a1)
def F_r25_Great  (N : Nat) (a1 : ApiBooks) : Option (Bool) :=
      bif decide (20 < (a1.Currencies_.length : Int)) then
    (some true)
    else
    (bif decide (10 < (a1.Calendars_.length : Int)) then
    (some true)
    else
    (bif decide (60 < (a1.Chart_.length : Int)) then
    (some true)
    else
    (bif decide (20 < (a1.Products_.length : Int)) then
    (some true)
    else
    (bif decide (40 < (a1.Accounts_.length : Int)) then
    (some true)
    else
    (bif decide (150 < (a1.Journal_.length : Int)) then
    (some true)
    else
    ((F_r22_Great N a1.Holds_).bind fun r8 =>
    bif r8 then
    (some true)
    else
    (bif decide (100 < (a1.Blocks_.length : Int)) then
    (some true)
    else
    ((L_r25_Great_1 N a1 N 0).bind (K_r25_Great_1 N a1)))))))))
theorem P_r25_Great  {N : Nat} {a1 : ApiBooks} {r : Bool} (h : F_r25_Great N a1 = some r) : Pure Tryz.prog (Gl.at 0) 5 [(ApiBooks.v a1)] (.bool r) := by
  refine pure_run fn5 ?_
  rw [F_r25_Great] at h
  replace h := bs h
  change GG [.t 2] _ [.pc p5_75] (mk 102 [(0, (ApiBooks.v a1))]) []
  refine go_if h (fun hb2 h => ?_) (fun hb2 h => ?_)
  · refine gx mo [.pc p5_3, .pc p5_73] 102 [(2, (.bool true))] [.row 22 [(ApiBooks.v a1)]] 59 [tw 4 (E_len [.row 22 [(ApiBooks.v a1)]] a1.Currencies_ ApiCurrency.v), twb 5 [.row 22 [(ApiBooks.v a1)]] (.bin .gtr .other true (.c (i64 (a1.Currencies_.length : Int))) (.c (i64 20))) (decide (20 < (a1.Currencies_.length : Int))) true hb2] ?_
    obtain rfl := Option.some.inj h
    exact gf (.bool true) (.same rfl)
  · refine go_if h (fun hb3 h => ?_) (fun hb3 h => ?_)
    · refine gx mo [.pc p5_3, .pc p5_73] 102 [(2, (.bool true))] [.row 22 [(ApiBooks.v a1)]] 59 [tw 4 (E_len [.row 22 [(ApiBooks.v a1)]] a1.Currencies_ ApiCurrency.v), twb 5 [.row 22 [(ApiBooks.v a1)]] (.bin .gtr .other true (.c (i64 (a1.Currencies_.length : Int))) (.c (i64 20))) (decide (20 < (a1.Currencies_.length : Int))) false hb2, tw 9 (E_len [.row 22 [(ApiBooks.v a1)]] a1.Calendars_ ApiCalendar.v), twb 11 [.row 22 [(ApiBooks.v a1)]] (.pick (.c (.bool false)) (.c (.bool true)) (.c (.bool (decide (10 < (a1.Calendars_.length : Int)))))) (decide (10 < (a1.Calendars_.length : Int))) true hb3] ?_
      obtain rfl := Option.some.inj h
      exact gf (.bool true) (.same rfl)
    · refine go_if h (fun hb4 h => ?_) (fun hb4 h => ?_)
      · refine gx mo [.pc p5_3, .pc p5_73] 102 [(2, (.bool true))] [.row 22 [(ApiBooks.v a1)]] 59 [tw 4 (E_len [.row 22 [(ApiBooks.v a1)]] a1.Currencies_ ApiCurrency.v), twb 5 [.row 22 [(ApiBooks.v a1)]] (.bin .gtr .other true (.c (i64 (a1.Currencies_.length : Int))) (.c (i64 20))) (decide (20 < (a1.Currencies_.length : Int))) false hb2, tw 9 (E_len [.row 22 [(ApiBooks.v a1)]] a1.Calendars_ ApiCalendar.v), twb 11 [.row 22 [(ApiBooks.v a1)]] (.pick (.c (.bool false)) (.c (.bool true)) (.c (.bool (decide (10 < (a1.Calendars_.length : Int)))))) (decide (10 < (a1.Calendars_.length : Int))) false hb3, tw 15 (E_len [.row 22 [(ApiBooks.v a1)]] a1.Chart_ ApiGl.v), twb 17 [.row 22 [(ApiBooks.v a1)]] (.pick (.c (.bool false)) (.c (.bool true)) (.c (.bool (decide (60 < (a1.Chart_.length : Int)))))) (decide (60 < (a1.Chart_.length : Int))) true hb4] ?_
        obtain rfl := Option.some.inj h
        exact gf (.bool true) (.same rfl)
      · refine go_if h (fun hb5 h => ?_) (fun hb5 h => ?_)
        · refine gx mo [.pc p5_3, .pc p5_73] 102 [(2, (.bool true))] [.row 22 [(ApiBooks.v a1)]] 59 [tw 4 (E_len [.row 22 [(ApiBooks.v a1)]] a1.Currencies_ ApiCurrency.v), twb 5 [.row 22 [(ApiBooks.v a1)]] (.bin .gtr .other true (.c (i64 (a1.Currencies_.length : Int))) (.c (i64 20))) (decide (20 < (a1.Currencies_.length : Int))) false hb2, tw 9 (E_len [.row 22 [(ApiBooks.v a1)]] a1.Calendars_ ApiCalendar.v), twb 11 [.row 22 [(ApiBooks.v a1)]] (.pick (.c (.bool false)) (.c (.bool true)) (.c (.bool (decide (10 < (a1.Calendars_.length : Int)))))) (decide (10 < (a1.Calendars_.length : Int))) false hb3, tw 15 (E_len [.row 22 [(ApiBooks.v a1)]] a1.Chart_ ApiGl.v), twb 17 [.row 22 [(ApiBooks.v a1)]] (.pick (.c (.bool false)) (.c (.bool true)) (.c (.bool (decide (60 < (a1.Chart_.length : Int)))))) (decide (60 < (a1.Chart_.length : Int))) false hb4, tw 21 (E_len [.row 22 [(ApiBooks.v a1)]] a1.Products_ ApiProduct.v), twb 23 [.row 22 [(ApiBooks.v a1)]] (.pick (.c (.bool false)) (.c (.bool true)) (.c (.bool (decide (20 < (a1.Products_.length : Int)))))) (decide (20 < (a1.Products_.length : Int))) true hb5] ?_
          obtain rfl := Option.some.inj h
          exact gf (.bool true) (.same rfl)
        · refine go_if h (fun hb6 h => ?_) (fun hb6 h => ?_)
          · refine gx mo [.pc p5_3, .pc p5_73] 102 [(2, (.bool true))] [.row 22 [(ApiBooks.v a1)]] 59 [tw 4 (E_len [.row 22 [(ApiBooks.v a1)]] a1.Currencies_ ApiCurrency.v), twb 5 [.row 22 [(ApiBooks.v a1)]] (.bin .gtr .other true (.c (i64 (a1.Currencies_.length : Int))) (.c (i64 20))) (decide (20 < (a1.Currencies_.length : Int))) false hb2, tw 9 (E_len [.row 22 [(ApiBooks.v a1)]] a1.Calendars_ ApiCalendar.v), twb 11 [.row 22 [(ApiBooks.v a1)]] (.pick (.c (.bool false)) (.c (.bool true)) (.c (.bool (decide (10 < (a1.Calendars_.length : Int)))))) (decide (10 < (a1.Calendars_.length : Int))) false hb3, tw 15 (E_len [.row 22 [(ApiBooks.v a1)]] a1.Chart_ ApiGl.v), twb 17 [.row 22 [(ApiBooks.v a1)]] (.pick (.c (.bool false)) (.c (.bool true)) (.c (.bool (decide (60 < (a1.Chart_.length : Int)))))) (decide (60 < (a1.Chart_.length : Int))) false hb4, tw 21 (E_len [.row 22 [(ApiBooks.v a1)]] a1.Products_ ApiProduct.v), twb 23 [.row 22 [(ApiBooks.v a1)]] (.pick (.c (.bool false)) (.c (.bool true)) (.c (.bool (decide (20 < (a1.Products_.length : Int)))))) (decide (20 < (a1.Products_.length : Int))) false hb5, tw 27 (E_len [.row 22 [(ApiBooks.v a1)]] a1.Accounts_ ApiAccount.v), twb 29 [.row 22 [(ApiBooks.v a1)]] (.pick (.c (.bool false)) (.c (.bool true)) (.c (.bool (decide (40 < (a1.Accounts_.length : Int)))))) (decide (40 < (a1.Accounts_.length : Int))) true hb6] ?_
            obtain rfl := Option.some.inj h
            exact gf (.bool true) (.same rfl)
          · refine go_if h (fun hb7 h => ?_) (fun hb7 h => ?_)
            · refine gx mo [.pc p5_3, .pc p5_73] 102 [(2, (.bool true))] [.row 22 [(ApiBooks.v a1)]] 59 [tw 4 (E_len [.row 22 [(ApiBooks.v a1)]] a1.Currencies_ ApiCurrency.v), twb 5 [.row 22 [(ApiBooks.v a1)]] (.bin .gtr .other true (.c (i64 (a1.Currencies_.length : Int))) (.c (i64 20))) (decide (20 < (a1.Currencies_.length : Int))) false hb2, tw 9 (E_len [.row 22 [(ApiBooks.v a1)]] a1.Calendars_ ApiCalendar.v), twb 11 [.row 22 [(ApiBooks.v a1)]] (.pick (.c (.bool false)) (.c (.bool true)) (.c (.bool (decide (10 < (a1.Calendars_.length : Int)))))) (decide (10 < (a1.Calendars_.length : Int))) false hb3, tw 15 (E_len [.row 22 [(ApiBooks.v a1)]] a1.Chart_ ApiGl.v), twb 17 [.row 22 [(ApiBooks.v a1)]] (.pick (.c (.bool false)) (.c (.bool true)) (.c (.bool (decide (60 < (a1.Chart_.length : Int)))))) (decide (60 < (a1.Chart_.length : Int))) false hb4, tw 21 (E_len [.row 22 [(ApiBooks.v a1)]] a1.Products_ ApiProduct.v), twb 23 [.row 22 [(ApiBooks.v a1)]] (.pick (.c (.bool false)) (.c (.bool true)) (.c (.bool (decide (20 < (a1.Products_.length : Int)))))) (decide (20 < (a1.Products_.length : Int))) false hb5, tw 27 (E_len [.row 22 [(ApiBooks.v a1)]] a1.Accounts_ ApiAccount.v), twb 29 [.row 22 [(ApiBooks.v a1)]] (.pick (.c (.bool false)) (.c (.bool true)) (.c (.bool (decide (40 < (a1.Accounts_.length : Int)))))) (decide (40 < (a1.Accounts_.length : Int))) false hb6, tw 33 (E_len [.row 22 [(ApiBooks.v a1)]] a1.Journal_ ApiEntry.v), twb 35 [.row 22 [(ApiBooks.v a1)]] (.pick (.c (.bool false)) (.c (.bool true)) (.c (.bool (decide (150 < (a1.Journal_.length : Int)))))) (decide (150 < (a1.Journal_.length : Int))) true hb7] ?_
              obtain rfl := Option.some.inj h
              exact gf (.bool true) (.same rfl)
            · refine go_bind h (fun r8 hr8 h => ?_)
              refine go_if h (fun hb9 h => ?_) (fun hb9 h => ?_)
              · refine gx mo [.pc p5_3, .pc p5_73] 102 [(2, (.bool true))] [.row 22 [(ApiBooks.v a1)]] 59 [tw 4 (E_len [.row 22 [(ApiBooks.v a1)]] a1.Currencies_ ApiCurrency.v), twb 5 [.row 22 [(ApiBooks.v a1)]] (.bin .gtr .other true (.c (i64 (a1.Currencies_.length : Int))) (.c (i64 20))) (decide (20 < (a1.Currencies_.length : Int))) false hb2, tw 9 (E_len [.row 22 [(ApiBooks.v a1)]] a1.Calendars_ ApiCalendar.v), twb 11 [.row 22 [(ApiBooks.v a1)]] (.pick (.c (.bool false)) (.c (.bool true)) (.c (.bool (decide (10 < (a1.Calendars_.length : Int)))))) (decide (10 < (a1.Calendars_.length : Int))) false hb3, tw 15 (E_len [.row 22 [(ApiBooks.v a1)]] a1.Chart_ ApiGl.v), twb 17 [.row 22 [(ApiBooks.v a1)]] (.pick (.c (.bool false)) (.c (.bool true)) (.c (.bool (decide (60 < (a1.Chart_.length : Int)))))) (decide (60 < (a1.Chart_.length : Int))) false hb4, tw 21 (E_len [.row 22 [(ApiBooks.v a1)]] a1.Products_ ApiProduct.v), twb 23 [.row 22 [(ApiBooks.v a1)]] (.pick (.c (.bool false)) (.c (.bool true)) (.c (.bool (decide (20 < (a1.Products_.length : Int)))))) (decide (20 < (a1.Products_.length : Int))) false hb5, tw 27 (E_len [.row 22 [(ApiBooks.v a1)]] a1.Accounts_ ApiAccount.v), twb 29 [.row 22 [(ApiBooks.v a1)]] (.pick (.c (.bool false)) (.c (.bool true)) (.c (.bool (decide (40 < (a1.Accounts_.length : Int)))))) (decide (40 < (a1.Accounts_.length : Int))) false hb6, tw 33 (E_len [.row 22 [(ApiBooks.v a1)]] a1.Journal_ ApiEntry.v), twb 35 [.row 22 [(ApiBooks.v a1)]] (.pick (.c (.bool false)) (.c (.bool true)) (.c (.bool (decide (150 < (a1.Journal_.length : Int)))))) (decide (150 < (a1.Journal_.length : Int))) false hb7, tc 39 [.row 22 [(ApiBooks.v a1)]] (P_r22_Great hr8) (fs fl_nil), twb 40 [.row 22 [(ApiBooks.v a1)]] (.pick (.c (.bool false)) (.c (.bool true)) (.c (.bool r8))) (r8) true hb9] ?_
                obtain rfl := Option.some.inj h
                exact gf (.bool true) (.same rfl)
              · refine gx mo [.pc p5_6, .pc p5_73] 102 [(1, (.ref 0 0 0)), (50, (.bool (decide (100 < (a1.Blocks_.length : Int)))))] [.row 22 [(ApiBooks.v a1)]] 54 [tw 4 (E_len [.row 22 [(ApiBooks.v a1)]] a1.Currencies_ ApiCurrency.v), twb 5 [.row 22 [(ApiBooks.v a1)]] (.bin .gtr .other true (.c (i64 (a1.Currencies_.length : Int))) (.c (i64 20))) (decide (20 < (a1.Currencies_.length : Int))) false hb2, tw 9 (E_len [.row 22 [(ApiBooks.v a1)]] a1.Calendars_ ApiCalendar.v), twb 11 [.row 22 [(ApiBooks.v a1)]] (.pick (.c (.bool false)) (.c (.bool true)) (.c (.bool (decide (10 < (a1.Calendars_.length : Int)))))) (decide (10 < (a1.Calendars_.length : Int))) false hb3, tw 15 (E_len [.row 22 [(ApiBooks.v a1)]] a1.Chart_ ApiGl.v), twb 17 [.row 22 [(ApiBooks.v a1)]] (.pick (.c (.bool false)) (.c (.bool true)) (.c (.bool (decide (60 < (a1.Chart_.length : Int)))))) (decide (60 < (a1.Chart_.length : Int))) false hb4, tw 21 (E_len [.row 22 [(ApiBooks.v a1)]] a1.Products_ ApiProduct.v), twb 23 [.row 22 [(ApiBooks.v a1)]] (.pick (.c (.bool false)) (.c (.bool true)) (.c (.bool (decide (20 < (a1.Products_.length : Int)))))) (decide (20 < (a1.Products_.length : Int))) false hb5, tw 27 (E_len [.row 22 [(ApiBooks.v a1)]] a1.Accounts_ ApiAccount.v), twb 29 [.row 22 [(ApiBooks.v a1)]] (.pick (.c (.bool false)) (.c (.bool true)) (.c (.bool (decide (40 < (a1.Accounts_.length : Int)))))) (decide (40 < (a1.Accounts_.length : Int))) false hb6, tw 33 (E_len [.row 22 [(ApiBooks.v a1)]] a1.Journal_ ApiEntry.v), twb 35 [.row 22 [(ApiBooks.v a1)]] (.pick (.c (.bool false)) (.c (.bool true)) (.c (.bool (decide (150 < (a1.Journal_.length : Int)))))) (decide (150 < (a1.Journal_.length : Int))) false hb7, tc 39 [.row 22 [(ApiBooks.v a1)]] (P_r22_Great hr8) (fs fl_nil), twb 40 [.row 22 [(ApiBooks.v a1)]] (.pick (.c (.bool false)) (.c (.bool true)) (.c (.bool r8))) (r8) false hb9, tw 44 (E_len [.row 22 [(ApiBooks.v a1)]] a1.Blocks_ ApiBlock.v)] ?_
                refine go_if h (fun hb10 h => ?_) (fun hb10 h => ?_)
                · rw [hb10]
                  refine gx mo [.pc p5_3, .pc p5_73] 102 [(2, (.bool true))] [.row 22 [(ApiBooks.v a1)]] 5 [] ?_
                  obtain rfl := Option.some.inj h
                  exact gf (.bool true) (.same rfl)
                · rw [hb10]
                  refine gx mo [.pc p5_25, .blk 0, .pc p5_72] 102 [(1, (.ref 0 0 0)), (3, (i64 0))] [.row 22 [(ApiBooks.v a1)]] 8 [] ?_
                  refine go_cut (X := Unit) (fun x => (K_r25_Great_1 N a1 (.brk x)).bind some = some r) ([.pc p5_72]) (fun x => (mk 102 [(1, (.ref 0 0 0))])) (fun x => [.row 22 [(ApiBooks.v a1)]]) ?_ fun kont1_0 => ?_
                  · rintro _ h
                    rw [K_r25_Great_1] at h
                    refine gx mo [.pc p5_45, .blk 2, .pc p5_71] 102 [(1, (.ref 0 0 0)), (4, (i64 0))] [.row 22 [(ApiBooks.v a1)]] 6 [] ?_
                    refine go_cut (X := Unit) (fun x => (K_r25_Great_2 N a1 (.brk x)).bind some = some r) ([.pc p5_71]) (fun x => (mk 102 [(1, (.ref 0 0 0))])) (fun x => [.row 22 [(ApiBooks.v a1)]]) ?_ fun kont2_0 => ?_
                    · rintro _ h
                      rw [K_r25_Great_2] at h
                      refine gx mo [.pc p5_65, .blk 4, .pc p5_70] 102 [(1, (.ref 0 0 0)), (5, (i64 0))] [.row 22 [(ApiBooks.v a1)]] 6 [] ?_
                      refine go_cut (X := Unit) (fun x => (K_r25_Great_3 N (.brk x)).bind some = some r) ([.pc p5_70]) (fun x => (mk 102 [])) (fun x => []) ?_ fun kont3_0 => ?_
                      · rintro _ h
                        rw [K_r25_Great_3] at h
                        refine gx mo [.pc p5_69] 102 [(2, (.bool false))] [] 4 [] ?_
                        obtain rfl := Option.some.inj h
                        exact gf (.bool false) (.same rfl)
                      refine go_loop' (fun m t s => ∃ (v3_0 : Int), (L_r25_Great_3 N a1 m v3_0).bind (fun q => (K_r25_Great_3 N q).bind some) = some r ∧ t = (mk 102 [(1, (.ref 0 0 0)), (5, (i64 v3_0))]) ∧ s = [.row 22 [(ApiBooks.v a1)]]) N ⟨0, go_assoc h, rfl, rfl⟩ ?_
                      intro m3 J3 hJ3 t s
                      rintro ⟨v3_0, h, rfl, rfl⟩
                      cases m3 with
                      | zero => exact absurd h (by simp [L_r25_Great_3])
                      | succ m3 =>
                        rw [L_r25_Great_3] at h
                        refine gx mo [.pc p5_52, .pc p5_63, .jp J3, .blk 4, .pc p5_70] 102 [(1, (.ref 0 0 0)), (5, (i64 v3_0)), (81, (.bool (decide (v3_0 < (a1.Calendars_.length : Int)))))] [.row 22 [(ApiBooks.v a1)]] 9 [tw 3 (E_len [.row 22 [(ApiBooks.v a1)]] a1.Calendars_ ApiCalendar.v)] ?_
                        refine go_if h (fun hb24 h => ?_) (fun hb24 h => ?_)
                        · rw [hb24]
                          refine go_bind h (fun y25 hy25 h => ?_)
                          refine go_if h (fun hb26 h => ?_) (fun hb26 h => ?_)
                          · refine gx mo [.pc p5_56, .blk 5, .pc p5_62, .jp J3, .blk 4, .pc p5_70] 102 [(2, (.bool true))] [.row 22 [(ApiBooks.v a1)]] 30 [tw 4 (E_ia [.row 22 [(ApiBooks.v a1)]] ApiCalendar.v .i64 hy25), tw 7 (E_len [.row 22 [(ApiBooks.v a1)]] y25.Holidays_ i64), twb 8 [.row 22 [(ApiBooks.v a1)]] (.bin .gtr .other true (.c (i64 (y25.Holidays_.length : Int))) (.c (i64 400))) (decide (400 < (y25.Holidays_.length : Int))) true hb26] ?_
                            obtain rfl := Option.some.inj h
                            exact gf (.bool true) (.same rfl)
                          · refine go_bind h (fun y27 hy27 h => ?_)
                            refine gx mo [.pc p5_59, .blk 5, .pc p5_62, .jp J3, .blk 4, .pc p5_70] 102 [(1, (.ref 0 0 0)), (5, (i64 v3_0)), (101, (.bool (decide (20 < (y27.Weekend_.length : Int)))))] [.row 22 [(ApiBooks.v a1)]] 25 [tw 4 (E_ia [.row 22 [(ApiBooks.v a1)]] ApiCalendar.v .i64 hy25), tw 7 (E_len [.row 22 [(ApiBooks.v a1)]] y25.Holidays_ i64), twb 8 [.row 22 [(ApiBooks.v a1)]] (.bin .gtr .other true (.c (i64 (y25.Holidays_.length : Int))) (.c (i64 400))) (decide (400 < (y25.Holidays_.length : Int))) false hb26, tw 13 (E_ia [.row 22 [(ApiBooks.v a1)]] ApiCalendar.v .i64 hy27), tw 16 (E_len [.row 22 [(ApiBooks.v a1)]] y27.Weekend_ i64)] ?_
                            refine go_if h (fun hb28 h => ?_) (fun hb28 h => ?_)
                            · rw [hb28]
                              refine gx mo [.pc p5_56, .blk 5, .pc p5_62, .jp J3, .blk 4, .pc p5_70] 102 [(2, (.bool true))] [.row 22 [(ApiBooks.v a1)]] 5 [] ?_
                              obtain rfl := Option.some.inj h
                              exact gf (.bool true) (.same rfl)
                            · rw [hb28]
                              refine gx mo [.jp J3, .blk 4, .pc p5_70] 102 [(1, (.ref 0 0 0)), (5, (i64 (IntKind.wrap .i64 (v3_0 + 1))))] [.row 22 [(ApiBooks.v a1)]] 8 [] ?_
                              exact go_back rfl (hJ3 m3 _ _ (Nat.lt_succ_self m3) ⟨IntKind.wrap .i64 (v3_0 + 1), h, rfl, rfl⟩)
                        · rw [hb24]
                          refine gx mo [.pc p5_70] 102 [] [.row 22 [(ApiBooks.v a1)]] 2 [] ?_
                          refine go_pick [] [] [] (t' := (mk 102 [])) (s' := []) (by kernel_rfl) trivial rfl ?_
                          exact kont3_0 () h
                    refine go_loop' (fun m t s => ∃ (v2_0 : Int), (L_r25_Great_2 N a1 m v2_0).bind (fun q => (K_r25_Great_2 N a1 q).bind some) = some r ∧ t = (mk 102 [(1, (.ref 0 0 0)), (4, (i64 v2_0))]) ∧ s = [.row 22 [(ApiBooks.v a1)]]) N ⟨0, go_assoc h, rfl, rfl⟩ ?_
                    intro m2 J2 hJ2 t s
                    rintro ⟨v2_0, h, rfl, rfl⟩
                    cases m2 with
                    | zero => exact absurd h (by simp [L_r25_Great_2])
                    | succ m2 =>
                      rw [L_r25_Great_2] at h
                      refine gx mo [.pc p5_32, .pc p5_43, .jp J2, .blk 2, .pc p5_71] 102 [(1, (.ref 0 0 0)), (4, (i64 v2_0)), (68, (.bool (decide (v2_0 < (a1.Journal_.length : Int)))))] [.row 22 [(ApiBooks.v a1)]] 9 [tw 3 (E_len [.row 22 [(ApiBooks.v a1)]] a1.Journal_ ApiEntry.v)] ?_
                      refine go_if h (fun hb29 h => ?_) (fun hb29 h => ?_)
                      · rw [hb29]
                        refine go_bind h (fun y30 hy30 h => ?_)
                        refine go_bind h (fun r31 hr31 h => ?_)
                        refine gx mo [.pc p5_39, .blk 3, .pc p5_42, .jp J2, .blk 2, .pc p5_71] 102 [(1, (.ref 0 0 0)), (4, (i64 v2_0)), (76, (.bool r31))] [.row 22 [(ApiBooks.v a1)]] 13 [tw 4 (E_ia [.row 22 [(ApiBooks.v a1)]] ApiEntry.v .i64 hy30), tc 6 [.row 22 [(ApiBooks.v a1)]] (P_r19_Great hr31) (fg fl_nil)] ?_
                        refine go_if h (fun hb32 h => ?_) (fun hb32 h => ?_)
                        · rw [hb32]
                          refine gx mo [.pc p5_36, .blk 3, .pc p5_42, .jp J2, .blk 2, .pc p5_71] 102 [(2, (.bool true))] [.row 22 [(ApiBooks.v a1)]] 5 [] ?_
                          obtain rfl := Option.some.inj h
                          exact gf (.bool true) (.same rfl)
                        · rw [hb32]
                          refine gx mo [.jp J2, .blk 2, .pc p5_71] 102 [(1, (.ref 0 0 0)), (4, (i64 (IntKind.wrap .i64 (v2_0 + 1))))] [.row 22 [(ApiBooks.v a1)]] 8 [] ?_
                          exact go_back rfl (hJ2 m2 _ _ (Nat.lt_succ_self m2) ⟨IntKind.wrap .i64 (v2_0 + 1), h, rfl, rfl⟩)
                      · rw [hb29]
                        refine gx mo [.pc p5_71] 102 [(1, (.ref 0 0 0))] [.row 22 [(ApiBooks.v a1)]] 2 [] ?_
                        exact kont2_0 () h
                  refine go_loop' (fun m t s => ∃ (v1_0 : Int), (L_r25_Great_1 N a1 m v1_0).bind (fun q => (K_r25_Great_1 N a1 q).bind some) = some r ∧ t = (mk 102 [(1, (.ref 0 0 0)), (3, (i64 v1_0))]) ∧ s = [.row 22 [(ApiBooks.v a1)]]) N ⟨0, go_assoc h, rfl, rfl⟩ ?_
                  intro m1 J1 hJ1 t s
                  rintro ⟨v1_0, h, rfl, rfl⟩
                  cases m1 with
                  | zero => exact absurd h (by simp [L_r25_Great_1])
                  | succ m1 =>
                    rw [L_r25_Great_1] at h
                    refine gx mo [.pc p5_12, .pc p5_23, .jp J1, .blk 0, .pc p5_72] 102 [(1, (.ref 0 0 0)), (3, (i64 v1_0)), (55, (.bool (decide (v1_0 < (a1.Products_.length : Int)))))] [.row 22 [(ApiBooks.v a1)]] 9 [tw 3 (E_len [.row 22 [(ApiBooks.v a1)]] a1.Products_ ApiProduct.v)] ?_
                    refine go_if h (fun hb33 h => ?_) (fun hb33 h => ?_)
                    · rw [hb33]
                      refine go_bind h (fun y34 hy34 h => ?_)
                      refine go_bind h (fun r35 hr35 h => ?_)
                      refine gx mo [.pc p5_19, .blk 1, .pc p5_22, .jp J1, .blk 0, .pc p5_72] 102 [(1, (.ref 0 0 0)), (3, (i64 v1_0)), (63, (.bool r35))] [.row 22 [(ApiBooks.v a1)]] 13 [tw 4 (E_ia [.row 22 [(ApiBooks.v a1)]] ApiProduct.v .i64 hy34), tc 6 [.row 22 [(ApiBooks.v a1)]] (P_r16_Great hr35) (fg fl_nil)] ?_
                      refine go_if h (fun hb36 h => ?_) (fun hb36 h => ?_)
                      · rw [hb36]
                        refine gx mo [.pc p5_16, .blk 1, .pc p5_22, .jp J1, .blk 0, .pc p5_72] 102 [(2, (.bool true))] [.row 22 [(ApiBooks.v a1)]] 5 [] ?_
                        obtain rfl := Option.some.inj h
                        exact gf (.bool true) (.same rfl)
                      · rw [hb36]
                        refine gx mo [.jp J1, .blk 0, .pc p5_72] 102 [(1, (.ref 0 0 0)), (3, (i64 (IntKind.wrap .i64 (v1_0 + 1))))] [.row 22 [(ApiBooks.v a1)]] 8 [] ?_
                        exact go_back rfl (hJ1 m1 _ _ (Nat.lt_succ_self m1) ⟨IntKind.wrap .i64 (v1_0 + 1), h, rfl, rfl⟩)
                    · rw [hb33]
                      refine gx mo [.pc p5_72] 102 [(1, (.ref 0 0 0))] [.row 22 [(ApiBooks.v a1)]] 2 [] ?_
                      exact kont1_0 () h
/-! corebank/account.index$1 -/
def p80_2 : PC := .ret
def p80_4 : PC := (.seq (.reg (oo 2 (.box (.t 0)) :: oo 3 (.mv (.c (.bool false))) :: [])) (.seq (.reg (oo 4 (.fa 0 (.t 2)) :: oo 5 (.ld1 (.t 4)) :: oo 6 (.ld1 (.t 1)) :: oo 7 (.bin .eql .other false (.t 5) (.t 6)) :: om 3 7 :: [])) p80_2))
theorem fn80 : FnOk Tryz.prog 80 p80_4 8 [.t 3] := ⟨false, Tryz.f80, _, Tryz.func80, by decide, rfl, by kernel_rfl, rfl, by kernel_rfl⟩
def F_account_index_c1_vb45  (N : Nat) (a1 : ApiAccount) (a2 : Int) : Option (Bool) :=
      some (decide (a1.Id_ = a2))
theorem P_account_index_c1_vb45  {N : Nat} {a1 : ApiAccount} {a2 : Int} {r : Bool} (h : F_account_index_c1_vb45 N a1 a2 = some r) : Pure Tryz.prog (Gl.at 0) 80 [(ApiAccount.v a1), (.imm [(i64 a2)] 0)] (.bool r) := by
  refine pure_run fn80 ?_
  rw [F_account_index_c1_vb45] at h
  replace h := bs h
  change GG [.t 3] _ [.pc p80_4] (mk 8 [(0, (ApiAccount.v a1)), (1, (.imm [(i64 a2)] 0))]) []
  refine gx mo [.pc p80_2] 8 [(3, (.bool (decide (a1.Id_ = a2))))] [.row 7 [(ApiAccount.v a1)]] 13 [] ?_
  obtain rfl := Option.some.inj h
  exact gf (.bool (decide (a1.Id_ = a2))) (.same rfl)
/-! slices.IndexFunc[[]corebank/api.Account,corebank/api.Account] -/
def p79_24 : PC := .ret
def p79_25 : PC := (.seq (.reg (oo 4 (.mv (.c (.int .i64 (-1)))) :: [])) p79_24)
def p79_16 : PC := (.reg (oo 18 (.bin .add .other true (.t 8) (.c (.int .i64 1))) :: om 8 18 :: []))
def p79_9 : PC := .ret
def p79_12 : PC := (.cond (.t 16) (.seq (.reg (om 17 5 :: om 4 17 :: [])) p79_9) .skip)
def p79_17 : PC := (.seq (.block 1 (.seq (.reg (om 10 8 :: om 5 10 :: [])) (.seq (.reg (om 11 1 :: om 12 0 :: om 13 5 :: oo 14 (.ia 7 (.t 12) (.t 13)) :: oo 15 (.ldA 7 (.t 14)) :: ⟨some 16, .dyn (.t 11) [.t 15], none⟩ :: [])) p79_12))) p79_16)
def p79_5 : PC := (.cond (.t 9) .skip (.exit 0))
def p79_20 : PC := (.loop (.seq (.reg (oo 9 (.bin .lss .other false (.t 8) (.t 7)) :: [])) (.seq p79_5 p79_17)))
def p79_27 : PC := (.seq (.reg (oo 4 (.mv (.c (.int .i64 0))) :: [])) (.seq (.seq (.reg (om 6 0 :: oo 7 (.len .slice (.t 6)) :: oo 8 (.mv (.c (.int .i64 0))) :: [])) (.block 0 p79_20)) p79_25))
theorem fn79 : FnOk Tryz.prog 79 p79_27 19 [.t 4] := ⟨false, Tryz.f79, _, Tryz.func79, by decide, rfl, by kernel_rfl, rfl, by kernel_rfl⟩
def L_slices_IndexFunc_api_Account_v618_1 (N : Nat) (a1 : List ApiAccount) (a2 : Int) : Nat → Int → Option (Br (Int) (Unit))
  | 0, _ => none
  | m1 + 1, v1_0 =>
    bif decide (v1_0 < (a1.length : Int)) then
    ((getI a1 v1_0).bind fun y8 =>
    (F_account_index_c1_vb45 N y8 a2).bind fun r9 =>
    bif r9 then
    (some (.ret v1_0))
    else
    ((L_slices_IndexFunc_api_Account_v618_1 N a1 a2 m1) (IntKind.wrap .i64 (v1_0 + 1))))
    else
    (some (.brk ()))
def K_slices_IndexFunc_api_Account_v618_1 (N : Nat)  : Br (Int) (Unit) → Option (Int)
  | .ret r => some r
  | .brk _ =>
    some (-1)
def F_slices_IndexFunc_api_Account_v618  (N : Nat) (a1 : List ApiAccount) (a2 : Int) : Option (Int) :=
      (L_slices_IndexFunc_api_Account_v618_1 N a1 a2 N 0).bind (K_slices_IndexFunc_api_Account_v618_1 N)
theorem P_slices_IndexFunc_api_Account_v618  {N : Nat} {a1 : List ApiAccount} {a2 : Int} {r : Int} (h : F_slices_IndexFunc_api_Account_v618 N a1 a2 = some r) : Pure Tryz.prog (Gl.at 0) 79 [(.sl (a1.map ApiAccount.v)), (.fn (.func 80) [] [(.imm [(i64 a2)] 0)])] (i64 r) := by
  refine pure_run fn79 ?_
  rw [F_slices_IndexFunc_api_Account_v618] at h
  replace h := bs h
  change GG [.t 4] _ [.pc p79_27] (mk 19 [(0, (.sl (a1.map ApiAccount.v))), (1, (.fn (.func 80) [] [(.imm [(i64 a2)] 0)]))]) []
  refine gx mo [.pc p79_20, .blk 0, .pc p79_25] 19 [(0, (.sl (a1.map ApiAccount.v))), (1, (.fn (.func 80) [] [(.imm [(i64 a2)] 0)])), (7, (i64 (a1.length : Int))), (8, (i64 0))] [] 12 [tw 2 (E_len [] a1 ApiAccount.v)] ?_
  refine go_cut (X := Unit) (fun x => (K_slices_IndexFunc_api_Account_v618_1 N (.brk x)).bind some = some r) ([.pc p79_25]) (fun x => (mk 19 [])) (fun x => []) ?_ fun kont1_0 => ?_
  · rintro _ h
    rw [K_slices_IndexFunc_api_Account_v618_1] at h
    refine gx mo [.pc p79_24] 19 [(4, (i64 (-1)))] [] 4 [] ?_
    obtain rfl := Option.some.inj h
    exact gf (i64 (-1)) (.same rfl)
  refine go_loop' (fun m t s => ∃ (v1_0 : Int), (L_slices_IndexFunc_api_Account_v618_1 N a1 a2 m v1_0).bind (fun q => (K_slices_IndexFunc_api_Account_v618_1 N q).bind some) = some r ∧ t = (mk 19 [(0, (.sl (a1.map ApiAccount.v))), (1, (.fn (.func 80) [] [(.imm [(i64 a2)] 0)])), (7, (i64 (a1.length : Int))), (8, (i64 v1_0))]) ∧ s = []) N ⟨0, go_assoc h, rfl, rfl⟩ ?_
  intro m1 J1 hJ1 t s
  rintro ⟨v1_0, h, rfl, rfl⟩
  cases m1 with
  | zero => exact absurd h (by simp [L_slices_IndexFunc_api_Account_v618_1])
  | succ m1 =>
    rw [L_slices_IndexFunc_api_Account_v618_1] at h
    refine gx mo [.pc p79_5, .pc p79_17, .jp J1, .blk 0, .pc p79_25] 19 [(0, (.sl (a1.map ApiAccount.v))), (1, (.fn (.func 80) [] [(.imm [(i64 a2)] 0)])), (7, (i64 (a1.length : Int))), (8, (i64 v1_0)), (9, (.bool (decide (v1_0 < (a1.length : Int)))))] [] 5 [] ?_
    refine go_if h (fun hb7 h => ?_) (fun hb7 h => ?_)
    · rw [hb7]
      refine go_bind h (fun y8 hy8 h => ?_)
      refine go_bind h (fun r9 hr9 h => ?_)
      refine gx mo [.pc p79_12, .blk 1, .pc p79_16, .jp J1, .blk 0, .pc p79_25] 19 [(0, (.sl (a1.map ApiAccount.v))), (1, (.fn (.func 80) [] [(.imm [(i64 a2)] 0)])), (5, (i64 v1_0)), (7, (i64 (a1.length : Int))), (8, (i64 v1_0)), (16, (.bool r9))] [] 18 [tw 6 (E_ia [] ApiAccount.v .i64 hy8), td 8 [] [] [(.imm [(i64 a2)] 0)] [(ApiAccount.v y8)] (P_account_index_c1_vb45 hr9) (fg (fs fl_nil))] ?_
      refine go_if h (fun hb10 h => ?_) (fun hb10 h => ?_)
      · rw [hb10]
        refine gx mo [.pc p79_9, .blk 1, .pc p79_16, .jp J1, .blk 0, .pc p79_25] 19 [(4, (i64 v1_0))] [] 6 [] ?_
        obtain rfl := Option.some.inj h
        exact gf (i64 v1_0) (.same rfl)
      · rw [hb10]
        refine gx mo [.jp J1, .blk 0, .pc p79_25] 19 [(0, (.sl (a1.map ApiAccount.v))), (1, (.fn (.func 80) [] [(.imm [(i64 a2)] 0)])), (7, (i64 (a1.length : Int))), (8, (i64 (IntKind.wrap .i64 (v1_0 + 1))))] [] 7 [] ?_
        exact go_back rfl (hJ1 m1 _ _ (Nat.lt_succ_self m1) ⟨IntKind.wrap .i64 (v1_0 + 1), h, rfl, rfl⟩)
    · rw [hb7]
      refine gx mo [.pc p79_25] 19 [] [] 2 [] ?_
      exact kont1_0 () h
/-! corebank/account.index -/
def p56_2 : PC := .ret
def p56_4 : PC := (.seq (.reg (oo 2 (.box (.t 0)) :: oo 3 (.box (.t 1)) :: oo 4 (.mv (.c (.int .i64 0))) :: [])) (.seq (.reg (oo 5 (.fa 18 (.t 2)) :: oo 6 (.ld1 (.t 5)) :: oo 7 (.fn (.func 80) [] [.t 3]) :: ⟨some 8, .call 79 [.t 6, .t 7], none⟩ :: om 4 8 :: [])) p56_2))
theorem fn56 : FnOk Tryz.prog 56 p56_4 9 [.t 4] := ⟨false, Tryz.f56, _, Tryz.func56, by decide, rfl, by kernel_rfl, rfl, by kernel_rfl⟩
def F_account_index  (N : Nat) (a1 : ApiBooks) (a2 : Int) : Option (Int) :=
      (F_slices_IndexFunc_api_Account_v618 N a1.Accounts_ a2).bind fun r3 =>
    some r3
theorem P_account_index  {N : Nat} {a1 : ApiBooks} {a2 : Int} {r : Int} (h : F_account_index N a1 a2 = some r) : Pure Tryz.prog (Gl.at 0) 56 [(ApiBooks.v a1), (i64 a2)] (i64 r) := by
  refine pure_run fn56 ?_
  rw [F_account_index] at h
  replace h := bs h
  change GG [.t 4] _ [.pc p56_4] (mk 9 [(0, (ApiBooks.v a1)), (1, (i64 a2))]) []
  refine go_bind h (fun r3 hr3 h => ?_)
  refine gx mo [.pc p56_2] 9 [(4, (i64 r3))] [.row 22 [(ApiBooks.v a1)], .row 1 [(i64 a2)]] 14 [tc 6 [.row 22 [(ApiBooks.v a1)], .row 1 [(i64 a2)]] (P_slices_IndexFunc_api_Account_v618 hr3) (fs (fl_cons (f_fn fl_nil (fl_cons (f_ref (c := 1) (u := (i64 a2)) rfl (.same rfl)) fl_nil)) fl_nil))] ?_
  obtain rfl := Option.some.inj h
  exact gf (i64 r3) (.same rfl)
/-! corebank/account.Find -/
def p22_10 : PC := .ret
def p22_11 : PC := (.seq (.reg (oo 13 (.fa 18 (.t 2)) :: oo 14 (.ld1 (.t 13)) :: om 15 6 :: oo 16 (.ia 7 (.t 14) (.t 15)) :: oo 17 (.ldA 7 (.t 16)) :: on_ (.st 7 (.t 4) (.t 17)) :: oo 5 (.mv (.c (.bool true))) :: [])) p22_10)
def p22_4 : PC := .ret
def p22_7 : PC := (.cond (.t 11) (.seq (.reg (oo 12 (.build [.int .i64 0, .int .i64 0, .int .i64 0, .int .i64 0, .str [], .str [], .str []] []) :: on_ (.st 7 (.t 4) (.t 12)) :: oo 5 (.mv (.c (.bool false))) :: [])) p22_4) .skip)
def p22_14 : PC := (.seq (.reg (oo 2 (.box (.t 0)) :: oo 4 (.new (.agg [.int .i64 0, .int .i64 0, .int .i64 0, .int .i64 0, .str [], .str [], .str []])) :: oo 5 (.mv (.c (.bool false))) :: [])) (.seq (.reg (oo 7 (.ldA 22 (.t 2)) :: om 8 1 :: ⟨some 9, .call 56 [.t 7, .t 8], none⟩ :: om 6 9 :: [])) (.seq (.seq (.reg (om 10 6 :: oo 11 (.bin .lss .other true (.t 10) (.c (.int .i64 0))) :: [])) p22_7) p22_11)))
theorem fn22 : FnOk Tryz.prog 22 p22_14 18 [.a 4 7, .t 5] := ⟨false, Tryz.f22, _, Tryz.func22, by decide, rfl, by kernel_rfl, rfl, by kernel_rfl⟩
def F_account_Find  (N : Nat) (a1 : ApiBooks) (a2 : Int) : Option (ApiAccount × Bool) :=
      (F_account_index N a1 a2).bind fun r3 =>
    bif decide (r3 < 0) then
    (some ((⟨0, 0, 0, 0, [], [], []⟩ : ApiAccount), false))
    else
    ((getI a1.Accounts_ r3).bind fun y5 =>
    some (y5, true))
theorem P_account_Find  {N : Nat} {a1 : ApiBooks} {a2 : Int} {r : ApiAccount × Bool} (h : F_account_Find N a1 a2 = some r) : Pure Tryz.prog (Gl.at 0) 22 [(ApiBooks.v a1), (i64 a2)] (.tup [(ApiAccount.v r.1), (.bool r.2)]) := by
  refine pure_run fn22 ?_
  rw [F_account_Find] at h
  replace h := bs h
  change GG [.a 4 7, .t 5] _ [.pc p22_14] (mk 18 [(0, (ApiBooks.v a1)), (1, (i64 a2))]) []
  refine go_bind h (fun r3 hr3 h => ?_)
  refine gx mo [.pc p22_7, .pc p22_11] 18 [(2, (.ref 0 0 0)), (4, (.ref 1 0 0)), (6, (i64 r3)), (11, (.bool (decide (r3 < 0))))] [.row 22 [(ApiBooks.v a1)], .row 7 [(.agg [(i64 0), (i64 0), (i64 0), (i64 0), (.str []), (.str []), (.str [])])]] 19 [tc 5 [.row 22 [(ApiBooks.v a1)], .row 7 [(.agg [(i64 0), (i64 0), (i64 0), (i64 0), (.str []), (.str []), (.str [])])]] (P_account_index hr3) (fg (fs fl_nil))] ?_
  refine go_if h (fun hb4 h => ?_) (fun hb4 h => ?_)
  · rw [hb4]
    refine gx mo [.pc p22_4, .pc p22_11] 18 [(4, (.ref 1 0 0)), (5, (.bool false))] [.row 22 [(ApiBooks.v a1)], .row 7 [(.agg [(i64 0), (i64 0), (i64 0), (i64 0), (.str []), (.str []), (.str [])])]] 7 [] ?_
    obtain rfl := Option.some.inj h
    exact gf (.tup [(.agg [(i64 0), (i64 0), (i64 0), (i64 0), (.str []), (.str []), (.str [])]), (.bool false)]) (f_tupl (fg (fs fl_nil)))
  · rw [hb4]
    refine go_bind h (fun y5 hy5 h => ?_)
    refine gx mo [.pc p22_10] 18 [(4, (.ref 1 0 0)), (5, (.bool true))] [.row 22 [(ApiBooks.v a1)], .row 7 [(ApiAccount.v y5)]] 12 [tw 4 (E_ia [.row 22 [(ApiBooks.v a1)], .row 7 [(.agg [(i64 0), (i64 0), (i64 0), (i64 0), (.str []), (.str []), (.str [])])]] ApiAccount.v .i64 hy5)] ?_
    obtain rfl := Option.some.inj h
    exact gf (.tup [(ApiAccount.v y5), (.bool true)]) (f_tupl (fg (fs fl_nil)))
/-! corebank/date.Valid -/
def p23_2 : PC := .ret
def p23_4 : PC := (.seq (.reg (oo 2 (.mv (.c (.bool false))) :: [])) (.seq (.reg (om 3 0 :: oo 4 (.bin .geq .other true (.t 3) (.c (.int .i64 0))) :: om 5 4 :: ⟨some 6, .op (.mv (.t 0)), some (5, true)⟩ :: ⟨some 7, .op (.bin .leq .other true (.t 6) (.c (.int .i64 73048))), some (5, true)⟩ :: oo 8 (.pick (.t 5) (.t 7) (.c (.bool false))) :: om 2 8 :: [])) p23_2))
theorem fn23 : FnOk Tryz.prog 23 p23_4 9 [.t 2] := ⟨false, Tryz.f23, _, Tryz.func23, by decide, rfl, by kernel_rfl, rfl, by kernel_rfl⟩
def F_date_Valid  (N : Nat) (a1 : Int) : Option (Bool) :=
      bif decide (0 ≤ a1) then
    (some (decide (a1 ≤ 73048)))
    else
    (some false)
theorem P_date_Valid  {N : Nat} {a1 : Int} {r : Bool} (h : F_date_Valid N a1 = some r) : Pure Tryz.prog (Gl.at 0) 23 [(i64 a1)] (.bool r) := by
  refine pure_run fn23 ?_
  rw [F_date_Valid] at h
  replace h := bs h
  change GG [.t 2] _ [.pc p23_4] (mk 9 [(0, (i64 a1))]) []
  refine go_if h (fun hb2 h => ?_) (fun hb2 h => ?_)
  · refine gx mo [.pc p23_2] 9 [(2, (.bool (decide (a1 ≤ 73048))))] [] 14 [twb 2 [] (.bin .geq .other true (.c (i64 a1)) (.c (i64 0))) (decide (0 ≤ a1)) true hb2] ?_
    obtain rfl := Option.some.inj h
    exact gf (.bool (decide (a1 ≤ 73048))) (.same rfl)
  · refine gx mo [.pc p23_2] 9 [(2, (.bool false))] [] 14 [twb 2 [] (.bin .geq .other true (.c (i64 a1)) (.c (i64 0))) (decide (0 ≤ a1)) false hb2] ?_
    obtain rfl := Option.some.inj h
    exact gf (.bool false) (.same rfl)
/-! corebank/account.Active -/
def p24_3 : PC := .ret
def p24_6 : PC := (.seq (.reg (oo 3 (.box (.t 0)) :: oo 6 (.mv (.c (.bool false))) :: [])) (.seq (.reg (oo 10 (.ldA 22 (.t 3)) :: om 11 1 :: ⟨some 12, .call 22 [.t 10, .t 11], none⟩ :: om 9 12 :: oo 13 (.ext 0 (.t 9)) :: oo 14 (.ext 1 (.t 9)) :: oo 7 (.new (.agg [.int .i64 0, .int .i64 0, .int .i64 0, .int .i64 0, .str [], .str [], .str []])) :: on_ (.st 7 (.t 7) (.t 13)) :: om 8 14 :: [])) (.seq (.reg (om 15 8 :: om 16 15 :: ⟨some 17, .op (.fa 1 (.t 7)), some (16, true)⟩ :: ⟨some 18, .op (.ld1 (.t 17)), some (16, true)⟩ :: ⟨some 19, .op (.mv (.t 2)), some (16, true)⟩ :: ⟨some 20, .op (.bin .leq .other false (.t 18) (.t 19)), some (16, true)⟩ :: oo 21 (.pick (.t 16) (.t 20) (.c (.bool false))) :: om 22 21 :: ⟨some 23, .op (.fa 2 (.t 7)), some (22, true)⟩ :: ⟨some 24, .op (.ld1 (.t 23)), some (22, true)⟩ :: ⟨some 25, .op (.bin .eql .other true (.t 24) (.c (.int .i64 0))), some (22, true)⟩ :: ⟨some 26, .op (.mv (.t 25)), some (22, true)⟩ :: ⟨some 27, .op (.fa 2 (.t 7)), some (26, false)⟩ :: ⟨some 28, .op (.ld1 (.t 27)), some (26, false)⟩ :: ⟨some 29, .op (.mv (.t 2)), some (26, false)⟩ :: ⟨some 30, .op (.bin .gtr .other false (.t 28) (.t 29)), some (26, false)⟩ :: ⟨some 31, .op (.pick (.t 26) (.c (.bool true)) (.t 30)), some (22, true)⟩ :: oo 32 (.pick (.t 22) (.t 31) (.c (.bool false))) :: om 6 32 :: [])) p24_3)))
theorem fn24 : FnOk Tryz.prog 24 p24_6 33 [.t 6] := ⟨false, Tryz.f24, _, Tryz.func24, by decide, rfl, by kernel_rfl, rfl, by kernel_rfl⟩
def F_account_Active  (N : Nat) (a1 : ApiBooks) (a2 : Int) (a3 : Int) : Option (Bool) :=
      (F_account_Find N a1 a2).bind fun r4 =>
    bif r4.2 then
    (bif decide (r4.1.Opened_ ≤ a3) then
    (bif decide (r4.1.Closed_ = 0) then
    (some true)
    else
    (some (decide (a3 < r4.1.Closed_))))
    else
    (some false))
    else
    (some false)
theorem P_account_Active  {N : Nat} {a1 : ApiBooks} {a2 : Int} {a3 : Int} {r : Bool} (h : F_account_Active N a1 a2 a3 = some r) : Pure Tryz.prog (Gl.at 0) 24 [(ApiBooks.v a1), (i64 a2), (i64 a3)] (.bool r) := by
  refine pure_run fn24 ?_
  rw [F_account_Active] at h
  replace h := bs h
  change GG [.t 6] _ [.pc p24_6] (mk 33 [(0, (ApiBooks.v a1)), (1, (i64 a2)), (2, (i64 a3))]) []
  refine go_bind h (fun r4 hr4 h => ?_)
  refine go_if h (fun hb5 h => ?_) (fun hb5 h => ?_)
  · refine go_if h (fun hb6 h => ?_) (fun hb6 h => ?_)
    · refine go_if h (fun hb7 h => ?_) (fun hb7 h => ?_)
      · refine gx mo [.pc p24_3] 33 [(6, (.bool true))] [.row 22 [(ApiBooks.v a1)], .row 7 [(ApiAccount.v r4.1)]] 39 [tc 4 [.row 22 [(ApiBooks.v a1)]] (P_account_Find hr4) (fg (fs fl_nil)), twb 11 [.row 22 [(ApiBooks.v a1)], .row 7 [(ApiAccount.v r4.1)]] (.mv (.c (.bool r4.2))) (r4.2) true hb5, twb 17 [.row 22 [(ApiBooks.v a1)], .row 7 [(ApiAccount.v r4.1)]] (.pick (.c (.bool true)) (.c (.bool (decide (r4.1.Opened_ ≤ a3)))) (.c (.bool false))) (decide (r4.1.Opened_ ≤ a3)) true hb6, twb 21 [.row 22 [(ApiBooks.v a1)], .row 7 [(ApiAccount.v r4.1)]] (.bin .eql .other true (.c (i64 r4.1.Closed_)) (.c (i64 0))) (decide (r4.1.Closed_ = 0)) true hb7] ?_
        obtain rfl := Option.some.inj h
        exact gf (.bool true) (.same rfl)
      · refine gx mo [.pc p24_3] 33 [(6, (.bool (decide (a3 < r4.1.Closed_))))] [.row 22 [(ApiBooks.v a1)], .row 7 [(ApiAccount.v r4.1)]] 39 [tc 4 [.row 22 [(ApiBooks.v a1)]] (P_account_Find hr4) (fg (fs fl_nil)), twb 11 [.row 22 [(ApiBooks.v a1)], .row 7 [(ApiAccount.v r4.1)]] (.mv (.c (.bool r4.2))) (r4.2) true hb5, twb 17 [.row 22 [(ApiBooks.v a1)], .row 7 [(ApiAccount.v r4.1)]] (.pick (.c (.bool true)) (.c (.bool (decide (r4.1.Opened_ ≤ a3)))) (.c (.bool false))) (decide (r4.1.Opened_ ≤ a3)) true hb6, twb 21 [.row 22 [(ApiBooks.v a1)], .row 7 [(ApiAccount.v r4.1)]] (.bin .eql .other true (.c (i64 r4.1.Closed_)) (.c (i64 0))) (decide (r4.1.Closed_ = 0)) false hb7] ?_
        obtain rfl := Option.some.inj h
        exact gf (.bool (decide (a3 < r4.1.Closed_))) (.same rfl)
    · refine gx mo [.pc p24_3] 33 [(6, (.bool false))] [.row 22 [(ApiBooks.v a1)], .row 7 [(ApiAccount.v r4.1)]] 39 [tc 4 [.row 22 [(ApiBooks.v a1)]] (P_account_Find hr4) (fg (fs fl_nil)), twb 11 [.row 22 [(ApiBooks.v a1)], .row 7 [(ApiAccount.v r4.1)]] (.mv (.c (.bool r4.2))) (r4.2) true hb5, twb 17 [.row 22 [(ApiBooks.v a1)], .row 7 [(ApiAccount.v r4.1)]] (.pick (.c (.bool true)) (.c (.bool (decide (r4.1.Opened_ ≤ a3)))) (.c (.bool false))) (decide (r4.1.Opened_ ≤ a3)) false hb6] ?_
      obtain rfl := Option.some.inj h
      exact gf (.bool false) (.same rfl)
  · refine gx mo [.pc p24_3] 33 [(6, (.bool false))] [.row 22 [(ApiBooks.v a1)], .row 7 [(ApiAccount.v r4.1)]] 39 [tc 4 [.row 22 [(ApiBooks.v a1)]] (P_account_Find hr4) (fg (fs fl_nil)), twb 11 [.row 22 [(ApiBooks.v a1)], .row 7 [(ApiAccount.v r4.1)]] (.mv (.c (.bool r4.2))) (r4.2) false hb5] ?_
    obtain rfl := Option.some.inj h
    exact gf (.bool false) (.same rfl)
/-! corebank/date.begin -/
def p81_9 : PC := .ret
def p81_10 : PC := (.seq (.reg (om 14 3 :: oo 15 (.bin .mul .other true (.c (.int .i64 365)) (.t 14)) :: om 16 4 :: oo 17 (.bin .add .other false (.t 15) (.t 16)) :: om 2 17 :: [])) p81_9)
def p81_6 : PC := (.cond (.t 11) (.reg (om 12 4 :: oo 13 (.bin .sub .other true (.t 12) (.c (.int .i64 1))) :: om 4 13 :: [])) .skip)
def p81_14 : PC := (.seq (.reg (oo 2 (.mv (.c (.int .i64 0))) :: [])) (.seq (.reg (om 5 0 :: oo 6 (.bin .sub .other true (.t 5) (.c (.int .i64 2000))) :: om 3 6 :: [])) (.seq (.reg (om 7 3 :: oo 8 (.bin .add .other true (.t 7) (.c (.int .i64 3))) :: oo 9 (.bin .quo .other true (.t 8) (.c (.int .i64 4))) :: om 4 9 :: [])) (.seq (.seq (.reg (om 10 0 :: oo 11 (.bin .gtr .other true (.t 10) (.c (.int .i64 2100))) :: [])) p81_6) p81_10))))
theorem fn81 : FnOk Tryz.prog 81 p81_14 18 [.t 2] := ⟨false, Tryz.f81, _, Tryz.func81, by decide, rfl, by kernel_rfl, rfl, by kernel_rfl⟩
def F_date_begin  (N : Nat) (a1 : Int) : Option (Int) :=
      bif decide (2100 < a1) then
    (some (IntKind.wrap .i64 ((IntKind.wrap .i64 (365 * (IntKind.wrap .i64 (a1 - 2000)))) + (IntKind.wrap .i64 ((IntKind.wrap .i64 (Int.tdiv (IntKind.wrap .i64 ((IntKind.wrap .i64 (a1 - 2000)) + 3)) 4)) - 1)))))
    else
    (some (IntKind.wrap .i64 ((IntKind.wrap .i64 (365 * (IntKind.wrap .i64 (a1 - 2000)))) + (IntKind.wrap .i64 (Int.tdiv (IntKind.wrap .i64 ((IntKind.wrap .i64 (a1 - 2000)) + 3)) 4)))))
theorem P_date_begin  {N : Nat} {a1 : Int} {r : Int} (h : F_date_begin N a1 = some r) : Pure Tryz.prog (Gl.at 0) 81 [(i64 a1)] (i64 r) := by
  refine pure_run fn81 ?_
  rw [F_date_begin] at h
  replace h := bs h
  change GG [.t 2] _ [.pc p81_14] (mk 18 [(0, (i64 a1))]) []
  refine gx mo [.pc p81_6, .pc p81_10] 18 [(3, (i64 (IntKind.wrap .i64 (a1 - 2000)))), (4, (i64 (IntKind.wrap .i64 (Int.tdiv (IntKind.wrap .i64 ((IntKind.wrap .i64 (a1 - 2000)) + 3)) 4)))), (11, (.bool (decide (2100 < a1))))] [] 23 [] ?_
  refine go_if h (fun hb2 h => ?_) (fun hb2 h => ?_)
  · rw [hb2]
    refine gx mo [.pc p81_9] 18 [(2, (i64 (IntKind.wrap .i64 ((IntKind.wrap .i64 (365 * (IntKind.wrap .i64 (a1 - 2000)))) + (IntKind.wrap .i64 ((IntKind.wrap .i64 (Int.tdiv (IntKind.wrap .i64 ((IntKind.wrap .i64 (a1 - 2000)) + 3)) 4)) - 1))))))] [] 14 [] ?_
    obtain rfl := Option.some.inj h
    exact gf (i64 (IntKind.wrap .i64 ((IntKind.wrap .i64 (365 * (IntKind.wrap .i64 (a1 - 2000)))) + (IntKind.wrap .i64 ((IntKind.wrap .i64 (Int.tdiv (IntKind.wrap .i64 ((IntKind.wrap .i64 (a1 - 2000)) + 3)) 4)) - 1))))) (.same rfl)
  · rw [hb2]
    refine gx mo [.pc p81_9] 18 [(2, (i64 (IntKind.wrap .i64 ((IntKind.wrap .i64 (365 * (IntKind.wrap .i64 (a1 - 2000)))) + (IntKind.wrap .i64 (Int.tdiv (IntKind.wrap .i64 ((IntKind.wrap .i64 (a1 - 2000)) + 3)) 4))))))] [] 10 [] ?_
    obtain rfl := Option.some.inj h
    exact gf (i64 (IntKind.wrap .i64 ((IntKind.wrap .i64 (365 * (IntKind.wrap .i64 (a1 - 2000)))) + (IntKind.wrap .i64 (Int.tdiv (IntKind.wrap .i64 ((IntKind.wrap .i64 (a1 - 2000)) + 3)) 4))))) (.same rfl)
/-! corebank/date.Leap -/
def p94_2 : PC := .ret
def p94_4 : PC := (.seq (.reg (oo 2 (.mv (.c (.bool false))) :: [])) (.seq (.reg (om 3 0 :: oo 4 (.bin .rem .other true (.t 3) (.c (.int .i64 4))) :: oo 5 (.bin .eql .other true (.t 4) (.c (.int .i64 0))) :: om 6 5 :: ⟨some 7, .op (.mv (.t 0)), some (6, true)⟩ :: ⟨some 8, .op (.bin .rem .other true (.t 7) (.c (.int .i64 100))), some (6, true)⟩ :: ⟨some 9, .op (.bin .neq .other true (.t 8) (.c (.int .i64 0))), some (6, true)⟩ :: ⟨some 10, .op (.mv (.t 9)), some (6, true)⟩ :: ⟨some 11, .op (.mv (.t 0)), some (10, false)⟩ :: ⟨some 12, .op (.bin .rem .other true (.t 11) (.c (.int .i64 400))), some (10, false)⟩ :: ⟨some 13, .op (.bin .eql .other true (.t 12) (.c (.int .i64 0))), some (10, false)⟩ :: ⟨some 14, .op (.pick (.t 10) (.c (.bool true)) (.t 13)), some (6, true)⟩ :: oo 15 (.pick (.t 6) (.t 14) (.c (.bool false))) :: om 2 15 :: [])) p94_2))
theorem fn94 : FnOk Tryz.prog 94 p94_4 16 [.t 2] := ⟨false, Tryz.f94, _, Tryz.func94, by decide, rfl, by kernel_rfl, rfl, by kernel_rfl⟩
def F_date_Leap  (N : Nat) (a1 : Int) : Option (Bool) :=
      bif decide ((Int.tmod a1 4) = 0) then
    (bif !decide ((Int.tmod a1 100) = 0) then
    (some true)
    else
    (some (decide ((Int.tmod a1 400) = 0))))
    else
    (some false)
theorem P_date_Leap  {N : Nat} {a1 : Int} {r : Bool} (h : F_date_Leap N a1 = some r) : Pure Tryz.prog (Gl.at 0) 94 [(i64 a1)] (.bool r) := by
  refine pure_run fn94 ?_
  rw [F_date_Leap] at h
  replace h := bs h
  change GG [.t 2] _ [.pc p94_4] (mk 16 [(0, (i64 a1))]) []
  refine go_if h (fun hb2 h => ?_) (fun hb2 h => ?_)
  · refine go_if h (fun hb3 h => ?_) (fun hb3 h => ?_)
    · refine gx mo [.pc p94_2] 16 [(2, (.bool true))] [] 21 [twb 3 [] (.bin .eql .other true (.c (i64 (Int.tmod a1 4))) (.c (i64 0))) (decide ((Int.tmod a1 4) = 0)) true hb2, twb 7 [] (.bin .neq .other true (.c (i64 (Int.tmod a1 100))) (.c (i64 0))) (!decide ((Int.tmod a1 100) = 0)) true hb3] ?_
      obtain rfl := Option.some.inj h
      exact gf (.bool true) (.same rfl)
    · refine gx mo [.pc p94_2] 16 [(2, (.bool (decide ((Int.tmod a1 400) = 0))))] [] 21 [twb 3 [] (.bin .eql .other true (.c (i64 (Int.tmod a1 4))) (.c (i64 0))) (decide ((Int.tmod a1 4) = 0)) true hb2, twb 7 [] (.bin .neq .other true (.c (i64 (Int.tmod a1 100))) (.c (i64 0))) (!decide ((Int.tmod a1 100) = 0)) false hb3] ?_
      obtain rfl := Option.some.inj h
      exact gf (.bool (decide ((Int.tmod a1 400) = 0))) (.same rfl)
  · refine gx mo [.pc p94_2] 16 [(2, (.bool false))] [] 21 [twb 3 [] (.bin .eql .other true (.c (i64 (Int.tmod a1 4))) (.c (i64 0))) (decide ((Int.tmod a1 4) = 0)) false hb2] ?_
    obtain rfl := Option.some.inj h
    exact gf (.bool false) (.same rfl)
/-! corebank/date.length -/
def p82_10 : PC := .ret
def p82_11 : PC := (.seq (.reg (om 13 1 :: oo 14 (.iaa 13 1 (.t 5) (.t 13)) :: oo 15 (.ld1 (.t 14)) :: om 4 15 :: [])) p82_10)
def p82_4 : PC := .ret
def p82_7 : PC := (.cond (.t 12) (.seq (.reg (oo 4 (.mv (.c (.int .i64 29))) :: [])) p82_4) .skip)
def o82_2_1 : List PO := oo 8 (.bin .eql .other true (.t 7) (.c (.int .i64 2))) :: om 9 8 :: ⟨some 10, .op (.mv (.t 0)), some (9, true)⟩ :: ⟨some 11, .call 94 [.t 10], some (9, true)⟩ :: oo 12 (.pick (.t 9) (.t 11) (.c (.bool false))) :: []
def p82_14 : PC := (.seq (.reg (oo 4 (.mv (.c (.int .i64 0))) :: [])) (.seq (.reg (oo 6 (.build [.int .i64 0, .int .i64 0, .int .i64 0, .int .i64 0, .int .i64 0, .int .i64 0, .int .i64 0, .int .i64 0, .int .i64 0, .int .i64 0, .int .i64 0, .int .i64 0, .int .i64 0] [(0, 1, .c (.int .i64 0)), (1, 1, .c (.int .i64 31)), (2, 1, .c (.int .i64 28)), (3, 1, .c (.int .i64 31)), (4, 1, .c (.int .i64 30)), (5, 1, .c (.int .i64 31)), (6, 1, .c (.int .i64 30)), (7, 1, .c (.int .i64 31)), (8, 1, .c (.int .i64 31)), (9, 1, .c (.int .i64 30)), (10, 1, .c (.int .i64 31)), (11, 1, .c (.int .i64 30)), (12, 1, .c (.int .i64 31))]) :: oo 5 (.new (.agg [.int .i64 0, .int .i64 0, .int .i64 0, .int .i64 0, .int .i64 0, .int .i64 0, .int .i64 0, .int .i64 0, .int .i64 0, .int .i64 0, .int .i64 0, .int .i64 0, .int .i64 0])) :: on_ (.st 13 (.t 5) (.t 6)) :: [])) (.seq (.seq (.reg (om 7 1 :: o82_2_1)) p82_7) p82_11)))
theorem fn82 : FnOk Tryz.prog 82 p82_14 16 [.t 4] := ⟨false, Tryz.f82, _, Tryz.func82, by decide, rfl, by kernel_rfl, rfl, by kernel_rfl⟩
def F_date_length  (N : Nat) (a1 : Int) (a2 : Int) : Option (Int) :=
      bif decide (a2 = 2) then
    ((F_date_Leap N a1).bind fun r4 =>
    bif r4 then
    (some 29)
    else
    ((getI ([0, 31, 28, 31, 30, 31, 30, 31, 31, 30, 31, 30, 31] : List Int) a2).bind fun y6 =>
    some y6))
    else
    ((getI ([0, 31, 28, 31, 30, 31, 30, 31, 31, 30, 31, 30, 31] : List Int) a2).bind fun y7 =>
    some y7)
theorem P_date_length  {N : Nat} {a1 : Int} {a2 : Int} {r : Int} (h : F_date_length N a1 a2 = some r) : Pure Tryz.prog (Gl.at 0) 82 [(i64 a1), (i64 a2)] (i64 r) := by
  refine pure_run fn82 ?_
  rw [F_date_length] at h
  replace h := bs h
  change GG [.t 4] _ [.pc p82_14] (mk 16 [(0, (i64 a1)), (1, (i64 a2))]) []
  refine gx mo [.ops o82_2_1, .pc p82_7, .pc p82_11] 16 [(0, (i64 a1)), (1, (i64 a2)), (5, (.ref 0 0 0)), (7, (i64 a2))] [.row 13 [(.agg [(i64 0), (i64 31), (i64 28), (i64 31), (i64 30), (i64 31), (i64 30), (i64 31), (i64 31), (i64 30), (i64 31), (i64 30), (i64 31)])]] 14 [] ?_
  refine go_if h (fun hb3 h => ?_) (fun hb3 h => ?_)
  · refine go_bind h (fun r4 hr4 h => ?_)
    refine gx mo [.pc p82_7, .pc p82_11] 16 [(1, (i64 a2)), (5, (.ref 0 0 0)), (12, (.bool r4))] [.row 13 [(.agg [(i64 0), (i64 31), (i64 28), (i64 31), (i64 30), (i64 31), (i64 30), (i64 31), (i64 31), (i64 30), (i64 31), (i64 30), (i64 31)])]] 6 [twb 0 [.row 13 [(.agg [(i64 0), (i64 31), (i64 28), (i64 31), (i64 30), (i64 31), (i64 30), (i64 31), (i64 31), (i64 30), (i64 31), (i64 30), (i64 31)])]] (.bin .eql .other true (.c (i64 a2)) (.c (i64 2))) (decide (a2 = 2)) true hb3, tc 3 [.row 13 [(.agg [(i64 0), (i64 31), (i64 28), (i64 31), (i64 30), (i64 31), (i64 30), (i64 31), (i64 31), (i64 30), (i64 31), (i64 30), (i64 31)])]] (P_date_Leap hr4) (fs fl_nil)] ?_
    refine go_if h (fun hb5 h => ?_) (fun hb5 h => ?_)
    · rw [hb5]
      refine gx mo [.pc p82_4, .pc p82_11] 16 [(4, (i64 29))] [.row 13 [(.agg [(i64 0), (i64 31), (i64 28), (i64 31), (i64 30), (i64 31), (i64 30), (i64 31), (i64 31), (i64 30), (i64 31), (i64 30), (i64 31)])]] 5 [] ?_
      obtain rfl := Option.some.inj h
      exact gf (i64 29) (.same rfl)
    · rw [hb5]
      refine go_bind h (fun y6 hy6 h => ?_)
      refine gx mo [.pc p82_10] 16 [(4, (i64 y6))] [.row 13 [(.agg [(i64 0), (i64 31), (i64 28), (i64 31), (i64 30), (i64 31), (i64 30), (i64 31), (i64 31), (i64 30), (i64 31), (i64 30), (i64 31)])]] 9 [tw 2 (s := [.row 13 [(.agg [(i64 0), (i64 31), (i64 28), (i64 31), (i64 30), (i64 31), (i64 30), (i64 31), (i64 31), (i64 30), (i64 31), (i64 30), (i64 31)])]]) (s' := [.row 13 [(.agg [(i64 0), (i64 31), (i64 28), (i64 31), (i64 30), (i64 31), (i64 30), (i64 31), (i64 31), (i64 30), (i64 31), (i64 30), (i64 31)])]]) (q := (.iaa 13 1 (.c (.ref 0 0 0)) (.c (i64 a2)))) (v := (.ref 0 0 a2.toNat)) (e_iaa (f := i64) (l := ([0, 31, 28, 31, 30, 31, 30, 31, 31, 30, 31, 30, 31] : List Int)) hy6 rfl), tw 3 (s := [.row 13 [(.agg [(i64 0), (i64 31), (i64 28), (i64 31), (i64 30), (i64 31), (i64 30), (i64 31), (i64 31), (i64 30), (i64 31), (i64 30), (i64 31)])]]) (s' := [.row 13 [(.agg [(i64 0), (i64 31), (i64 28), (i64 31), (i64 30), (i64 31), (i64 30), (i64 31), (i64 31), (i64 30), (i64 31), (i64 30), (i64 31)])]]) (q := (.ld1 (.c (.ref 0 0 a2.toNat)))) (v := (i64 y6)) (e_ldarr (f := i64) (l := ([0, 31, 28, 31, 30, 31, 30, 31, 31, 30, 31, 30, 31] : List Int)) rfl hy6)] ?_
      obtain rfl := Option.some.inj h
      exact gf (i64 y6) (.same rfl)
  · refine go_bind h (fun y7 hy7 h => ?_)
    refine gx mo [.pc p82_10] 16 [(4, (i64 y7))] [.row 13 [(.agg [(i64 0), (i64 31), (i64 28), (i64 31), (i64 30), (i64 31), (i64 30), (i64 31), (i64 31), (i64 30), (i64 31), (i64 30), (i64 31)])]] 15 [twb 0 [.row 13 [(.agg [(i64 0), (i64 31), (i64 28), (i64 31), (i64 30), (i64 31), (i64 30), (i64 31), (i64 31), (i64 30), (i64 31), (i64 30), (i64 31)])]] (.bin .eql .other true (.c (i64 a2)) (.c (i64 2))) (decide (a2 = 2)) false hb3, tw 7 (s := [.row 13 [(.agg [(i64 0), (i64 31), (i64 28), (i64 31), (i64 30), (i64 31), (i64 30), (i64 31), (i64 31), (i64 30), (i64 31), (i64 30), (i64 31)])]]) (s' := [.row 13 [(.agg [(i64 0), (i64 31), (i64 28), (i64 31), (i64 30), (i64 31), (i64 30), (i64 31), (i64 31), (i64 30), (i64 31), (i64 30), (i64 31)])]]) (q := (.iaa 13 1 (.c (.ref 0 0 0)) (.c (i64 a2)))) (v := (.ref 0 0 a2.toNat)) (e_iaa (f := i64) (l := ([0, 31, 28, 31, 30, 31, 30, 31, 31, 30, 31, 30, 31] : List Int)) hy7 rfl), tw 8 (s := [.row 13 [(.agg [(i64 0), (i64 31), (i64 28), (i64 31), (i64 30), (i64 31), (i64 30), (i64 31), (i64 31), (i64 30), (i64 31), (i64 30), (i64 31)])]]) (s' := [.row 13 [(.agg [(i64 0), (i64 31), (i64 28), (i64 31), (i64 30), (i64 31), (i64 30), (i64 31), (i64 31), (i64 30), (i64 31), (i64 30), (i64 31)])]]) (q := (.ld1 (.c (.ref 0 0 a2.toNat)))) (v := (i64 y7)) (e_ldarr (f := i64) (l := ([0, 31, 28, 31, 30, 31, 30, 31, 31, 30, 31, 30, 31] : List Int)) rfl hy7)] ?_
    obtain rfl := Option.some.inj h
    exact gf (i64 y7) (.same rfl)
/-! corebank/date.Civil -/
def p57_34 : PC := .ret
def p57_35 : PC := (.seq (.reg (om 36 5 :: om 37 6 :: om 38 0 :: oo 39 (.bin .add .other true (.t 38) (.c (.int .i64 1))) :: om 2 36 :: om 3 37 :: om 4 39 :: [])) p57_34)
def p57_29 : PC := (.block 3 (.seq (.reg (om 29 0 :: om 30 5 :: om 31 6 :: ⟨some 32, .call 82 [.t 30, .t 31], none⟩ :: oo 33 (.bin .sub .other false (.t 29) (.t 32)) :: om 0 33 :: [])) (.reg (om 34 6 :: oo 35 (.bin .add .other true (.t 34) (.c (.int .i64 1))) :: om 6 35 :: []))))
def p57_24 : PC := (.cond (.t 28) .skip (.exit 2))
def p57_31 : PC := (.loop (.seq (.seq (.reg (om 24 0 :: om 25 5 :: om 26 6 :: ⟨some 27, .call 82 [.t 25, .t 26], none⟩ :: oo 28 (.bin .geq .other false (.t 24) (.t 27)) :: [])) p57_24) p57_29))
def p57_38 : PC := (.seq (.reg (om 20 0 :: om 21 5 :: ⟨some 22, .call 81 [.t 21], none⟩ :: oo 23 (.bin .sub .other false (.t 20) (.t 22)) :: om 0 23 :: [])) (.seq (.reg (oo 6 (.mv (.c (.int .i64 1))) :: [])) (.seq (.block 2 p57_31) p57_35)))
def p57_15 : PC := (.block 1 (.reg (om 18 5 :: oo 19 (.bin .add .other true (.t 18) (.c (.int .i64 1))) :: om 5 19 :: [])))
def p57_12 : PC := (.cond (.t 17) .skip (.exit 0))
def p57_17 : PC := (.loop (.seq (.seq (.reg (om 13 5 :: oo 14 (.bin .add .other true (.t 13) (.c (.int .i64 1))) :: ⟨some 15, .call 81 [.t 14], none⟩ :: om 16 0 :: oo 17 (.bin .leq .other false (.t 15) (.t 16)) :: [])) p57_12) p57_15))
def p57_40 : PC := (.seq (.reg (om 10 0 :: oo 11 (.bin .quo .other true (.t 10) (.c (.int .i64 366))) :: oo 12 (.bin .add .other true (.c (.int .i64 2000)) (.t 11)) :: om 5 12 :: [])) (.seq (.block 0 p57_17) p57_38))
def p57_3 : PC := .ret
def p57_6 : PC := (.cond (.t 9) (.seq (.reg (oo 2 (.mv (.c (.int .i64 0))) :: oo 3 (.mv (.c (.int .i64 0))) :: oo 4 (.mv (.c (.int .i64 0))) :: [])) p57_3) .skip)
def p57_42 : PC := (.seq (.reg (oo 2 (.mv (.c (.int .i64 0))) :: oo 3 (.mv (.c (.int .i64 0))) :: oo 4 (.mv (.c (.int .i64 0))) :: [])) (.seq (.seq (.reg (om 7 0 :: ⟨some 8, .call 23 [.t 7], none⟩ :: oo 9 (.un .not (.t 8)) :: [])) p57_6) p57_40))
theorem fn57 : FnOk Tryz.prog 57 p57_42 40 [.t 2, .t 3, .t 4] := ⟨false, Tryz.f57, _, Tryz.func57, by decide, rfl, by kernel_rfl, rfl, by kernel_rfl⟩
def L_date_Civil_2 (N : Nat) (x1_0 : Int) : Nat → Int → Int → Option (Int × Int)
  | 0, _, _ => none
  | m2 + 1, v2_0, v2_1 =>
    (F_date_length N x1_0 v2_1).bind fun r10 =>
    bif decide (r10 ≤ v2_0) then
    ((F_date_length N x1_0 v2_1).bind fun r12 =>
    (L_date_Civil_2 N x1_0 m2) (IntKind.wrap .i64 (v2_0 - r12)) (IntKind.wrap .i64 (v2_1 + 1)))
    else
    (some (v2_0, v2_1))
def K_date_Civil_2 (N : Nat) (x1_0 : Int) : (Int × Int) → Option (Int × Int × Int)
  | (x2_0, x2_1) =>
    some (x1_0, x2_1, IntKind.wrap .i64 (x2_0 + 1))
def L_date_Civil_1 (N : Nat) (a1 : Int) : Nat → Int → Option (Int)
  | 0, _ => none
  | m1 + 1, v1_0 =>
    (F_date_begin N (IntKind.wrap .i64 (v1_0 + 1))).bind fun r13 =>
    bif decide (r13 ≤ a1) then
    ((L_date_Civil_1 N a1 m1) (IntKind.wrap .i64 (v1_0 + 1)))
    else
    (some v1_0)
def K_date_Civil_1 (N : Nat) (a1 : Int) : (Int) → Option (Int × Int × Int)
  | x1_0 =>
    (F_date_begin N x1_0).bind fun r6 =>
    (L_date_Civil_2 N x1_0 N (IntKind.wrap .i64 (a1 - r6)) 1).bind (K_date_Civil_2 N x1_0)
def F_date_Civil  (N : Nat) (a1 : Int) : Option (Int × Int × Int) :=
      (F_date_Valid N a1).bind fun r2 =>
    bif !r2 then
    (some (0, 0, 0))
    else
    ((L_date_Civil_1 N a1 N (IntKind.wrap .i64 (2000 + (IntKind.wrap .i64 (Int.tdiv a1 366))))).bind (K_date_Civil_1 N a1))
theorem P_date_Civil  {N : Nat} {a1 : Int} {r : Int × Int × Int} (h : F_date_Civil N a1 = some r) : Pure Tryz.prog (Gl.at 0) 57 [(i64 a1)] (.tup [(i64 r.1), (i64 r.2.1), (i64 r.2.2)]) := by
  refine pure_run fn57 ?_
  rw [F_date_Civil] at h
  replace h := bs h
  change GG [.t 2, .t 3, .t 4] _ [.pc p57_42] (mk 40 [(0, (i64 a1))]) []
  refine go_bind h (fun r2 hr2 h => ?_)
  refine gx mo [.pc p57_6, .pc p57_40] 40 [(0, (i64 a1)), (9, (.bool (!r2)))] [] 13 [tc 4 [] (P_date_Valid hr2) (fs fl_nil)] ?_
  refine go_if h (fun hb3 h => ?_) (fun hb3 h => ?_)
  · rw [hb3]
    refine gx mo [.pc p57_3, .pc p57_40] 40 [(2, (i64 0)), (3, (i64 0)), (4, (i64 0))] [] 7 [] ?_
    obtain rfl := Option.some.inj h
    exact gf (.tup [(i64 0), (i64 0), (i64 0)]) (f_tupl (fs (fs (fs fl_nil))))
  · rw [hb3]
    refine gx mo [.pc p57_17, .blk 0, .pc p57_38] 40 [(0, (i64 a1)), (5, (i64 (IntKind.wrap .i64 (2000 + (IntKind.wrap .i64 (Int.tdiv a1 366))))))] [] 11 [] ?_
    refine go_cut (X := Int) (fun x => (K_date_Civil_1 N a1 x).bind some = some r) ([.pc p57_38]) (fun x => (mk 40 [(0, (i64 a1)), (5, (i64 x))])) (fun x => []) ?_ fun kont1_0 => ?_
    · rintro x1_0 h
      rw [K_date_Civil_1] at h
      refine go_bind h (fun r6 hr6 h => ?_)
      refine gx mo [.pc p57_31, .blk 2, .pc p57_35] 40 [(0, (i64 (IntKind.wrap .i64 (a1 - r6)))), (5, (i64 x1_0)), (6, (i64 1))] [] 14 [tc 2 [] (P_date_begin hr6) (fs fl_nil)] ?_
      refine go_cut (X := Int × Int) (fun x => (K_date_Civil_2 N x1_0 x).bind some = some r) ([.pc p57_35]) (fun x => (mk 40 [(0, (i64 x.1)), (5, (i64 x1_0)), (6, (i64 x.2))])) (fun x => []) ?_ fun kont2_0 => ?_
      · rintro ⟨x2_0, x2_1⟩ h
        rw [K_date_Civil_2] at h
        refine gx mo [.pc p57_34] 40 [(2, (i64 x1_0)), (3, (i64 x2_1)), (4, (i64 (IntKind.wrap .i64 (x2_0 + 1))))] [] 10 [] ?_
        obtain rfl := Option.some.inj h
        exact gf (.tup [(i64 x1_0), (i64 x2_1), (i64 (IntKind.wrap .i64 (x2_0 + 1)))]) (f_tupl (fs (fs (fs fl_nil))))
      refine go_loop' (fun m t s => ∃ (v2_0 : Int) (v2_1 : Int), (L_date_Civil_2 N x1_0 m v2_0 v2_1).bind (fun q => (K_date_Civil_2 N x1_0 q).bind some) = some r ∧ t = (mk 40 [(0, (i64 v2_0)), (5, (i64 x1_0)), (6, (i64 v2_1))]) ∧ s = []) N ⟨IntKind.wrap .i64 (a1 - r6), 1, go_assoc h, rfl, rfl⟩ ?_
      intro m2 J2 hJ2 t s
      rintro ⟨v2_0, v2_1, h, rfl, rfl⟩
      cases m2 with
      | zero => exact absurd h (by simp [L_date_Civil_2])
      | succ m2 =>
        rw [L_date_Civil_2] at h
        refine go_bind h (fun r10 hr10 h => ?_)
        refine gx mo [.pc p57_24, .pc p57_29, .jp J2, .blk 2, .pc p57_35] 40 [(0, (i64 v2_0)), (5, (i64 x1_0)), (6, (i64 v2_1)), (28, (.bool (decide (r10 ≤ v2_0))))] [] 9 [tc 3 [] (P_date_length hr10) (fs (fs fl_nil))] ?_
        refine go_if h (fun hb11 h => ?_) (fun hb11 h => ?_)
        · rw [hb11]
          refine go_bind h (fun r12 hr12 h => ?_)
          refine gx mo [.jp J2, .blk 2, .pc p57_35] 40 [(0, (i64 (IntKind.wrap .i64 (v2_0 - r12)))), (5, (i64 x1_0)), (6, (i64 (IntKind.wrap .i64 (v2_1 + 1))))] [] 18 [tc 4 [] (P_date_length hr12) (fs (fs fl_nil))] ?_
          exact go_back rfl (hJ2 m2 _ _ (Nat.lt_succ_self m2) ⟨IntKind.wrap .i64 (v2_0 - r12), IntKind.wrap .i64 (v2_1 + 1), h, rfl, rfl⟩)
        · rw [hb11]
          refine gx mo [.pc p57_35] 40 [(0, (i64 v2_0)), (5, (i64 x1_0)), (6, (i64 v2_1))] [] 2 [] ?_
          exact kont2_0 (v2_0, v2_1) h
    refine go_loop' (fun m t s => ∃ (v1_0 : Int), (L_date_Civil_1 N a1 m v1_0).bind (fun q => (K_date_Civil_1 N a1 q).bind some) = some r ∧ t = (mk 40 [(0, (i64 a1)), (5, (i64 v1_0))]) ∧ s = []) N ⟨IntKind.wrap .i64 (2000 + (IntKind.wrap .i64 (Int.tdiv a1 366))), go_assoc h, rfl, rfl⟩ ?_
    intro m1 J1 hJ1 t s
    rintro ⟨v1_0, h, rfl, rfl⟩
    cases m1 with
    | zero => exact absurd h (by simp [L_date_Civil_1])
    | succ m1 =>
      rw [L_date_Civil_1] at h
      refine go_bind h (fun r13 hr13 h => ?_)
      refine gx mo [.pc p57_12, .pc p57_15, .jp J1, .blk 0, .pc p57_38] 40 [(0, (i64 a1)), (5, (i64 v1_0)), (17, (.bool (decide (r13 ≤ a1))))] [] 9 [tc 2 [] (P_date_begin hr13) (fs fl_nil)] ?_
      refine go_if h (fun hb14 h => ?_) (fun hb14 h => ?_)
      · rw [hb14]
        refine gx mo [.jp J1, .blk 0, .pc p57_38] 40 [(0, (i64 a1)), (5, (i64 (IntKind.wrap .i64 (v1_0 + 1))))] [] 9 [] ?_
        exact go_back rfl (hJ1 m1 _ _ (Nat.lt_succ_self m1) ⟨IntKind.wrap .i64 (v1_0 + 1), h, rfl, rfl⟩)
      · rw [hb14]
        refine gx mo [.pc p57_38] 40 [(0, (i64 a1)), (5, (i64 v1_0))] [] 2 [] ?_
        exact kont1_0 v1_0 h
/-! corebank/date.Day -/
def p58_24 : PC := .ret
def p58_25 : PC := (.seq (.reg (om 50 8 :: om 6 50 :: oo 7 (.mv (.c (.int .i64 0))) :: [])) p58_24)
def p58_18 : PC := (.seq (.block 1 (.reg (om 45 8 :: om 46 0 :: om 47 9 :: ⟨some 48, .call 82 [.t 46, .t 47], none⟩ :: oo 49 (.bin .add .other false (.t 45) (.t 48)) :: om 8 49 :: []))) (.reg (om 43 9 :: oo 44 (.bin .add .other true (.t 43) (.c (.int .i64 1))) :: om 9 44 :: [])))
def p58_13 : PC := (.cond (.t 42) .skip (.exit 0))
def p58_20 : PC := (.loop (.seq (.seq (.reg (om 40 9 :: om 41 1 :: oo 42 (.bin .lss .other false (.t 40) (.t 41)) :: [])) p58_13) p58_18))
def p58_27 : PC := (.seq (.reg (om 35 0 :: ⟨some 36, .call 81 [.t 35], none⟩ :: om 37 2 :: oo 38 (.bin .add .other false (.t 36) (.t 37)) :: oo 39 (.bin .sub .other true (.t 38) (.c (.int .i64 1))) :: om 8 39 :: [])) (.seq (.seq (.reg (oo 9 (.mv (.c (.int .i64 1))) :: [])) (.block 0 p58_20)) p58_25))
def p58_3 : PC := .ret
def p58_6 : PC := (.cond (.t 34) (.seq (.reg (oo 6 (.mv (.c (.int .i64 0))) :: oo 7 (.mv (.c (.int .i64 1))) :: [])) p58_3) .skip)
def p58_29 : PC := (.seq (.reg (oo 6 (.mv (.c (.int .i64 0))) :: oo 7 (.mv (.c (.int .i64 0))) :: [])) (.seq (.seq (.reg (om 10 0 :: oo 11 (.bin .lss .other true (.t 10) (.c (.int .i64 2000))) :: om 12 11 :: ⟨some 13, .op (.mv (.t 0)), some (12, false)⟩ :: ⟨some 14, .op (.bin .gtr .other true (.t 13) (.c (.int .i64 2199))), some (12, false)⟩ :: oo 15 (.pick (.t 12) (.c (.bool true)) (.t 14)) :: om 16 15 :: ⟨some 17, .op (.mv (.t 1)), some (16, false)⟩ :: ⟨some 18, .op (.bin .lss .other true (.t 17) (.c (.int .i64 1))), some (16, false)⟩ :: oo 19 (.pick (.t 16) (.c (.bool true)) (.t 18)) :: om 20 19 :: ⟨some 21, .op (.mv (.t 1)), some (20, false)⟩ :: ⟨some 22, .op (.bin .gtr .other true (.t 21) (.c (.int .i64 12))), some (20, false)⟩ :: oo 23 (.pick (.t 20) (.c (.bool true)) (.t 22)) :: om 24 23 :: ⟨some 25, .op (.mv (.t 2)), some (24, false)⟩ :: ⟨some 26, .op (.bin .lss .other true (.t 25) (.c (.int .i64 1))), some (24, false)⟩ :: oo 27 (.pick (.t 24) (.c (.bool true)) (.t 26)) :: om 28 27 :: ⟨some 29, .op (.mv (.t 2)), some (28, false)⟩ :: ⟨some 30, .op (.mv (.t 0)), some (28, false)⟩ :: ⟨some 31, .op (.mv (.t 1)), some (28, false)⟩ :: ⟨some 32, .call 82 [.t 30, .t 31], some (28, false)⟩ :: ⟨some 33, .op (.bin .gtr .other false (.t 29) (.t 32)), some (28, false)⟩ :: oo 34 (.pick (.t 28) (.c (.bool true)) (.t 33)) :: [])) p58_6) p58_27))
theorem fn58 : FnOk Tryz.prog 58 p58_29 51 [.t 6, .t 7] := ⟨false, Tryz.f58, _, Tryz.func58, by decide, rfl, by kernel_rfl, rfl, by kernel_rfl⟩
def L_date_Day_1 (N : Nat) (a1 : Int) (a2 : Int) : Nat → Int → Int → Option (Int)
  | 0, _, _ => none
  | m1 + 1, v1_0, v1_1 =>
    bif decide (v1_1 < a2) then
    ((F_date_length N a1 v1_1).bind fun r15 =>
    (L_date_Day_1 N a1 a2 m1) (IntKind.wrap .i64 (v1_0 + r15)) (IntKind.wrap .i64 (v1_1 + 1)))
    else
    (some v1_0)
def K_date_Day_1 (N : Nat)  : (Int) → Option (Int × Int)
  | x1_0 =>
    some (x1_0, 0)
def F_date_Day  (N : Nat) (a1 : Int) (a2 : Int) (a3 : Int) : Option (Int × Int) :=
      bif decide (a1 < 2000) then
    (some (0, 1))
    else
    (bif decide (2199 < a1) then
    (some (0, 1))
    else
    (bif decide (a2 < 1) then
    (some (0, 1))
    else
    (bif decide (12 < a2) then
    (some (0, 1))
    else
    (bif decide (a3 < 1) then
    (some (0, 1))
    else
    ((F_date_length N a1 a2).bind fun r9 =>
    bif decide (r9 < a3) then
    (some (0, 1))
    else
    ((F_date_begin N a1).bind fun r11 =>
    (L_date_Day_1 N a1 a2 N (IntKind.wrap .i64 ((IntKind.wrap .i64 (r11 + a3)) - 1)) 1).bind (K_date_Day_1 N)))))))
theorem P_date_Day  {N : Nat} {a1 : Int} {a2 : Int} {a3 : Int} {r : Int × Int} (h : F_date_Day N a1 a2 a3 = some r) : Pure Tryz.prog (Gl.at 0) 58 [(i64 a1), (i64 a2), (i64 a3)] (.tup [(i64 r.1), (i64 r.2)]) := by
  refine pure_run fn58 ?_
  rw [F_date_Day] at h
  replace h := bs h
  change GG [.t 6, .t 7] _ [.pc p58_29] (mk 51 [(0, (i64 a1)), (1, (i64 a2)), (2, (i64 a3))]) []
  refine go_if h (fun hb4 h => ?_) (fun hb4 h => ?_)
  · refine gx mo [.pc p58_3, .pc p58_27] 51 [(6, (i64 0)), (7, (i64 1))] [] 40 [twb 3 [] (.bin .lss .other true (.c (i64 a1)) (.c (i64 2000))) (decide (a1 < 2000)) true hb4] ?_
    obtain rfl := Option.some.inj h
    exact gf (.tup [(i64 0), (i64 1)]) (f_tupl (fs (fs fl_nil)))
  · refine go_if h (fun hb5 h => ?_) (fun hb5 h => ?_)
    · refine gx mo [.pc p58_3, .pc p58_27] 51 [(6, (i64 0)), (7, (i64 1))] [] 40 [twb 3 [] (.bin .lss .other true (.c (i64 a1)) (.c (i64 2000))) (decide (a1 < 2000)) false hb4, twb 7 [] (.pick (.c (.bool false)) (.c (.bool true)) (.c (.bool (decide (2199 < a1))))) (decide (2199 < a1)) true hb5] ?_
      obtain rfl := Option.some.inj h
      exact gf (.tup [(i64 0), (i64 1)]) (f_tupl (fs (fs fl_nil)))
    · refine go_if h (fun hb6 h => ?_) (fun hb6 h => ?_)
      · refine gx mo [.pc p58_3, .pc p58_27] 51 [(6, (i64 0)), (7, (i64 1))] [] 40 [twb 3 [] (.bin .lss .other true (.c (i64 a1)) (.c (i64 2000))) (decide (a1 < 2000)) false hb4, twb 7 [] (.pick (.c (.bool false)) (.c (.bool true)) (.c (.bool (decide (2199 < a1))))) (decide (2199 < a1)) false hb5, twb 11 [] (.pick (.c (.bool false)) (.c (.bool true)) (.c (.bool (decide (a2 < 1))))) (decide (a2 < 1)) true hb6] ?_
        obtain rfl := Option.some.inj h
        exact gf (.tup [(i64 0), (i64 1)]) (f_tupl (fs (fs fl_nil)))
      · refine go_if h (fun hb7 h => ?_) (fun hb7 h => ?_)
        · refine gx mo [.pc p58_3, .pc p58_27] 51 [(6, (i64 0)), (7, (i64 1))] [] 40 [twb 3 [] (.bin .lss .other true (.c (i64 a1)) (.c (i64 2000))) (decide (a1 < 2000)) false hb4, twb 7 [] (.pick (.c (.bool false)) (.c (.bool true)) (.c (.bool (decide (2199 < a1))))) (decide (2199 < a1)) false hb5, twb 11 [] (.pick (.c (.bool false)) (.c (.bool true)) (.c (.bool (decide (a2 < 1))))) (decide (a2 < 1)) false hb6, twb 15 [] (.pick (.c (.bool false)) (.c (.bool true)) (.c (.bool (decide (12 < a2))))) (decide (12 < a2)) true hb7] ?_
          obtain rfl := Option.some.inj h
          exact gf (.tup [(i64 0), (i64 1)]) (f_tupl (fs (fs fl_nil)))
        · refine go_if h (fun hb8 h => ?_) (fun hb8 h => ?_)
          · refine gx mo [.pc p58_3, .pc p58_27] 51 [(6, (i64 0)), (7, (i64 1))] [] 40 [twb 3 [] (.bin .lss .other true (.c (i64 a1)) (.c (i64 2000))) (decide (a1 < 2000)) false hb4, twb 7 [] (.pick (.c (.bool false)) (.c (.bool true)) (.c (.bool (decide (2199 < a1))))) (decide (2199 < a1)) false hb5, twb 11 [] (.pick (.c (.bool false)) (.c (.bool true)) (.c (.bool (decide (a2 < 1))))) (decide (a2 < 1)) false hb6, twb 15 [] (.pick (.c (.bool false)) (.c (.bool true)) (.c (.bool (decide (12 < a2))))) (decide (12 < a2)) false hb7, twb 19 [] (.pick (.c (.bool false)) (.c (.bool true)) (.c (.bool (decide (a3 < 1))))) (decide (a3 < 1)) true hb8] ?_
            obtain rfl := Option.some.inj h
            exact gf (.tup [(i64 0), (i64 1)]) (f_tupl (fs (fs fl_nil)))
          · refine go_bind h (fun r9 hr9 h => ?_)
            refine gx mo [.pc p58_6, .pc p58_27] 51 [(0, (i64 a1)), (1, (i64 a2)), (2, (i64 a3)), (34, (.bool (decide (r9 < a3))))] [] 34 [twb 3 [] (.bin .lss .other true (.c (i64 a1)) (.c (i64 2000))) (decide (a1 < 2000)) false hb4, twb 7 [] (.pick (.c (.bool false)) (.c (.bool true)) (.c (.bool (decide (2199 < a1))))) (decide (2199 < a1)) false hb5, twb 11 [] (.pick (.c (.bool false)) (.c (.bool true)) (.c (.bool (decide (a2 < 1))))) (decide (a2 < 1)) false hb6, twb 15 [] (.pick (.c (.bool false)) (.c (.bool true)) (.c (.bool (decide (12 < a2))))) (decide (12 < a2)) false hb7, twb 19 [] (.pick (.c (.bool false)) (.c (.bool true)) (.c (.bool (decide (a3 < 1))))) (decide (a3 < 1)) false hb8, tc 24 [] (P_date_length hr9) (fs (fs fl_nil))] ?_
            refine go_if h (fun hb10 h => ?_) (fun hb10 h => ?_)
            · rw [hb10]
              refine gx mo [.pc p58_3, .pc p58_27] 51 [(6, (i64 0)), (7, (i64 1))] [] 6 [] ?_
              obtain rfl := Option.some.inj h
              exact gf (.tup [(i64 0), (i64 1)]) (f_tupl (fs (fs fl_nil)))
            · rw [hb10]
              refine go_bind h (fun r11 hr11 h => ?_)
              refine gx mo [.pc p58_20, .blk 0, .pc p58_25] 51 [(0, (i64 a1)), (1, (i64 a2)), (8, (i64 (IntKind.wrap .i64 ((IntKind.wrap .i64 (r11 + a3)) - 1)))), (9, (i64 1))] [] 17 [tc 2 [] (P_date_begin hr11) (fs fl_nil)] ?_
              refine go_cut (X := Int) (fun x => (K_date_Day_1 N x).bind some = some r) ([.pc p58_25]) (fun x => (mk 51 [(8, (i64 x))])) (fun x => []) ?_ fun kont1_0 => ?_
              · rintro x1_0 h
                rw [K_date_Day_1] at h
                refine gx mo [.pc p58_24] 51 [(6, (i64 x1_0)), (7, (i64 0))] [] 6 [] ?_
                obtain rfl := Option.some.inj h
                exact gf (.tup [(i64 x1_0), (i64 0)]) (f_tupl (fs (fs fl_nil)))
              refine go_loop' (fun m t s => ∃ (v1_0 : Int) (v1_1 : Int), (L_date_Day_1 N a1 a2 m v1_0 v1_1).bind (fun q => (K_date_Day_1 N q).bind some) = some r ∧ t = (mk 51 [(0, (i64 a1)), (1, (i64 a2)), (8, (i64 v1_0)), (9, (i64 v1_1))]) ∧ s = []) N ⟨IntKind.wrap .i64 ((IntKind.wrap .i64 (r11 + a3)) - 1), 1, go_assoc h, rfl, rfl⟩ ?_
              intro m1 J1 hJ1 t s
              rintro ⟨v1_0, v1_1, h, rfl, rfl⟩
              cases m1 with
              | zero => exact absurd h (by simp [L_date_Day_1])
              | succ m1 =>
                rw [L_date_Day_1] at h
                refine gx mo [.pc p58_13, .pc p58_18, .jp J1, .blk 0, .pc p58_25] 51 [(0, (i64 a1)), (1, (i64 a2)), (8, (i64 v1_0)), (9, (i64 v1_1)), (42, (.bool (decide (v1_1 < a2))))] [] 7 [] ?_
                refine go_if h (fun hb14 h => ?_) (fun hb14 h => ?_)
                · rw [hb14]
                  refine go_bind h (fun r15 hr15 h => ?_)
                  refine gx mo [.jp J1, .blk 0, .pc p58_25] 51 [(0, (i64 a1)), (1, (i64 a2)), (8, (i64 (IntKind.wrap .i64 (v1_0 + r15)))), (9, (i64 (IntKind.wrap .i64 (v1_1 + 1))))] [] 18 [tc 4 [] (P_date_length hr15) (fs (fs fl_nil))] ?_
                  exact go_back rfl (hJ1 m1 _ _ (Nat.lt_succ_self m1) ⟨IntKind.wrap .i64 (v1_0 + r15), IntKind.wrap .i64 (v1_1 + 1), h, rfl, rfl⟩)
                · rw [hb14]
                  refine gx mo [.pc p58_25] 51 [(8, (i64 v1_0))] [] 2 [] ?_
                  exact kont1_0 v1_0 h
/-! corebank/limit.month -/
def p25_4 : PC := .ret
def p25_8 : PC := (.seq (.reg (oo 2 (.mv (.c (.int .i64 0))) :: [])) (.seq (.reg (om 9 0 :: ⟨some 10, .call 57 [.t 9], none⟩ :: om 8 10 :: oo 11 (.ext 0 (.t 8)) :: oo 12 (.ext 1 (.t 8)) :: oo 13 (.ext 2 (.t 8)) :: om 3 11 :: om 4 12 :: om 5 13 :: [])) (.seq (.reg (om 15 3 :: om 16 4 :: ⟨some 17, .call 58 [.t 15, .t 16, .c (.int .i64 1)], none⟩ :: om 14 17 :: oo 18 (.ext 0 (.t 14)) :: oo 19 (.ext 1 (.t 14)) :: om 6 18 :: om 7 19 :: [])) (.seq (.reg (om 20 6 :: om 2 20 :: [])) p25_4))))
theorem fn25 : FnOk Tryz.prog 25 p25_8 21 [.t 2] := ⟨false, Tryz.f25, _, Tryz.func25, by decide, rfl, by kernel_rfl, rfl, by kernel_rfl⟩
def F_limit_month  (N : Nat) (a1 : Int) : Option (Int) :=
      (F_date_Civil N a1).bind fun r2 =>
    (F_date_Day N r2.1 r2.2.1 1).bind fun r3 =>
    some r3.1
theorem P_limit_month  {N : Nat} {a1 : Int} {r : Int} (h : F_limit_month N a1 = some r) : Pure Tryz.prog (Gl.at 0) 25 [(i64 a1)] (i64 r) := by
  refine pure_run fn25 ?_
  rw [F_limit_month] at h
  replace h := bs h
  change GG [.t 2] _ [.pc p25_8] (mk 21 [(0, (i64 a1))]) []
  refine go_bind h (fun r2 hr2 h => ?_)
  refine go_bind h (fun r3 hr3 h => ?_)
  refine gx mo [.pc p25_4] 21 [(2, (i64 r3.1))] [] 32 [tc 2 [] (P_date_Civil hr2) (fs fl_nil), tc 12 [] (P_date_Day hr3) (fs (fs (fs fl_nil)))] ?_
  obtain rfl := Option.some.inj h
  exact gf (i64 r3.1) (.same rfl)
/-! slices.Min[[]int,int] -/
def p28_22 : PC := .ret
def p28_23 : PC := (.seq (.reg (om 24 3 :: om 2 24 :: [])) p28_22)
def p28_16 : PC := (.seq (.block 1 (.reg (om 18 3 :: om 19 0 :: om 20 4 :: oo 21 (.ia 1 (.t 19) (.t 20)) :: oo 22 (.ld1 (.t 21)) :: oo 23 (.min [.t 18, .t 22]) :: om 3 23 :: []))) (.reg (om 16 4 :: oo 17 (.bin .add .other true (.t 16) (.c (.int .i64 1))) :: om 4 17 :: [])))
def p28_11 : PC := (.cond (.t 15) .skip (.exit 0))
def p28_18 : PC := (.loop (.seq (.seq (.reg (om 12 4 :: om 13 0 :: oo 14 (.len .slice (.t 13)) :: oo 15 (.bin .lss .other false (.t 12) (.t 14)) :: [])) p28_11) p28_16))
def p28_25 : PC := (.seq (.reg (om 9 0 :: oo 10 (.ia 1 (.t 9) (.c (.int .i64 0))) :: oo 11 (.ld1 (.t 10)) :: om 3 11 :: [])) (.seq (.seq (.reg (oo 4 (.mv (.c (.int .i64 1))) :: [])) (.block 0 p28_18)) p28_23))
def p28_4 : PC := (.cond (.t 7) (.reg (oo 8 (.ifc 9 (.c (.str [115, 108, 105, 99, 101, 115, 46, 77, 105, 110, 58, 32, 101, 109, 112, 116, 121, 32, 108, 105, 115, 116]))) :: ⟨none, .bad, none⟩ :: [])) .skip)
def p28_27 : PC := (.seq (.reg (oo 2 (.mv (.c (.int .i64 0))) :: [])) (.seq (.seq (.reg (om 5 0 :: oo 6 (.len .slice (.t 5)) :: oo 7 (.bin .lss .other true (.t 6) (.c (.int .i64 1))) :: [])) p28_4) p28_25))
theorem fn28 : FnOk Tryz.prog 28 p28_27 25 [.t 2] := ⟨false, Tryz.f28, _, Tryz.func28, by decide, rfl, by kernel_rfl, rfl, by kernel_rfl⟩
def L_slices_Min_int_1 (N : Nat) (a1 : List Int) : Nat → Int → Int → Option (Int)
  | 0, _, _ => none
  | m1 + 1, v1_0, v1_1 =>
    bif decide (v1_1 < (a1.length : Int)) then
    ((getI a1 v1_1).bind fun y7 =>
    (L_slices_Min_int_1 N a1 m1) (if y7 < v1_0 then y7 else v1_0) (IntKind.wrap .i64 (v1_1 + 1)))
    else
    (some v1_0)
def K_slices_Min_int_1 (N : Nat)  : (Int) → Option (Int)
  | x1_0 =>
    some x1_0
def F_slices_Min_int  (N : Nat) (a1 : List Int) : Option (Int) :=
      bif decide ((a1.length : Int) < 1) then
    (none)
    else
    ((getI a1 0).bind fun y3 =>
    (L_slices_Min_int_1 N a1 N y3 1).bind (K_slices_Min_int_1 N))
theorem P_slices_Min_int  {N : Nat} {a1 : List Int} {r : Int} (h : F_slices_Min_int N a1 = some r) : Pure Tryz.prog (Gl.at 0) 28 [(.sl (a1.map i64))] (i64 r) := by
  refine pure_run fn28 ?_
  rw [F_slices_Min_int] at h
  replace h := bs h
  change GG [.t 2] _ [.pc p28_27] (mk 25 [(0, (.sl (a1.map i64)))]) []
  refine gx mo [.pc p28_4, .pc p28_25] 25 [(0, (.sl (a1.map i64))), (7, (.bool (decide ((a1.length : Int) < 1))))] [] 11 [tw 2 (E_len [] a1 i64)] ?_
  refine go_if h (fun hb2 h => ?_) (fun hb2 h => ?_)
  · rw [hb2]
    cases h
  · rw [hb2]
    refine go_bind h (fun y3 hy3 h => ?_)
    refine gx mo [.pc p28_18, .blk 0, .pc p28_23] 25 [(0, (.sl (a1.map i64))), (3, (i64 y3)), (4, (i64 1))] [] 15 [tw 2 (E_ia [] i64 .i64 hy3)] ?_
    refine go_cut (X := Int) (fun x => (K_slices_Min_int_1 N x).bind some = some r) ([.pc p28_23]) (fun x => (mk 25 [(3, (i64 x))])) (fun x => []) ?_ fun kont1_0 => ?_
    · rintro x1_0 h
      rw [K_slices_Min_int_1] at h
      refine gx mo [.pc p28_22] 25 [(2, (i64 x1_0))] [] 5 [] ?_
      obtain rfl := Option.some.inj h
      exact gf (i64 x1_0) (.same rfl)
    refine go_loop' (fun m t s => ∃ (v1_0 : Int) (v1_1 : Int), (L_slices_Min_int_1 N a1 m v1_0 v1_1).bind (fun q => (K_slices_Min_int_1 N q).bind some) = some r ∧ t = (mk 25 [(0, (.sl (a1.map i64))), (3, (i64 v1_0)), (4, (i64 v1_1))]) ∧ s = []) N ⟨y3, 1, go_assoc h, rfl, rfl⟩ ?_
    intro m1 J1 hJ1 t s
    rintro ⟨v1_0, v1_1, h, rfl, rfl⟩
    cases m1 with
    | zero => exact absurd h (by simp [L_slices_Min_int_1])
    | succ m1 =>
      rw [L_slices_Min_int_1] at h
      refine gx mo [.pc p28_11, .pc p28_16, .jp J1, .blk 0, .pc p28_23] 25 [(0, (.sl (a1.map i64))), (3, (i64 v1_0)), (4, (i64 v1_1)), (15, (.bool (decide (v1_1 < (a1.length : Int)))))] [] 8 [tw 2 (E_len [] a1 i64)] ?_
      refine go_if h (fun hb6 h => ?_) (fun hb6 h => ?_)
      · rw [hb6]
        refine go_bind h (fun y7 hy7 h => ?_)
        refine gx mo [.jp J1, .blk 0, .pc p28_23] 25 [(0, (.sl (a1.map i64))), (3, (i64 (if y7 < v1_0 then y7 else v1_0))), (4, (i64 (IntKind.wrap .i64 (v1_1 + 1))))] [] 19 [tw 4 (E_ia [] i64 .i64 hy7)] ?_
        exact go_back rfl (hJ1 m1 _ _ (Nat.lt_succ_self m1) ⟨if y7 < v1_0 then y7 else v1_0, IntKind.wrap .i64 (v1_1 + 1), h, rfl, rfl⟩)
      · rw [hb6]
        refine gx mo [.pc p28_23] 25 [(3, (i64 v1_0))] [] 2 [] ?_
        exact kont1_0 v1_0 h
/-! corebank/limit.touches$1 -/
def p61_2 : PC := .ret
def p61_4 : PC := (.seq (.reg (oo 2 (.box (.t 0)) :: oo 3 (.mv (.c (.bool false))) :: [])) (.seq (.reg (oo 4 (.fa 0 (.t 2)) :: oo 5 (.ld1 (.t 4)) :: oo 6 (.ld1 (.t 1)) :: oo 7 (.bin .eql .other false (.t 5) (.t 6)) :: om 3 7 :: [])) p61_2))
theorem fn61 : FnOk Tryz.prog 61 p61_4 8 [.t 3] := ⟨false, Tryz.f61, _, Tryz.func61, by decide, rfl, by kernel_rfl, rfl, by kernel_rfl⟩
def F_limit_touches_c1_vb45  (N : Nat) (a1 : ApiLeg) (a2 : Int) : Option (Bool) :=
      some (decide (a1.Account_ = a2))
theorem P_limit_touches_c1_vb45  {N : Nat} {a1 : ApiLeg} {a2 : Int} {r : Bool} (h : F_limit_touches_c1_vb45 N a1 a2 = some r) : Pure Tryz.prog (Gl.at 0) 61 [(ApiLeg.v a1), (.imm [(i64 a2)] 0)] (.bool r) := by
  refine pure_run fn61 ?_
  rw [F_limit_touches_c1_vb45] at h
  replace h := bs h
  change GG [.t 3] _ [.pc p61_4] (mk 8 [(0, (ApiLeg.v a1)), (1, (.imm [(i64 a2)] 0))]) []
  refine gx mo [.pc p61_2] 8 [(3, (.bool (decide (a1.Account_ = a2))))] [.row 3 [(ApiLeg.v a1)]] 13 [] ?_
  obtain rfl := Option.some.inj h
  exact gf (.bool (decide (a1.Account_ = a2))) (.same rfl)
/-! slices.IndexFunc[[]corebank/api.Leg,corebank/api.Leg] -/
def p84_24 : PC := .ret
def p84_25 : PC := (.seq (.reg (oo 4 (.mv (.c (.int .i64 (-1)))) :: [])) p84_24)
def p84_16 : PC := (.reg (oo 18 (.bin .add .other true (.t 8) (.c (.int .i64 1))) :: om 8 18 :: []))
def p84_9 : PC := .ret
def p84_12 : PC := (.cond (.t 16) (.seq (.reg (om 17 5 :: om 4 17 :: [])) p84_9) .skip)
def p84_17 : PC := (.seq (.block 1 (.seq (.reg (om 10 8 :: om 5 10 :: [])) (.seq (.reg (om 11 1 :: om 12 0 :: om 13 5 :: oo 14 (.ia 3 (.t 12) (.t 13)) :: oo 15 (.ldA 3 (.t 14)) :: ⟨some 16, .dyn (.t 11) [.t 15], none⟩ :: [])) p84_12))) p84_16)
def p84_5 : PC := (.cond (.t 9) .skip (.exit 0))
def p84_20 : PC := (.loop (.seq (.reg (oo 9 (.bin .lss .other false (.t 8) (.t 7)) :: [])) (.seq p84_5 p84_17)))
def p84_27 : PC := (.seq (.reg (oo 4 (.mv (.c (.int .i64 0))) :: [])) (.seq (.seq (.reg (om 6 0 :: oo 7 (.len .slice (.t 6)) :: oo 8 (.mv (.c (.int .i64 0))) :: [])) (.block 0 p84_20)) p84_25))
theorem fn84 : FnOk Tryz.prog 84 p84_27 19 [.t 4] := ⟨false, Tryz.f84, _, Tryz.func84, by decide, rfl, by kernel_rfl, rfl, by kernel_rfl⟩
def L_slices_IndexFunc_api_Leg_v0d5_1 (N : Nat) (a1 : List ApiLeg) (a2 : Int) : Nat → Int → Option (Br (Int) (Unit))
  | 0, _ => none
  | m1 + 1, v1_0 =>
    bif decide (v1_0 < (a1.length : Int)) then
    ((getI a1 v1_0).bind fun y8 =>
    (F_limit_touches_c1_vb45 N y8 a2).bind fun r9 =>
    bif r9 then
    (some (.ret v1_0))
    else
    ((L_slices_IndexFunc_api_Leg_v0d5_1 N a1 a2 m1) (IntKind.wrap .i64 (v1_0 + 1))))
    else
    (some (.brk ()))
def K_slices_IndexFunc_api_Leg_v0d5_1 (N : Nat)  : Br (Int) (Unit) → Option (Int)
  | .ret r => some r
  | .brk _ =>
    some (-1)
def F_slices_IndexFunc_api_Leg_v0d5  (N : Nat) (a1 : List ApiLeg) (a2 : Int) : Option (Int) :=
      (L_slices_IndexFunc_api_Leg_v0d5_1 N a1 a2 N 0).bind (K_slices_IndexFunc_api_Leg_v0d5_1 N)
theorem P_slices_IndexFunc_api_Leg_v0d5  {N : Nat} {a1 : List ApiLeg} {a2 : Int} {r : Int} (h : F_slices_IndexFunc_api_Leg_v0d5 N a1 a2 = some r) : Pure Tryz.prog (Gl.at 0) 84 [(.sl (a1.map ApiLeg.v)), (.fn (.func 61) [] [(.imm [(i64 a2)] 0)])] (i64 r) := by
  refine pure_run fn84 ?_
  rw [F_slices_IndexFunc_api_Leg_v0d5] at h
  replace h := bs h
  change GG [.t 4] _ [.pc p84_27] (mk 19 [(0, (.sl (a1.map ApiLeg.v))), (1, (.fn (.func 61) [] [(.imm [(i64 a2)] 0)]))]) []
  refine gx mo [.pc p84_20, .blk 0, .pc p84_25] 19 [(0, (.sl (a1.map ApiLeg.v))), (1, (.fn (.func 61) [] [(.imm [(i64 a2)] 0)])), (7, (i64 (a1.length : Int))), (8, (i64 0))] [] 12 [tw 2 (E_len [] a1 ApiLeg.v)] ?_
  refine go_cut (X := Unit) (fun x => (K_slices_IndexFunc_api_Leg_v0d5_1 N (.brk x)).bind some = some r) ([.pc p84_25]) (fun x => (mk 19 [])) (fun x => []) ?_ fun kont1_0 => ?_
  · rintro _ h
    rw [K_slices_IndexFunc_api_Leg_v0d5_1] at h
    refine gx mo [.pc p84_24] 19 [(4, (i64 (-1)))] [] 4 [] ?_
    obtain rfl := Option.some.inj h
    exact gf (i64 (-1)) (.same rfl)
  refine go_loop' (fun m t s => ∃ (v1_0 : Int), (L_slices_IndexFunc_api_Leg_v0d5_1 N a1 a2 m v1_0).bind (fun q => (K_slices_IndexFunc_api_Leg_v0d5_1 N q).bind some) = some r ∧ t = (mk 19 [(0, (.sl (a1.map ApiLeg.v))), (1, (.fn (.func 61) [] [(.imm [(i64 a2)] 0)])), (7, (i64 (a1.length : Int))), (8, (i64 v1_0))]) ∧ s = []) N ⟨0, go_assoc h, rfl, rfl⟩ ?_
  intro m1 J1 hJ1 t s
  rintro ⟨v1_0, h, rfl, rfl⟩
  cases m1 with
  | zero => exact absurd h (by simp [L_slices_IndexFunc_api_Leg_v0d5_1])
  | succ m1 =>
    rw [L_slices_IndexFunc_api_Leg_v0d5_1] at h
    refine gx mo [.pc p84_5, .pc p84_17, .jp J1, .blk 0, .pc p84_25] 19 [(0, (.sl (a1.map ApiLeg.v))), (1, (.fn (.func 61) [] [(.imm [(i64 a2)] 0)])), (7, (i64 (a1.length : Int))), (8, (i64 v1_0)), (9, (.bool (decide (v1_0 < (a1.length : Int)))))] [] 5 [] ?_
    refine go_if h (fun hb7 h => ?_) (fun hb7 h => ?_)
    · rw [hb7]
      refine go_bind h (fun y8 hy8 h => ?_)
      refine go_bind h (fun r9 hr9 h => ?_)
      refine gx mo [.pc p84_12, .blk 1, .pc p84_16, .jp J1, .blk 0, .pc p84_25] 19 [(0, (.sl (a1.map ApiLeg.v))), (1, (.fn (.func 61) [] [(.imm [(i64 a2)] 0)])), (5, (i64 v1_0)), (7, (i64 (a1.length : Int))), (8, (i64 v1_0)), (16, (.bool r9))] [] 18 [tw 6 (E_ia [] ApiLeg.v .i64 hy8), td 8 [] [] [(.imm [(i64 a2)] 0)] [(ApiLeg.v y8)] (P_limit_touches_c1_vb45 hr9) (fg (fs fl_nil))] ?_
      refine go_if h (fun hb10 h => ?_) (fun hb10 h => ?_)
      · rw [hb10]
        refine gx mo [.pc p84_9, .blk 1, .pc p84_16, .jp J1, .blk 0, .pc p84_25] 19 [(4, (i64 v1_0))] [] 6 [] ?_
        obtain rfl := Option.some.inj h
        exact gf (i64 v1_0) (.same rfl)
      · rw [hb10]
        refine gx mo [.jp J1, .blk 0, .pc p84_25] 19 [(0, (.sl (a1.map ApiLeg.v))), (1, (.fn (.func 61) [] [(.imm [(i64 a2)] 0)])), (7, (i64 (a1.length : Int))), (8, (i64 (IntKind.wrap .i64 (v1_0 + 1))))] [] 7 [] ?_
        exact go_back rfl (hJ1 m1 _ _ (Nat.lt_succ_self m1) ⟨IntKind.wrap .i64 (v1_0 + 1), h, rfl, rfl⟩)
    · rw [hb7]
      refine gx mo [.pc p84_25] 19 [] [] 2 [] ?_
      exact kont1_0 () h
/-! slices.ContainsFunc[[]corebank/api.Leg,corebank/api.Leg] -/
def p60_2 : PC := .ret
def p60_4 : PC := (.seq (.reg (oo 4 (.mv (.c (.bool false))) :: [])) (.seq (.reg (om 5 0 :: om 6 1 :: ⟨some 7, .call 84 [.t 5, .t 6], none⟩ :: oo 8 (.bin .geq .other true (.t 7) (.c (.int .i64 0))) :: om 4 8 :: [])) p60_2))
theorem fn60 : FnOk Tryz.prog 60 p60_4 9 [.t 4] := ⟨false, Tryz.f60, _, Tryz.func60, by decide, rfl, by kernel_rfl, rfl, by kernel_rfl⟩
def F_slices_ContainsFunc_api_Leg_v0d5  (N : Nat) (a1 : List ApiLeg) (a2 : Int) : Option (Bool) :=
      (F_slices_IndexFunc_api_Leg_v0d5 N a1 a2).bind fun r3 =>
    some (decide (0 ≤ r3))
theorem P_slices_ContainsFunc_api_Leg_v0d5  {N : Nat} {a1 : List ApiLeg} {a2 : Int} {r : Bool} (h : F_slices_ContainsFunc_api_Leg_v0d5 N a1 a2 = some r) : Pure Tryz.prog (Gl.at 0) 60 [(.sl (a1.map ApiLeg.v)), (.fn (.func 61) [] [(.imm [(i64 a2)] 0)])] (.bool r) := by
  refine pure_run fn60 ?_
  rw [F_slices_ContainsFunc_api_Leg_v0d5] at h
  replace h := bs h
  change GG [.t 4] _ [.pc p60_4] (mk 9 [(0, (.sl (a1.map ApiLeg.v))), (1, (.fn (.func 61) [] [(.imm [(i64 a2)] 0)]))]) []
  refine go_bind h (fun r3 hr3 h => ?_)
  refine gx mo [.pc p60_2] 9 [(4, (.bool (decide (0 ≤ r3))))] [] 12 [tc 3 [] (P_slices_IndexFunc_api_Leg_v0d5 hr3) (fs (fl_cons (f_fn fl_nil (fl_cons (.same rfl) fl_nil)) fl_nil))] ?_
  obtain rfl := Option.some.inj h
  exact gf (.bool (decide (0 ≤ r3))) (.same rfl)
/-! corebank/limit.touches -/
def p30_2 : PC := .ret
def p30_4 : PC := (.seq (.reg (oo 2 (.box (.t 0)) :: oo 3 (.box (.t 1)) :: oo 4 (.mv (.c (.bool false))) :: [])) (.seq (.reg (oo 5 (.fa 8 (.t 2)) :: oo 6 (.ld1 (.t 5)) :: oo 7 (.fn (.func 61) [] [.t 3]) :: ⟨some 8, .call 60 [.t 6, .t 7], none⟩ :: om 4 8 :: [])) p30_2))
theorem fn30 : FnOk Tryz.prog 30 p30_4 9 [.t 4] := ⟨false, Tryz.f30, _, Tryz.func30, by decide, rfl, by kernel_rfl, rfl, by kernel_rfl⟩
def F_limit_touches  (N : Nat) (a1 : ApiEntry) (a2 : Int) : Option (Bool) :=
      (F_slices_ContainsFunc_api_Leg_v0d5 N a1.Legs_ a2).bind fun r3 =>
    some r3
theorem P_limit_touches  {N : Nat} {a1 : ApiEntry} {a2 : Int} {r : Bool} (h : F_limit_touches N a1 a2 = some r) : Pure Tryz.prog (Gl.at 0) 30 [(ApiEntry.v a1), (i64 a2)] (.bool r) := by
  refine pure_run fn30 ?_
  rw [F_limit_touches] at h
  replace h := bs h
  change GG [.t 4] _ [.pc p30_4] (mk 9 [(0, (ApiEntry.v a1)), (1, (i64 a2))]) []
  refine go_bind h (fun r3 hr3 h => ?_)
  refine gx mo [.pc p30_2] 9 [(4, (.bool r3))] [.row 10 [(ApiEntry.v a1)], .row 1 [(i64 a2)]] 14 [tc 6 [.row 10 [(ApiEntry.v a1)], .row 1 [(i64 a2)]] (P_slices_ContainsFunc_api_Leg_v0d5 hr3) (fs (fl_cons (f_fn fl_nil (fl_cons (f_ref (c := 1) (u := (i64 a2)) rfl (.same rfl)) fl_nil)) fl_nil))] ?_
  obtain rfl := Option.some.inj h
  exact gf (.bool r3) (.same rfl)
/-! corebank/limit.Env$1 -/
def p31_2 : PC := .ret
def p31_4 : PC := (.seq (.reg (oo 2 (.new (.agg [.int .i64 0, .int .i64 0])) :: [])) (.seq (.reg (om 3 0 :: oo 4 (.build [.int .i64 0, .int .i64 0] [(0, 1, .c (.int .i64 2)), (1, 1, .t 3)]) :: on_ (.st 2 (.t 2) (.t 4)) :: [])) p31_2))
theorem fn31 : FnOk Tryz.prog 31 p31_4 5 [.a 2 2] := ⟨false, Tryz.f31, _, Tryz.func31, by decide, rfl, by kernel_rfl, rfl, by kernel_rfl⟩
def F_limit_Env_c1  (N : Nat) (a1 : Int) : Option (ApiValue) :=
      some (⟨2, a1⟩ : ApiValue)
theorem P_limit_Env_c1  {N : Nat} {a1 : Int} {r : ApiValue} (h : F_limit_Env_c1 N a1 = some r) : Pure Tryz.prog (Gl.at 0) 31 [(i64 a1)] (ApiValue.v r) := by
  refine pure_run fn31 ?_
  rw [F_limit_Env_c1] at h
  replace h := bs h
  change GG [.a 2 2] _ [.pc p31_4] (mk 5 [(0, (i64 a1))]) []
  refine gx mo [.pc p31_2] 5 [(2, (.ref 0 0 0))] [.row 2 [(.agg [(i64 2), (i64 a1)])]] 10 [] ?_
  obtain rfl := Option.some.inj h
  exact gf (.agg [(i64 2), (i64 a1)]) (f_agg rfl)
/-! corebank/limit.Env$2 -/
def p32_2 : PC := .ret
def p32_4 : PC := (.seq (.reg (oo 2 (.new (.agg [.int .i64 0, .int .i64 0])) :: [])) (.seq (.reg (om 3 0 :: oo 4 (.build [.int .i64 0, .int .i64 0] [(0, 1, .c (.int .i64 1)), (1, 1, .t 3)]) :: on_ (.st 2 (.t 2) (.t 4)) :: [])) p32_2))
theorem fn32 : FnOk Tryz.prog 32 p32_4 5 [.a 2 2] := ⟨false, Tryz.f32, _, Tryz.func32, by decide, rfl, by kernel_rfl, rfl, by kernel_rfl⟩
def F_limit_Env_c2  (N : Nat) (a1 : Int) : Option (ApiValue) :=
      some (⟨1, a1⟩ : ApiValue)
theorem P_limit_Env_c2  {N : Nat} {a1 : Int} {r : ApiValue} (h : F_limit_Env_c2 N a1 = some r) : Pure Tryz.prog (Gl.at 0) 32 [(i64 a1)] (ApiValue.v r) := by
  refine pure_run fn32 ?_
  rw [F_limit_Env_c2] at h
  replace h := bs h
  change GG [.a 2 2] _ [.pc p32_4] (mk 5 [(0, (i64 a1))]) []
  refine gx mo [.pc p32_2] 5 [(2, (.ref 0 0 0))] [.row 2 [(.agg [(i64 1), (i64 a1)])]] 10 [] ?_
  obtain rfl := Option.some.inj h
  exact gf (.agg [(i64 1), (i64 a1)]) (f_agg rfl)
/-! corebank/limit.Env -/
def p7_72 : PC := .ret
def p7_75 : PC := (.seq (.reg (oo 23 (.mv (.c (.fn (.func 31) [] []))) :: [])) (.seq (.reg (oo 24 (.mv (.c (.fn (.func 32) [] []))) :: [])) (.seq (.drawn (om 116 23 :: om 117 13 :: ⟨some 118, .dyn (.t 116) [.t 117], none⟩ :: om 119 23 :: om 120 14 :: ⟨some 121, .dyn (.t 119) [.t 120], none⟩ :: om 122 23 :: om 123 16 :: ⟨some 124, .dyn (.t 122) [.t 123], none⟩ :: om 125 23 :: om 126 3 :: ⟨some 127, .dyn (.t 125) [.t 126], none⟩ :: om 128 24 :: om 129 18 :: ⟨some 130, .dyn (.t 128) [.t 129], none⟩ :: om 131 24 :: om 132 2 :: oo 133 (.fa 1 (.t 10)) :: oo 134 (.ld1 (.t 133)) :: oo 135 (.bin .sub .other false (.t 132) (.t 134)) :: ⟨some 136, .dyn (.t 131) [.t 135], none⟩ :: om 137 2 :: oo 138 (.build [.int .i64 0, .int .i64 0] [(0, 1, .c (.int .i64 4)), (1, 1, .t 137)]) :: oo 139 (.lit (.agg [.int .i64 0, .int .i64 0]) 7 [(0, .t 118), (1, .t 121), (2, .t 124), (3, .t 127), (4, .t 130), (5, .t 136), (6, .t 138)]) :: om 8 139 :: oo 9 (.mv (.c (.int .i64 0))) :: []) [[], [], [0, 1], [], [], [3, 4, 2], [], [], [6, 7, 5], [], [], [9, 10, 8], [], [], [12, 13, 11], [], [], [], [17], [16, 18], [15, 19, 14], [], [21], [2, 5, 8, 11, 14, 20, 22], [23, 20, 0, 1, 2, 3, 4, 5, 6, 7, 8, 9, 10, 11, 12, 13, 14, 15, 16, 17, 18, 19, 20, 21, 22, 23], [24, 0, 1, 2, 3, 4, 5, 6, 7, 8, 9, 10, 11, 12, 13, 14, 15, 16, 17, 18, 19, 20, 21, 22, 23, 24]]) p7_72)))
def p7_62 : PC := (.reg (oo 115 (.bin .add .other true (.t 105) (.c (.int .i64 1))) :: om 105 115 :: []))
def p7_55 : PC := .ret
def p7_58 : PC := (.cond (.t 114) (.seq (.reg (oo 8 (.mv (.c .nils)) :: oo 9 (.mv (.c (.int .i64 6))) :: [])) p7_55) .skip)
def p7_63 : PC := (.seq (.block 4 (.seq (.reg (oo 107 (.ia 1 (.t 103) (.t 105)) :: oo 108 (.ld1 (.t 107)) :: om 22 108 :: [])) (.seq (.reg (om 109 22 :: oo 110 (.bin .lss .other true (.t 109) (.c (.int .i64 (-1000000000000)))) :: om 111 110 :: ⟨some 112, .op (.mv (.t 22)), some (111, false)⟩ :: ⟨some 113, .op (.bin .gtr .other true (.t 112) (.c (.int .i64 1000000000000))), some (111, false)⟩ :: oo 114 (.pick (.t 111) (.c (.bool true)) (.t 113)) :: [])) p7_58))) p7_62)
def p7_51 : PC := (.cond (.t 106) .skip (.exit 3))
def p7_66 : PC := (.loop (.seq (.reg (oo 106 (.bin .lss .other false (.t 105) (.t 104)) :: [])) (.seq p7_51 p7_63)))
def p7_76 : PC := (.seq (.seq (.reg (om 99 13 :: om 100 14 :: om 101 16 :: om 102 3 :: oo 103 (.lit (.int .i64 0) 4 [(0, .t 99), (1, .t 100), (2, .t 101), (3, .t 102)]) :: oo 104 (.len .slice (.t 103)) :: oo 105 (.mv (.c (.int .i64 0))) :: [])) (.block 3 p7_66)) p7_75)
def p7_40 : PC := (.reg (oo 98 (.bin .add .other true (.t 77) (.c (.int .i64 1))) :: om 77 98 :: []))
def p7_36 : PC := (.cond (.t 95) (.reg (om 96 18 :: oo 97 (.bin .add .other true (.t 96) (.c (.int .i64 1))) :: om 18 97 :: [])) .skip)
def p7_41 : PC := (.seq (.block 2 (.seq (.reg (oo 79 (.ia 10 (.t 75) (.t 77)) :: oo 80 (.ldA 10 (.t 79)) :: oo 20 (.new (.agg [.int .i64 0, .int .i64 0, .int .i64 0, .int .i64 0, .int .i64 0, .int .i64 0, .str [], .str [], .nils, .int .u64 0])) :: on_ (.st 10 (.t 20) (.t 80)) :: [])) (.seq (.reg (oo 81 (.fa 1 (.t 20)) :: oo 82 (.ld1 (.t 81)) :: om 83 12 :: oo 84 (.bin .geq .other false (.t 82) (.t 83)) :: om 85 84 :: ⟨some 86, .op (.fa 1 (.t 20)), some (85, true)⟩ :: ⟨some 87, .op (.ld1 (.t 86)), some (85, true)⟩ :: ⟨some 88, .op (.mv (.t 2)), some (85, true)⟩ :: ⟨some 89, .op (.bin .leq .other false (.t 87) (.t 88)), some (85, true)⟩ :: oo 90 (.pick (.t 85) (.t 89) (.c (.bool false))) :: om 91 90 :: ⟨some 92, .op (.ldA 10 (.t 20)), some (91, true)⟩ :: ⟨some 93, .op (.mv (.t 1)), some (91, true)⟩ :: ⟨some 94, .call 30 [.t 92, .t 93], some (91, true)⟩ :: oo 95 (.pick (.t 91) (.t 94) (.c (.bool false))) :: [])) p7_36))) p7_40)
def p7_31 : PC := (.cond (.t 78) .skip (.exit 1))
def p7_44 : PC := (.loop (.seq (.reg (oo 78 (.bin .lss .other false (.t 77) (.t 76)) :: [])) (.seq p7_31 p7_41)))
def p7_79 : PC := (.seq (.reg (oo 66 (.fa 19 (.t 4)) :: oo 67 (.ld1 (.t 66)) :: om 68 1 :: om 69 12 :: om 70 2 :: ⟨some 71, .call 29 [.t 67, .t 68, .t 69, .t 70], none⟩ :: om 65 71 :: oo 72 (.ext 0 (.t 65)) :: oo 73 (.ext 1 (.t 65)) :: om 16 72 :: om 17 73 :: [])) (.seq (.reg (oo 18 (.mv (.c (.int .i64 0))) :: [])) (.seq (.seq (.reg (oo 74 (.fa 19 (.t 4)) :: oo 75 (.ld1 (.t 74)) :: oo 76 (.len .slice (.t 75)) :: oo 77 (.mv (.c (.int .i64 0))) :: [])) (.block 1 p7_44)) p7_76)))
def p7_22 : PC := (.cond (.t 62) (.reg (om 63 15 :: ⟨some 64, .call 28 [.t 63], none⟩ :: om 14 64 :: [])) .skip)
def p7_82 : PC := (.seq (.reg (om 45 2 :: ⟨some 46, .call 25 [.t 45], none⟩ :: om 12 46 :: [])) (.seq (.reg (oo 47 (.fa 19 (.t 4)) :: oo 48 (.ld1 (.t 47)) :: om 49 1 :: ⟨some 50, .call 26 [.t 48, .t 49], none⟩ :: om 13 50 :: oo 14 (.mv (.c (.int .i64 0))) :: [])) (.seq (.seq (.reg (oo 51 (.fa 19 (.t 4)) :: oo 52 (.ld1 (.t 51)) :: om 53 1 :: om 54 12 :: oo 55 (.fa 1 (.t 10)) :: oo 56 (.ld1 (.t 55)) :: oo 57 (.max [.t 54, .t 56]) :: om 58 2 :: ⟨some 59, .call 27 [.t 52, .t 53, .t 57, .t 58], none⟩ :: om 15 59 :: [])) (.seq (.reg (om 60 15 :: oo 61 (.len .slice (.t 60)) :: oo 62 (.bin .gtr .other true (.t 61) (.c (.int .i64 0))) :: [])) p7_22)) p7_79)))
def p7_8 : PC := .ret
def p7_11 : PC := (.cond (.t 34) (.seq (.reg (oo 8 (.mv (.c .nils)) :: oo 9 (.mv (.c (.int .i64 16))) :: [])) p7_8) .skip)
def p7_4 : PC := .ret
def p7_13 : PC := (.cond (.t 31) (.seq (.reg (oo 8 (.mv (.c .nils)) :: oo 9 (.mv (.c (.int .i64 11))) :: [])) p7_4) (.seq (.reg (om 35 2 :: ⟨some 36, .call 23 [.t 35], none⟩ :: oo 37 (.un .not (.t 36)) :: om 38 37 :: ⟨some 39, .op (.ldA 22 (.t 4)), some (38, false)⟩ :: ⟨some 40, .op (.mv (.t 1)), some (38, false)⟩ :: ⟨some 41, .op (.mv (.t 2)), some (38, false)⟩ :: ⟨some 42, .call 24 [.t 39, .t 40, .t 41], some (38, false)⟩ :: ⟨some 43, .op (.un .not (.t 42)), some (38, false)⟩ :: oo 44 (.pick (.t 38) (.c (.bool true)) (.t 43)) :: om 34 44 :: [])) p7_11))
def p7_85 : PC := (.seq (.reg (oo 4 (.box (.t 0)) :: oo 8 (.mv (.c .nils)) :: oo 9 (.mv (.c (.int .i64 0))) :: [])) (.seq (.reg (oo 26 (.ldA 22 (.t 4)) :: om 27 1 :: ⟨some 28, .call 22 [.t 26, .t 27], none⟩ :: om 25 28 :: oo 29 (.ext 0 (.t 25)) :: oo 30 (.ext 1 (.t 25)) :: oo 10 (.new (.agg [.int .i64 0, .int .i64 0, .int .i64 0, .int .i64 0, .str [], .str [], .str []])) :: on_ (.st 7 (.t 10) (.t 29)) :: om 11 30 :: [])) (.seq (.block 0 (.seq (.reg (om 32 11 :: oo 33 (.un .not (.t 32)) :: om 31 33 :: [])) p7_13)) p7_82)))
theorem fn7 : FnOk Tryz.prog 7 p7_85 140 [.t 8, .t 9] := ⟨false, Tryz.f7, _, Tryz.func7, by decide, rfl, by kernel_rfl, rfl, by kernel_rfl⟩
def L_limit_Env_2 (N : Nat) (a4 : Int) (r12 : Int) (r15 : Int) (r16 : Int × Int) : Nat → Int → Option (Br ((List ApiValue) × Int) (Unit))
  | 0, _ => none
  | m2 + 1, v2_0 =>
    bif decide (v2_0 < 4) then
    ((getI ([r12, r15, r16.1, a4] : List Int) v2_0).bind fun y34 =>
    bif decide (y34 < (-1000000000000)) then
    (some (.ret ([], 6)))
    else
    (bif decide (1000000000000 < y34) then
    (some (.ret ([], 6)))
    else
    ((L_limit_Env_2 N a4 r12 r15 r16 m2) (IntKind.wrap .i64 (v2_0 + 1)))))
    else
    (some (.brk ()))
def K_limit_Env_2 (N : Nat) (a3 : Int) (a4 : Int) (r5 : ApiAccount × Bool) (r12 : Int) (r15 : Int) (r16 : Int × Int) (x1_0 : Int) : Br ((List ApiValue) × Int) (Unit) → Option ((List ApiValue) × Int)
  | .ret r => some r
  | .brk _ =>
    (F_limit_Env_c1 N r12).bind fun r27 =>
    (F_limit_Env_c1 N r15).bind fun r28 =>
    (F_limit_Env_c1 N r16.1).bind fun r29 =>
    (F_limit_Env_c1 N a4).bind fun r30 =>
    (F_limit_Env_c2 N x1_0).bind fun r31 =>
    (F_limit_Env_c2 N (IntKind.wrap .i64 (a3 - r5.1.Opened_))).bind fun r32 =>
    some ([r27, r28, r29, r30, r31, r32, (⟨4, a3⟩ : ApiValue)], 0)
def L_limit_Env_1 (N : Nat) (a1 : ApiBooks) (a2 : Int) (a3 : Int) (r11 : Int) : Nat → Int → Int → Option (Int)
  | 0, _, _ => none
  | m1 + 1, v1_0, v1_1 =>
    bif decide (v1_1 < (a1.Journal_.length : Int)) then
    ((getI a1.Journal_ v1_1).bind fun y38 =>
    bif decide (r11 ≤ y38.Booked_) then
    (bif decide (y38.Booked_ ≤ a3) then
    ((F_limit_touches N y38 a2).bind fun r41 =>
    bif r41 then
    ((L_limit_Env_1 N a1 a2 a3 r11 m1) (IntKind.wrap .i64 (v1_0 + 1)) (IntKind.wrap .i64 (v1_1 + 1)))
    else
    ((L_limit_Env_1 N a1 a2 a3 r11 m1) v1_0 (IntKind.wrap .i64 (v1_1 + 1))))
    else
    ((L_limit_Env_1 N a1 a2 a3 r11 m1) v1_0 (IntKind.wrap .i64 (v1_1 + 1))))
    else
    ((L_limit_Env_1 N a1 a2 a3 r11 m1) v1_0 (IntKind.wrap .i64 (v1_1 + 1))))
    else
    (some v1_0)
def K_limit_Env_1 (N : Nat) (a3 : Int) (a4 : Int) (r5 : ApiAccount × Bool) (r12 : Int) (r15 : Int) (r16 : Int × Int) : (Int) → Option ((List ApiValue) × Int)
  | x1_0 =>
    (L_limit_Env_2 N a4 r12 r15 r16 N 0).bind (K_limit_Env_2 N a3 a4 r5 r12 r15 r16 x1_0)
def L_limit_Env_4 (N : Nat) (a4 : Int) (r12 : Int) (r43 : Int × Int) : Nat → Int → Option (Br ((List ApiValue) × Int) (Unit))
  | 0, _ => none
  | m4 + 1, v4_0 =>
    bif decide (v4_0 < 4) then
    ((getI ([r12, 0, r43.1, a4] : List Int) v4_0).bind fun y61 =>
    bif decide (y61 < (-1000000000000)) then
    (some (.ret ([], 6)))
    else
    (bif decide (1000000000000 < y61) then
    (some (.ret ([], 6)))
    else
    ((L_limit_Env_4 N a4 r12 r43 m4) (IntKind.wrap .i64 (v4_0 + 1)))))
    else
    (some (.brk ()))
def K_limit_Env_4 (N : Nat) (a3 : Int) (a4 : Int) (r5 : ApiAccount × Bool) (r12 : Int) (r43 : Int × Int) (x3_0 : Int) : Br ((List ApiValue) × Int) (Unit) → Option ((List ApiValue) × Int)
  | .ret r => some r
  | .brk _ =>
    (F_limit_Env_c1 N r12).bind fun r54 =>
    (F_limit_Env_c1 N 0).bind fun r55 =>
    (F_limit_Env_c1 N r43.1).bind fun r56 =>
    (F_limit_Env_c1 N a4).bind fun r57 =>
    (F_limit_Env_c2 N x3_0).bind fun r58 =>
    (F_limit_Env_c2 N (IntKind.wrap .i64 (a3 - r5.1.Opened_))).bind fun r59 =>
    some ([r54, r55, r56, r57, r58, r59, (⟨4, a3⟩ : ApiValue)], 0)
def L_limit_Env_3 (N : Nat) (a1 : ApiBooks) (a2 : Int) (a3 : Int) (r11 : Int) : Nat → Int → Int → Option (Int)
  | 0, _, _ => none
  | m3 + 1, v3_0, v3_1 =>
    bif decide (v3_1 < (a1.Journal_.length : Int)) then
    ((getI a1.Journal_ v3_1).bind fun y65 =>
    bif decide (r11 ≤ y65.Booked_) then
    (bif decide (y65.Booked_ ≤ a3) then
    ((F_limit_touches N y65 a2).bind fun r68 =>
    bif r68 then
    ((L_limit_Env_3 N a1 a2 a3 r11 m3) (IntKind.wrap .i64 (v3_0 + 1)) (IntKind.wrap .i64 (v3_1 + 1)))
    else
    ((L_limit_Env_3 N a1 a2 a3 r11 m3) v3_0 (IntKind.wrap .i64 (v3_1 + 1))))
    else
    ((L_limit_Env_3 N a1 a2 a3 r11 m3) v3_0 (IntKind.wrap .i64 (v3_1 + 1))))
    else
    ((L_limit_Env_3 N a1 a2 a3 r11 m3) v3_0 (IntKind.wrap .i64 (v3_1 + 1))))
    else
    (some v3_0)
def K_limit_Env_3 (N : Nat) (a3 : Int) (a4 : Int) (r5 : ApiAccount × Bool) (r12 : Int) (r43 : Int × Int) : (Int) → Option ((List ApiValue) × Int)
  | x3_0 =>
    (L_limit_Env_4 N a4 r12 r43 N 0).bind (K_limit_Env_4 N a3 a4 r5 r12 r43 x3_0)
def F_limit_Env  (N : Nat) (a1 : ApiBooks) (a2 : Int) (a3 : Int) (a4 : Int) : Option ((List ApiValue) × Int) :=
      (F_account_Find N a1 a2).bind fun r5 =>
    bif !r5.2 then
    (some ([], 11))
    else
    ((F_date_Valid N a3).bind fun r7 =>
    bif !r7 then
    (some ([], 16))
    else
    ((F_account_Active N a1 a2 a3).bind fun r9 =>
    bif !r9 then
    (some ([], 16))
    else
    ((F_limit_month N a3).bind fun r11 =>
    (F_balance_Of N a1.Journal_ a2).bind fun r12 =>
    (F_balance_Daily N a1.Journal_ a2 (if r11 < r5.1.Opened_ then r5.1.Opened_ else r11) a3).bind fun r13 =>
    bif decide (0 < (r13.length : Int)) then
    ((F_slices_Min_int N r13).bind fun r15 =>
    (F_balance_Turnover N a1.Journal_ a2 r11 a3).bind fun r16 =>
    (L_limit_Env_1 N a1 a2 a3 r11 N 0 0).bind (K_limit_Env_1 N a3 a4 r5 r12 r15 r16))
    else
    ((F_balance_Turnover N a1.Journal_ a2 r11 a3).bind fun r43 =>
    (L_limit_Env_3 N a1 a2 a3 r11 N 0 0).bind (K_limit_Env_3 N a3 a4 r5 r12 r43)))))
theorem P_limit_Env  {N : Nat} {a1 : ApiBooks} {a2 : Int} {a3 : Int} {a4 : Int} {r : (List ApiValue) × Int} (h : F_limit_Env N a1 a2 a3 a4 = some r) : Pure Tryz.prog (Gl.at 0) 7 [(ApiBooks.v a1), (i64 a2), (i64 a3), (i64 a4)] (.tup [(.sl (r.1.map ApiValue.v)), (i64 r.2)]) := by
  refine pure_run fn7 ?_
  rw [F_limit_Env] at h
  replace h := bs h
  change GG [.t 8, .t 9] _ [.pc p7_85] (mk 140 [(0, (ApiBooks.v a1)), (1, (i64 a2)), (2, (i64 a3)), (3, (i64 a4))]) []
  refine go_bind h (fun r5 hr5 h => ?_)
  refine gx mo [.pc p7_13, .blk 0, .pc p7_82] 140 [(1, (i64 a2)), (2, (i64 a3)), (3, (i64 a4)), (4, (.ref 0 0 0)), (10, (.ref 1 0 0)), (31, (.bool (!r5.2)))] [.row 22 [(ApiBooks.v a1)], .row 7 [(ApiAccount.v r5.1)]] 26 [tc 5 [.row 22 [(ApiBooks.v a1)]] (P_account_Find hr5) (fg (fs fl_nil))] ?_
  refine go_if h (fun hb6 h => ?_) (fun hb6 h => ?_)
  · rw [hb6]
    refine gx mo [.pc p7_4, .blk 0, .pc p7_82] 140 [(8, .nils), (9, (i64 11))] [.row 22 [(ApiBooks.v a1)], .row 7 [(ApiAccount.v r5.1)]] 6 [] ?_
    obtain rfl := Option.some.inj h
    exact gf (.tup [.nils, (i64 11)]) (f_tupl (fl_cons .nil0 (fs fl_nil)))
  · rw [hb6]
    refine go_bind h (fun r7 hr7 h => ?_)
    refine go_if h (fun hb8 h => ?_) (fun hb8 h => ?_)
    · refine gx mo [.pc p7_8, .blk 0, .pc p7_82] 140 [(8, .nils), (9, (i64 16))] [.row 22 [(ApiBooks.v a1)], .row 7 [(ApiAccount.v r5.1)]] 21 [tc 2 [.row 22 [(ApiBooks.v a1)], .row 7 [(ApiAccount.v r5.1)]] (P_date_Valid hr7) (fs fl_nil), twb 3 [.row 22 [(ApiBooks.v a1)], .row 7 [(ApiAccount.v r5.1)]] (.un .not (.c (.bool r7))) (!r7) true hb8] ?_
      obtain rfl := Option.some.inj h
      exact gf (.tup [.nils, (i64 16)]) (f_tupl (fl_cons .nil0 (fs fl_nil)))
    · refine go_bind h (fun r9 hr9 h => ?_)
      refine gx mo [.pc p7_11, .blk 0, .pc p7_82] 140 [(1, (i64 a2)), (2, (i64 a3)), (3, (i64 a4)), (4, (.ref 0 0 0)), (10, (.ref 1 0 0)), (34, (.bool (!r9)))] [.row 22 [(ApiBooks.v a1)], .row 7 [(ApiAccount.v r5.1)]] 15 [tc 2 [.row 22 [(ApiBooks.v a1)], .row 7 [(ApiAccount.v r5.1)]] (P_date_Valid hr7) (fs fl_nil), twb 3 [.row 22 [(ApiBooks.v a1)], .row 7 [(ApiAccount.v r5.1)]] (.un .not (.c (.bool r7))) (!r7) false hb8, tc 8 [.row 22 [(ApiBooks.v a1)], .row 7 [(ApiAccount.v r5.1)]] (P_account_Active hr9) (fg (fs (fs fl_nil)))] ?_
      refine go_if h (fun hb10 h => ?_) (fun hb10 h => ?_)
      · rw [hb10]
        refine gx mo [.pc p7_8, .blk 0, .pc p7_82] 140 [(8, .nils), (9, (i64 16))] [.row 22 [(ApiBooks.v a1)], .row 7 [(ApiAccount.v r5.1)]] 6 [] ?_
        obtain rfl := Option.some.inj h
        exact gf (.tup [.nils, (i64 16)]) (f_tupl (fl_cons .nil0 (fs fl_nil)))
      · rw [hb10]
        refine go_bind h (fun r11 hr11 h => ?_)
        refine go_bind h (fun r12 hr12 h => ?_)
        refine go_bind h (fun r13 hr13 h => ?_)
        refine gx mo [.pc p7_22, .pc p7_79] 140 [(1, (i64 a2)), (2, (i64 a3)), (3, (i64 a4)), (4, (.ref 0 0 0)), (10, (.ref 1 0 0)), (12, (i64 r11)), (13, (i64 r12)), (14, (i64 0)), (15, (.sl (r13.map i64))), (62, (.bool (decide (0 < (r13.length : Int)))))] [.row 22 [(ApiBooks.v a1)], .row 7 [(ApiAccount.v r5.1)]] 38 [tc 2 [.row 22 [(ApiBooks.v a1)], .row 7 [(ApiAccount.v r5.1)]] (P_limit_month hr11) (fs fl_nil), tc 7 [.row 22 [(ApiBooks.v a1)], .row 7 [(ApiAccount.v r5.1)]] (P_balance_Of hr12) (fs (fs fl_nil)), tcc 18 [.row 22 [(ApiBooks.v a1)], .row 7 [(ApiAccount.v r5.1)]] (P_balance_Daily hr13) (fs (fs (fs (fs fl_nil)))), tw 21 (E_len [.row 22 [(ApiBooks.v a1)], .row 7 [(ApiAccount.v r5.1)]] r13 i64)] ?_
        refine go_if h (fun hb14 h => ?_) (fun hb14 h => ?_)
        · rw [hb14]
          refine go_bind h (fun r15 hr15 h => ?_)
          refine go_bind h (fun r16 hr16 h => ?_)
          refine gx mo [.pc p7_44, .blk 1, .pc p7_76] 140 [(1, (i64 a2)), (2, (i64 a3)), (3, (i64 a4)), (10, (.ref 1 0 0)), (12, (i64 r11)), (13, (i64 r12)), (14, (i64 r15)), (16, (i64 r16.1)), (18, (i64 0)), (75, (.sl (a1.Journal_.map ApiEntry.v))), (76, (i64 (a1.Journal_.length : Int))), (77, (i64 0))] [.row 22 [(ApiBooks.v a1)], .row 7 [(ApiAccount.v r5.1)]] 33 [tc 2 [.row 22 [(ApiBooks.v a1)], .row 7 [(ApiAccount.v r5.1)]] (P_slices_Min_int hr15) (fs fl_nil), tc 9 [.row 22 [(ApiBooks.v a1)], .row 7 [(ApiAccount.v r5.1)]] (P_balance_Turnover hr16) (fs (fs (fs (fs fl_nil)))), tw 18 (E_len [.row 22 [(ApiBooks.v a1)], .row 7 [(ApiAccount.v r5.1)]] a1.Journal_ ApiEntry.v)] ?_
          refine go_pick [1] [] [(1, 0), (2, 0), (3, 0), (10, 0), (12, 0), (13, 0), (14, 0), (16, 0), (18, 0), (75, 0), (76, 0), (77, 0)] (t' := (mk 140 [(1, (i64 a2)), (2, (i64 a3)), (3, (i64 a4)), (10, (.ref 0 0 0)), (12, (i64 r11)), (13, (i64 r12)), (14, (i64 r15)), (16, (i64 r16.1)), (18, (i64 0)), (75, (.sl (a1.Journal_.map ApiEntry.v))), (76, (i64 (a1.Journal_.length : Int))), (77, (i64 0))])) (s' := [.row 7 [(ApiAccount.v r5.1)]]) (by kernel_rfl) ⟨clo_one rfl, trivial⟩ rfl ?_
          refine go_cut (X := Int) (fun x => (K_limit_Env_1 N a3 a4 r5 r12 r15 r16 x).bind some = some r) ([.pc p7_76]) (fun x => (mk 140 [(2, (i64 a3)), (3, (i64 a4)), (10, (.ref 0 0 0)), (13, (i64 r12)), (14, (i64 r15)), (16, (i64 r16.1)), (18, (i64 x))])) (fun x => [.row 7 [(ApiAccount.v r5.1)]]) ?_ fun kont1_0 => ?_
          · rintro x1_0 h
            rw [K_limit_Env_1] at h
            refine gx mo [.pc p7_66, .blk 3, .pc p7_75] 140 [(2, (i64 a3)), (3, (i64 a4)), (10, (.ref 0 0 0)), (13, (i64 r12)), (14, (i64 r15)), (16, (i64 r16.1)), (18, (i64 x1_0)), (103, (.sl [(i64 r12), (i64 r15), (i64 r16.1), (i64 a4)])), (104, (i64 4)), (105, (i64 0))] [.row 7 [(ApiAccount.v r5.1)]] 12 [] ?_
            refine go_cut (X := Unit) (fun x => (K_limit_Env_2 N a3 a4 r5 r12 r15 r16 x1_0 (.brk x)).bind some = some r) ([.pc p7_75]) (fun x => (mk 140 [(2, (i64 a3)), (3, (i64 a4)), (10, (.ref 0 0 0)), (13, (i64 r12)), (14, (i64 r15)), (16, (i64 r16.1)), (18, (i64 x1_0))])) (fun x => [.row 7 [(ApiAccount.v r5.1)]]) ?_ fun kont2_0 => ?_
            · rintro _ h
              rw [K_limit_Env_2] at h
              refine go_bind h (fun r27 hr27 h => ?_)
              refine go_bind h (fun r28 hr28 h => ?_)
              refine go_bind h (fun r29 hr29 h => ?_)
              refine go_bind h (fun r30 hr30 h => ?_)
              refine go_bind h (fun r31 hr31 h => ?_)
              refine go_bind h (fun r32 hr32 h => ?_)
              refine gx mo [.pc p7_72] 140 [(8, (.sl [(ApiValue.v r27), (ApiValue.v r28), (ApiValue.v r29), (ApiValue.v r30), (ApiValue.v r31), (ApiValue.v r32), (.agg [(i64 4), (i64 a3)])])), (9, (i64 0))] [.row 7 [(ApiAccount.v r5.1)]] 10 [tgd 4 [.row 7 [(ApiAccount.v r5.1)]] [] [] [(i64 r12)] (P_limit_Env_c1 hr27) (fs fl_nil), tgd 7 [.row 7 [(ApiAccount.v r5.1)]] [] [] [(i64 r15)] (P_limit_Env_c1 hr28) (fs fl_nil), tgd 10 [.row 7 [(ApiAccount.v r5.1)]] [] [] [(i64 r16.1)] (P_limit_Env_c1 hr29) (fs fl_nil), tgd 13 [.row 7 [(ApiAccount.v r5.1)]] [] [] [(i64 a4)] (P_limit_Env_c1 hr30) (fs fl_nil), tgd 16 [.row 7 [(ApiAccount.v r5.1)]] [] [] [(i64 x1_0)] (P_limit_Env_c2 hr31) (fs fl_nil), tgd 22 [.row 7 [(ApiAccount.v r5.1)]] [] [] [(i64 (IntKind.wrap .i64 (a3 - r5.1.Opened_)))] (P_limit_Env_c2 hr32) (fs fl_nil)] ?_
              obtain rfl := Option.some.inj h
              exact gf (.tup [(.sl [(ApiValue.v r27), (ApiValue.v r28), (ApiValue.v r29), (ApiValue.v r30), (ApiValue.v r31), (ApiValue.v r32), (.agg [(i64 4), (i64 a3)])]), (i64 0)]) (f_tupl (fs (fs fl_nil)))
            refine go_loop' (fun m t s => ∃ (v2_0 : Int), (L_limit_Env_2 N a4 r12 r15 r16 m v2_0).bind (fun q => (K_limit_Env_2 N a3 a4 r5 r12 r15 r16 x1_0 q).bind some) = some r ∧ t = (mk 140 [(2, (i64 a3)), (3, (i64 a4)), (10, (.ref 0 0 0)), (13, (i64 r12)), (14, (i64 r15)), (16, (i64 r16.1)), (18, (i64 x1_0)), (103, (.sl [(i64 r12), (i64 r15), (i64 r16.1), (i64 a4)])), (104, (i64 4)), (105, (i64 v2_0))]) ∧ s = [.row 7 [(ApiAccount.v r5.1)]]) N ⟨0, go_assoc h, rfl, rfl⟩ ?_
            intro m2 J2 hJ2 t s
            rintro ⟨v2_0, h, rfl, rfl⟩
            cases m2 with
            | zero => exact absurd h (by simp [L_limit_Env_2])
            | succ m2 =>
              rw [L_limit_Env_2] at h
              refine gx mo [.pc p7_51, .pc p7_63, .jp J2, .blk 3, .pc p7_75] 140 [(2, (i64 a3)), (3, (i64 a4)), (10, (.ref 0 0 0)), (13, (i64 r12)), (14, (i64 r15)), (16, (i64 r16.1)), (18, (i64 x1_0)), (103, (.sl [(i64 r12), (i64 r15), (i64 r16.1), (i64 a4)])), (104, (i64 4)), (105, (i64 v2_0)), (106, (.bool (decide (v2_0 < 4))))] [.row 7 [(ApiAccount.v r5.1)]] 5 [] ?_
              refine go_if h (fun hb33 h => ?_) (fun hb33 h => ?_)
              · rw [hb33]
                refine go_bind h (fun y34 hy34 h => ?_)
                refine go_if h (fun hb35 h => ?_) (fun hb35 h => ?_)
                · refine gx mo [.pc p7_55, .blk 4, .pc p7_62, .jp J2, .blk 3, .pc p7_75] 140 [(8, .nils), (9, (i64 6))] [.row 7 [(ApiAccount.v r5.1)]] 25 [tw 1 (E_ia [.row 7 [(ApiAccount.v r5.1)]] i64 .i64 hy34), twb 5 [.row 7 [(ApiAccount.v r5.1)]] (.bin .lss .other true (.c (i64 y34)) (.c (i64 (-1000000000000)))) (decide (y34 < (-1000000000000))) true hb35] ?_
                  obtain rfl := Option.some.inj h
                  exact gf (.tup [.nils, (i64 6)]) (f_tupl (fl_cons .nil0 (fs fl_nil)))
                · refine gx mo [.pc p7_58, .blk 4, .pc p7_62, .jp J2, .blk 3, .pc p7_75] 140 [(2, (i64 a3)), (3, (i64 a4)), (10, (.ref 0 0 0)), (13, (i64 r12)), (14, (i64 r15)), (16, (i64 r16.1)), (18, (i64 x1_0)), (103, (.sl [(i64 r12), (i64 r15), (i64 r16.1), (i64 a4)])), (104, (i64 4)), (105, (i64 v2_0)), (114, (.bool (decide (1000000000000 < y34))))] [.row 7 [(ApiAccount.v r5.1)]] 19 [tw 1 (E_ia [.row 7 [(ApiAccount.v r5.1)]] i64 .i64 hy34), twb 5 [.row 7 [(ApiAccount.v r5.1)]] (.bin .lss .other true (.c (i64 y34)) (.c (i64 (-1000000000000)))) (decide (y34 < (-1000000000000))) false hb35] ?_
                  refine go_if h (fun hb36 h => ?_) (fun hb36 h => ?_)
                  · rw [hb36]
                    refine gx mo [.pc p7_55, .blk 4, .pc p7_62, .jp J2, .blk 3, .pc p7_75] 140 [(8, .nils), (9, (i64 6))] [.row 7 [(ApiAccount.v r5.1)]] 6 [] ?_
                    obtain rfl := Option.some.inj h
                    exact gf (.tup [.nils, (i64 6)]) (f_tupl (fl_cons .nil0 (fs fl_nil)))
                  · rw [hb36]
                    refine gx mo [.jp J2, .blk 3, .pc p7_75] 140 [(2, (i64 a3)), (3, (i64 a4)), (10, (.ref 0 0 0)), (13, (i64 r12)), (14, (i64 r15)), (16, (i64 r16.1)), (18, (i64 x1_0)), (103, (.sl [(i64 r12), (i64 r15), (i64 r16.1), (i64 a4)])), (104, (i64 4)), (105, (i64 (IntKind.wrap .i64 (v2_0 + 1))))] [.row 7 [(ApiAccount.v r5.1)]] 7 [] ?_
                    exact go_back rfl (hJ2 m2 _ _ (Nat.lt_succ_self m2) ⟨IntKind.wrap .i64 (v2_0 + 1), h, rfl, rfl⟩)
              · rw [hb33]
                refine gx mo [.pc p7_75] 140 [(2, (i64 a3)), (3, (i64 a4)), (10, (.ref 0 0 0)), (13, (i64 r12)), (14, (i64 r15)), (16, (i64 r16.1)), (18, (i64 x1_0))] [.row 7 [(ApiAccount.v r5.1)]] 2 [] ?_
                exact kont2_0 () h
          refine go_loop' (fun m t s => ∃ (v1_0 : Int) (v1_1 : Int), (L_limit_Env_1 N a1 a2 a3 r11 m v1_0 v1_1).bind (fun q => (K_limit_Env_1 N a3 a4 r5 r12 r15 r16 q).bind some) = some r ∧ t = (mk 140 [(1, (i64 a2)), (2, (i64 a3)), (3, (i64 a4)), (10, (.ref 0 0 0)), (12, (i64 r11)), (13, (i64 r12)), (14, (i64 r15)), (16, (i64 r16.1)), (18, (i64 v1_0)), (75, (.sl (a1.Journal_.map ApiEntry.v))), (76, (i64 (a1.Journal_.length : Int))), (77, (i64 v1_1))]) ∧ s = [.row 7 [(ApiAccount.v r5.1)]]) N ⟨0, 0, go_assoc h, rfl, rfl⟩ ?_
          intro m1 J1 hJ1 t s
          rintro ⟨v1_0, v1_1, h, rfl, rfl⟩
          cases m1 with
          | zero => exact absurd h (by simp [L_limit_Env_1])
          | succ m1 =>
            rw [L_limit_Env_1] at h
            refine gx mo [.pc p7_31, .pc p7_41, .jp J1, .blk 1, .pc p7_76] 140 [(1, (i64 a2)), (2, (i64 a3)), (3, (i64 a4)), (10, (.ref 0 0 0)), (12, (i64 r11)), (13, (i64 r12)), (14, (i64 r15)), (16, (i64 r16.1)), (18, (i64 v1_0)), (75, (.sl (a1.Journal_.map ApiEntry.v))), (76, (i64 (a1.Journal_.length : Int))), (77, (i64 v1_1)), (78, (.bool (decide (v1_1 < (a1.Journal_.length : Int)))))] [.row 7 [(ApiAccount.v r5.1)]] 5 [] ?_
            refine go_if h (fun hb37 h => ?_) (fun hb37 h => ?_)
            · rw [hb37]
              refine go_bind h (fun y38 hy38 h => ?_)
              refine go_if h (fun hb39 h => ?_) (fun hb39 h => ?_)
              · refine go_if h (fun hb40 h => ?_) (fun hb40 h => ?_)
                · refine go_bind h (fun r41 hr41 h => ?_)
                  refine gx mo [.pc p7_36, .blk 2, .pc p7_40, .jp J1, .blk 1, .pc p7_76] 140 [(1, (i64 a2)), (2, (i64 a3)), (3, (i64 a4)), (10, (.ref 0 0 0)), (12, (i64 r11)), (13, (i64 r12)), (14, (i64 r15)), (16, (i64 r16.1)), (18, (i64 v1_0)), (75, (.sl (a1.Journal_.map ApiEntry.v))), (76, (i64 (a1.Journal_.length : Int))), (77, (i64 v1_1)), (95, (.bool r41))] [.row 7 [(ApiAccount.v r5.1)], .row 10 [(ApiEntry.v y38)]] 29 [tw 1 (E_ia [.row 7 [(ApiAccount.v r5.1)]] ApiEntry.v .i64 hy38), twb 8 [.row 7 [(ApiAccount.v r5.1)], .row 10 [(ApiEntry.v y38)]] (.bin .geq .other false (.c (i64 y38.Booked_)) (.c (i64 r11))) (decide (r11 ≤ y38.Booked_)) true hb39, twb 14 [.row 7 [(ApiAccount.v r5.1)], .row 10 [(ApiEntry.v y38)]] (.pick (.c (.bool true)) (.c (.bool (decide (y38.Booked_ ≤ a3)))) (.c (.bool false))) (decide (y38.Booked_ ≤ a3)) true hb40, tc 18 [.row 7 [(ApiAccount.v r5.1)], .row 10 [(ApiEntry.v y38)]] (P_limit_touches hr41) (fg (fs fl_nil))] ?_
                  refine go_if h (fun hb42 h => ?_) (fun hb42 h => ?_)
                  · rw [hb42]
                    refine gx mo [.jp J1, .blk 1, .pc p7_76] 140 [(1, (i64 a2)), (2, (i64 a3)), (3, (i64 a4)), (10, (.ref 0 0 0)), (12, (i64 r11)), (13, (i64 r12)), (14, (i64 r15)), (16, (i64 r16.1)), (18, (i64 (IntKind.wrap .i64 (v1_0 + 1)))), (75, (.sl (a1.Journal_.map ApiEntry.v))), (76, (i64 (a1.Journal_.length : Int))), (77, (i64 (IntKind.wrap .i64 (v1_1 + 1))))] [.row 7 [(ApiAccount.v r5.1)], .row 10 [(ApiEntry.v y38)]] 11 [] ?_
                    refine go_pick [0] [] [(1, 0), (2, 0), (3, 0), (10, 0), (12, 0), (13, 0), (14, 0), (16, 0), (18, 0), (75, 0), (76, 0), (77, 0)] (t' := (mk 140 [(1, (i64 a2)), (2, (i64 a3)), (3, (i64 a4)), (10, (.ref 0 0 0)), (12, (i64 r11)), (13, (i64 r12)), (14, (i64 r15)), (16, (i64 r16.1)), (18, (i64 (IntKind.wrap .i64 (v1_0 + 1)))), (75, (.sl (a1.Journal_.map ApiEntry.v))), (76, (i64 (a1.Journal_.length : Int))), (77, (i64 (IntKind.wrap .i64 (v1_1 + 1))))])) (s' := [.row 7 [(ApiAccount.v r5.1)]]) (by kernel_rfl) ⟨clo_one rfl, trivial⟩ rfl ?_
                    exact go_back rfl (hJ1 m1 _ _ (Nat.lt_succ_self m1) ⟨IntKind.wrap .i64 (v1_0 + 1), IntKind.wrap .i64 (v1_1 + 1), h, rfl, rfl⟩)
                  · rw [hb42]
                    refine gx mo [.jp J1, .blk 1, .pc p7_76] 140 [(1, (i64 a2)), (2, (i64 a3)), (3, (i64 a4)), (10, (.ref 0 0 0)), (12, (i64 r11)), (13, (i64 r12)), (14, (i64 r15)), (16, (i64 r16.1)), (18, (i64 v1_0)), (75, (.sl (a1.Journal_.map ApiEntry.v))), (76, (i64 (a1.Journal_.length : Int))), (77, (i64 (IntKind.wrap .i64 (v1_1 + 1))))] [.row 7 [(ApiAccount.v r5.1)], .row 10 [(ApiEntry.v y38)]] 7 [] ?_
                    refine go_pick [0] [] [(1, 0), (2, 0), (3, 0), (10, 0), (12, 0), (13, 0), (14, 0), (16, 0), (18, 0), (75, 0), (76, 0), (77, 0)] (t' := (mk 140 [(1, (i64 a2)), (2, (i64 a3)), (3, (i64 a4)), (10, (.ref 0 0 0)), (12, (i64 r11)), (13, (i64 r12)), (14, (i64 r15)), (16, (i64 r16.1)), (18, (i64 v1_0)), (75, (.sl (a1.Journal_.map ApiEntry.v))), (76, (i64 (a1.Journal_.length : Int))), (77, (i64 (IntKind.wrap .i64 (v1_1 + 1))))])) (s' := [.row 7 [(ApiAccount.v r5.1)]]) (by kernel_rfl) ⟨clo_one rfl, trivial⟩ rfl ?_
                    exact go_back rfl (hJ1 m1 _ _ (Nat.lt_succ_self m1) ⟨v1_0, IntKind.wrap .i64 (v1_1 + 1), h, rfl, rfl⟩)
                · refine gx mo [.jp J1, .blk 1, .pc p7_76] 140 [(1, (i64 a2)), (2, (i64 a3)), (3, (i64 a4)), (10, (.ref 0 0 0)), (12, (i64 r11)), (13, (i64 r12)), (14, (i64 r15)), (16, (i64 r16.1)), (18, (i64 v1_0)), (75, (.sl (a1.Journal_.map ApiEntry.v))), (76, (i64 (a1.Journal_.length : Int))), (77, (i64 (IntKind.wrap .i64 (v1_1 + 1))))] [.row 7 [(ApiAccount.v r5.1)], .row 10 [(ApiEntry.v y38)]] 36 [tw 1 (E_ia [.row 7 [(ApiAccount.v r5.1)]] ApiEntry.v .i64 hy38), twb 8 [.row 7 [(ApiAccount.v r5.1)], .row 10 [(ApiEntry.v y38)]] (.bin .geq .other false (.c (i64 y38.Booked_)) (.c (i64 r11))) (decide (r11 ≤ y38.Booked_)) true hb39, twb 14 [.row 7 [(ApiAccount.v r5.1)], .row 10 [(ApiEntry.v y38)]] (.pick (.c (.bool true)) (.c (.bool (decide (y38.Booked_ ≤ a3)))) (.c (.bool false))) (decide (y38.Booked_ ≤ a3)) false hb40] ?_
                  refine go_pick [0] [] [(1, 0), (2, 0), (3, 0), (10, 0), (12, 0), (13, 0), (14, 0), (16, 0), (18, 0), (75, 0), (76, 0), (77, 0)] (t' := (mk 140 [(1, (i64 a2)), (2, (i64 a3)), (3, (i64 a4)), (10, (.ref 0 0 0)), (12, (i64 r11)), (13, (i64 r12)), (14, (i64 r15)), (16, (i64 r16.1)), (18, (i64 v1_0)), (75, (.sl (a1.Journal_.map ApiEntry.v))), (76, (i64 (a1.Journal_.length : Int))), (77, (i64 (IntKind.wrap .i64 (v1_1 + 1))))])) (s' := [.row 7 [(ApiAccount.v r5.1)]]) (by kernel_rfl) ⟨clo_one rfl, trivial⟩ rfl ?_
                  exact go_back rfl (hJ1 m1 _ _ (Nat.lt_succ_self m1) ⟨v1_0, IntKind.wrap .i64 (v1_1 + 1), h, rfl, rfl⟩)
              · refine gx mo [.jp J1, .blk 1, .pc p7_76] 140 [(1, (i64 a2)), (2, (i64 a3)), (3, (i64 a4)), (10, (.ref 0 0 0)), (12, (i64 r11)), (13, (i64 r12)), (14, (i64 r15)), (16, (i64 r16.1)), (18, (i64 v1_0)), (75, (.sl (a1.Journal_.map ApiEntry.v))), (76, (i64 (a1.Journal_.length : Int))), (77, (i64 (IntKind.wrap .i64 (v1_1 + 1))))] [.row 7 [(ApiAccount.v r5.1)], .row 10 [(ApiEntry.v y38)]] 36 [tw 1 (E_ia [.row 7 [(ApiAccount.v r5.1)]] ApiEntry.v .i64 hy38), twb 8 [.row 7 [(ApiAccount.v r5.1)], .row 10 [(ApiEntry.v y38)]] (.bin .geq .other false (.c (i64 y38.Booked_)) (.c (i64 r11))) (decide (r11 ≤ y38.Booked_)) false hb39] ?_
                refine go_pick [0] [] [(1, 0), (2, 0), (3, 0), (10, 0), (12, 0), (13, 0), (14, 0), (16, 0), (18, 0), (75, 0), (76, 0), (77, 0)] (t' := (mk 140 [(1, (i64 a2)), (2, (i64 a3)), (3, (i64 a4)), (10, (.ref 0 0 0)), (12, (i64 r11)), (13, (i64 r12)), (14, (i64 r15)), (16, (i64 r16.1)), (18, (i64 v1_0)), (75, (.sl (a1.Journal_.map ApiEntry.v))), (76, (i64 (a1.Journal_.length : Int))), (77, (i64 (IntKind.wrap .i64 (v1_1 + 1))))])) (s' := [.row 7 [(ApiAccount.v r5.1)]]) (by kernel_rfl) ⟨clo_one rfl, trivial⟩ rfl ?_
                exact go_back rfl (hJ1 m1 _ _ (Nat.lt_succ_self m1) ⟨v1_0, IntKind.wrap .i64 (v1_1 + 1), h, rfl, rfl⟩)
            · rw [hb37]
              refine gx mo [.pc p7_76] 140 [(2, (i64 a3)), (3, (i64 a4)), (10, (.ref 0 0 0)), (13, (i64 r12)), (14, (i64 r15)), (16, (i64 r16.1)), (18, (i64 v1_0))] [.row 7 [(ApiAccount.v r5.1)]] 2 [] ?_
              exact kont1_0 v1_0 h
        · rw [hb14]
          refine go_bind h (fun r43 hr43 h => ?_)
          refine gx mo [.pc p7_44, .blk 1, .pc p7_76] 140 [(1, (i64 a2)), (2, (i64 a3)), (3, (i64 a4)), (10, (.ref 1 0 0)), (12, (i64 r11)), (13, (i64 r12)), (14, (i64 0)), (16, (i64 r43.1)), (18, (i64 0)), (75, (.sl (a1.Journal_.map ApiEntry.v))), (76, (i64 (a1.Journal_.length : Int))), (77, (i64 0))] [.row 22 [(ApiBooks.v a1)], .row 7 [(ApiAccount.v r5.1)]] 29 [tc 6 [.row 22 [(ApiBooks.v a1)], .row 7 [(ApiAccount.v r5.1)]] (P_balance_Turnover hr43) (fs (fs (fs (fs fl_nil)))), tw 15 (E_len [.row 22 [(ApiBooks.v a1)], .row 7 [(ApiAccount.v r5.1)]] a1.Journal_ ApiEntry.v)] ?_
          refine go_pick [1] [] [(1, 0), (2, 0), (3, 0), (10, 0), (12, 0), (13, 0), (14, 0), (16, 0), (18, 0), (75, 0), (76, 0), (77, 0)] (t' := (mk 140 [(1, (i64 a2)), (2, (i64 a3)), (3, (i64 a4)), (10, (.ref 0 0 0)), (12, (i64 r11)), (13, (i64 r12)), (14, (i64 0)), (16, (i64 r43.1)), (18, (i64 0)), (75, (.sl (a1.Journal_.map ApiEntry.v))), (76, (i64 (a1.Journal_.length : Int))), (77, (i64 0))])) (s' := [.row 7 [(ApiAccount.v r5.1)]]) (by kernel_rfl) ⟨clo_one rfl, trivial⟩ rfl ?_
          refine go_cut (X := Int) (fun x => (K_limit_Env_3 N a3 a4 r5 r12 r43 x).bind some = some r) ([.pc p7_76]) (fun x => (mk 140 [(2, (i64 a3)), (3, (i64 a4)), (10, (.ref 0 0 0)), (13, (i64 r12)), (14, (i64 0)), (16, (i64 r43.1)), (18, (i64 x))])) (fun x => [.row 7 [(ApiAccount.v r5.1)]]) ?_ fun kont3_0 => ?_
          · rintro x3_0 h
            rw [K_limit_Env_3] at h
            refine gx mo [.pc p7_66, .blk 3, .pc p7_75] 140 [(2, (i64 a3)), (3, (i64 a4)), (10, (.ref 0 0 0)), (13, (i64 r12)), (14, (i64 0)), (16, (i64 r43.1)), (18, (i64 x3_0)), (103, (.sl [(i64 r12), (i64 0), (i64 r43.1), (i64 a4)])), (104, (i64 4)), (105, (i64 0))] [.row 7 [(ApiAccount.v r5.1)]] 12 [] ?_
            refine go_cut (X := Unit) (fun x => (K_limit_Env_4 N a3 a4 r5 r12 r43 x3_0 (.brk x)).bind some = some r) ([.pc p7_75]) (fun x => (mk 140 [(2, (i64 a3)), (3, (i64 a4)), (10, (.ref 0 0 0)), (13, (i64 r12)), (14, (i64 0)), (16, (i64 r43.1)), (18, (i64 x3_0))])) (fun x => [.row 7 [(ApiAccount.v r5.1)]]) ?_ fun kont4_0 => ?_
            · rintro _ h
              rw [K_limit_Env_4] at h
              refine go_bind h (fun r54 hr54 h => ?_)
              refine go_bind h (fun r55 hr55 h => ?_)
              refine go_bind h (fun r56 hr56 h => ?_)
              refine go_bind h (fun r57 hr57 h => ?_)
              refine go_bind h (fun r58 hr58 h => ?_)
              refine go_bind h (fun r59 hr59 h => ?_)
              refine gx mo [.pc p7_72] 140 [(8, (.sl [(ApiValue.v r54), (ApiValue.v r55), (ApiValue.v r56), (ApiValue.v r57), (ApiValue.v r58), (ApiValue.v r59), (.agg [(i64 4), (i64 a3)])])), (9, (i64 0))] [.row 7 [(ApiAccount.v r5.1)]] 10 [tgd 4 [.row 7 [(ApiAccount.v r5.1)]] [] [] [(i64 r12)] (P_limit_Env_c1 hr54) (fs fl_nil), tgd 7 [.row 7 [(ApiAccount.v r5.1)]] [] [] [(i64 0)] (P_limit_Env_c1 hr55) (fs fl_nil), tgd 10 [.row 7 [(ApiAccount.v r5.1)]] [] [] [(i64 r43.1)] (P_limit_Env_c1 hr56) (fs fl_nil), tgd 13 [.row 7 [(ApiAccount.v r5.1)]] [] [] [(i64 a4)] (P_limit_Env_c1 hr57) (fs fl_nil), tgd 16 [.row 7 [(ApiAccount.v r5.1)]] [] [] [(i64 x3_0)] (P_limit_Env_c2 hr58) (fs fl_nil), tgd 22 [.row 7 [(ApiAccount.v r5.1)]] [] [] [(i64 (IntKind.wrap .i64 (a3 - r5.1.Opened_)))] (P_limit_Env_c2 hr59) (fs fl_nil)] ?_
              obtain rfl := Option.some.inj h
              exact gf (.tup [(.sl [(ApiValue.v r54), (ApiValue.v r55), (ApiValue.v r56), (ApiValue.v r57), (ApiValue.v r58), (ApiValue.v r59), (.agg [(i64 4), (i64 a3)])]), (i64 0)]) (f_tupl (fs (fs fl_nil)))
            refine go_loop' (fun m t s => ∃ (v4_0 : Int), (L_limit_Env_4 N a4 r12 r43 m v4_0).bind (fun q => (K_limit_Env_4 N a3 a4 r5 r12 r43 x3_0 q).bind some) = some r ∧ t = (mk 140 [(2, (i64 a3)), (3, (i64 a4)), (10, (.ref 0 0 0)), (13, (i64 r12)), (14, (i64 0)), (16, (i64 r43.1)), (18, (i64 x3_0)), (103, (.sl [(i64 r12), (i64 0), (i64 r43.1), (i64 a4)])), (104, (i64 4)), (105, (i64 v4_0))]) ∧ s = [.row 7 [(ApiAccount.v r5.1)]]) N ⟨0, go_assoc h, rfl, rfl⟩ ?_
            intro m4 J4 hJ4 t s
            rintro ⟨v4_0, h, rfl, rfl⟩
            cases m4 with
            | zero => exact absurd h (by simp [L_limit_Env_4])
            | succ m4 =>
              rw [L_limit_Env_4] at h
              refine gx mo [.pc p7_51, .pc p7_63, .jp J4, .blk 3, .pc p7_75] 140 [(2, (i64 a3)), (3, (i64 a4)), (10, (.ref 0 0 0)), (13, (i64 r12)), (14, (i64 0)), (16, (i64 r43.1)), (18, (i64 x3_0)), (103, (.sl [(i64 r12), (i64 0), (i64 r43.1), (i64 a4)])), (104, (i64 4)), (105, (i64 v4_0)), (106, (.bool (decide (v4_0 < 4))))] [.row 7 [(ApiAccount.v r5.1)]] 5 [] ?_
              refine go_if h (fun hb60 h => ?_) (fun hb60 h => ?_)
              · rw [hb60]
                refine go_bind h (fun y61 hy61 h => ?_)
                refine go_if h (fun hb62 h => ?_) (fun hb62 h => ?_)
                · refine gx mo [.pc p7_55, .blk 4, .pc p7_62, .jp J4, .blk 3, .pc p7_75] 140 [(8, .nils), (9, (i64 6))] [.row 7 [(ApiAccount.v r5.1)]] 25 [tw 1 (E_ia [.row 7 [(ApiAccount.v r5.1)]] i64 .i64 hy61), twb 5 [.row 7 [(ApiAccount.v r5.1)]] (.bin .lss .other true (.c (i64 y61)) (.c (i64 (-1000000000000)))) (decide (y61 < (-1000000000000))) true hb62] ?_
                  obtain rfl := Option.some.inj h
                  exact gf (.tup [.nils, (i64 6)]) (f_tupl (fl_cons .nil0 (fs fl_nil)))
                · refine gx mo [.pc p7_58, .blk 4, .pc p7_62, .jp J4, .blk 3, .pc p7_75] 140 [(2, (i64 a3)), (3, (i64 a4)), (10, (.ref 0 0 0)), (13, (i64 r12)), (14, (i64 0)), (16, (i64 r43.1)), (18, (i64 x3_0)), (103, (.sl [(i64 r12), (i64 0), (i64 r43.1), (i64 a4)])), (104, (i64 4)), (105, (i64 v4_0)), (114, (.bool (decide (1000000000000 < y61))))] [.row 7 [(ApiAccount.v r5.1)]] 19 [tw 1 (E_ia [.row 7 [(ApiAccount.v r5.1)]] i64 .i64 hy61), twb 5 [.row 7 [(ApiAccount.v r5.1)]] (.bin .lss .other true (.c (i64 y61)) (.c (i64 (-1000000000000)))) (decide (y61 < (-1000000000000))) false hb62] ?_
                  refine go_if h (fun hb63 h => ?_) (fun hb63 h => ?_)
                  · rw [hb63]
                    refine gx mo [.pc p7_55, .blk 4, .pc p7_62, .jp J4, .blk 3, .pc p7_75] 140 [(8, .nils), (9, (i64 6))] [.row 7 [(ApiAccount.v r5.1)]] 6 [] ?_
                    obtain rfl := Option.some.inj h
                    exact gf (.tup [.nils, (i64 6)]) (f_tupl (fl_cons .nil0 (fs fl_nil)))
                  · rw [hb63]
                    refine gx mo [.jp J4, .blk 3, .pc p7_75] 140 [(2, (i64 a3)), (3, (i64 a4)), (10, (.ref 0 0 0)), (13, (i64 r12)), (14, (i64 0)), (16, (i64 r43.1)), (18, (i64 x3_0)), (103, (.sl [(i64 r12), (i64 0), (i64 r43.1), (i64 a4)])), (104, (i64 4)), (105, (i64 (IntKind.wrap .i64 (v4_0 + 1))))] [.row 7 [(ApiAccount.v r5.1)]] 7 [] ?_
                    exact go_back rfl (hJ4 m4 _ _ (Nat.lt_succ_self m4) ⟨IntKind.wrap .i64 (v4_0 + 1), h, rfl, rfl⟩)
              · rw [hb60]
                refine gx mo [.pc p7_75] 140 [(2, (i64 a3)), (3, (i64 a4)), (10, (.ref 0 0 0)), (13, (i64 r12)), (14, (i64 0)), (16, (i64 r43.1)), (18, (i64 x3_0))] [.row 7 [(ApiAccount.v r5.1)]] 2 [] ?_
                exact kont4_0 () h
          refine go_loop' (fun m t s => ∃ (v3_0 : Int) (v3_1 : Int), (L_limit_Env_3 N a1 a2 a3 r11 m v3_0 v3_1).bind (fun q => (K_limit_Env_3 N a3 a4 r5 r12 r43 q).bind some) = some r ∧ t = (mk 140 [(1, (i64 a2)), (2, (i64 a3)), (3, (i64 a4)), (10, (.ref 0 0 0)), (12, (i64 r11)), (13, (i64 r12)), (14, (i64 0)), (16, (i64 r43.1)), (18, (i64 v3_0)), (75, (.sl (a1.Journal_.map ApiEntry.v))), (76, (i64 (a1.Journal_.length : Int))), (77, (i64 v3_1))]) ∧ s = [.row 7 [(ApiAccount.v r5.1)]]) N ⟨0, 0, go_assoc h, rfl, rfl⟩ ?_
          intro m3 J3 hJ3 t s
          rintro ⟨v3_0, v3_1, h, rfl, rfl⟩
          cases m3 with
          | zero => exact absurd h (by simp [L_limit_Env_3])
          | succ m3 =>
            rw [L_limit_Env_3] at h
            refine gx mo [.pc p7_31, .pc p7_41, .jp J3, .blk 1, .pc p7_76] 140 [(1, (i64 a2)), (2, (i64 a3)), (3, (i64 a4)), (10, (.ref 0 0 0)), (12, (i64 r11)), (13, (i64 r12)), (14, (i64 0)), (16, (i64 r43.1)), (18, (i64 v3_0)), (75, (.sl (a1.Journal_.map ApiEntry.v))), (76, (i64 (a1.Journal_.length : Int))), (77, (i64 v3_1)), (78, (.bool (decide (v3_1 < (a1.Journal_.length : Int)))))] [.row 7 [(ApiAccount.v r5.1)]] 5 [] ?_
            refine go_if h (fun hb64 h => ?_) (fun hb64 h => ?_)
            · rw [hb64]
              refine go_bind h (fun y65 hy65 h => ?_)
              refine go_if h (fun hb66 h => ?_) (fun hb66 h => ?_)
              · refine go_if h (fun hb67 h => ?_) (fun hb67 h => ?_)
                · refine go_bind h (fun r68 hr68 h => ?_)
                  refine gx mo [.pc p7_36, .blk 2, .pc p7_40, .jp J3, .blk 1, .pc p7_76] 140 [(1, (i64 a2)), (2, (i64 a3)), (3, (i64 a4)), (10, (.ref 0 0 0)), (12, (i64 r11)), (13, (i64 r12)), (14, (i64 0)), (16, (i64 r43.1)), (18, (i64 v3_0)), (75, (.sl (a1.Journal_.map ApiEntry.v))), (76, (i64 (a1.Journal_.length : Int))), (77, (i64 v3_1)), (95, (.bool r68))] [.row 7 [(ApiAccount.v r5.1)], .row 10 [(ApiEntry.v y65)]] 29 [tw 1 (E_ia [.row 7 [(ApiAccount.v r5.1)]] ApiEntry.v .i64 hy65), twb 8 [.row 7 [(ApiAccount.v r5.1)], .row 10 [(ApiEntry.v y65)]] (.bin .geq .other false (.c (i64 y65.Booked_)) (.c (i64 r11))) (decide (r11 ≤ y65.Booked_)) true hb66, twb 14 [.row 7 [(ApiAccount.v r5.1)], .row 10 [(ApiEntry.v y65)]] (.pick (.c (.bool true)) (.c (.bool (decide (y65.Booked_ ≤ a3)))) (.c (.bool false))) (decide (y65.Booked_ ≤ a3)) true hb67, tc 18 [.row 7 [(ApiAccount.v r5.1)], .row 10 [(ApiEntry.v y65)]] (P_limit_touches hr68) (fg (fs fl_nil))] ?_
                  refine go_if h (fun hb69 h => ?_) (fun hb69 h => ?_)
                  · rw [hb69]
                    refine gx mo [.jp J3, .blk 1, .pc p7_76] 140 [(1, (i64 a2)), (2, (i64 a3)), (3, (i64 a4)), (10, (.ref 0 0 0)), (12, (i64 r11)), (13, (i64 r12)), (14, (i64 0)), (16, (i64 r43.1)), (18, (i64 (IntKind.wrap .i64 (v3_0 + 1)))), (75, (.sl (a1.Journal_.map ApiEntry.v))), (76, (i64 (a1.Journal_.length : Int))), (77, (i64 (IntKind.wrap .i64 (v3_1 + 1))))] [.row 7 [(ApiAccount.v r5.1)], .row 10 [(ApiEntry.v y65)]] 11 [] ?_
                    refine go_pick [0] [] [(1, 0), (2, 0), (3, 0), (10, 0), (12, 0), (13, 0), (14, 0), (16, 0), (18, 0), (75, 0), (76, 0), (77, 0)] (t' := (mk 140 [(1, (i64 a2)), (2, (i64 a3)), (3, (i64 a4)), (10, (.ref 0 0 0)), (12, (i64 r11)), (13, (i64 r12)), (14, (i64 0)), (16, (i64 r43.1)), (18, (i64 (IntKind.wrap .i64 (v3_0 + 1)))), (75, (.sl (a1.Journal_.map ApiEntry.v))), (76, (i64 (a1.Journal_.length : Int))), (77, (i64 (IntKind.wrap .i64 (v3_1 + 1))))])) (s' := [.row 7 [(ApiAccount.v r5.1)]]) (by kernel_rfl) ⟨clo_one rfl, trivial⟩ rfl ?_
                    exact go_back rfl (hJ3 m3 _ _ (Nat.lt_succ_self m3) ⟨IntKind.wrap .i64 (v3_0 + 1), IntKind.wrap .i64 (v3_1 + 1), h, rfl, rfl⟩)
                  · rw [hb69]
                    refine gx mo [.jp J3, .blk 1, .pc p7_76] 140 [(1, (i64 a2)), (2, (i64 a3)), (3, (i64 a4)), (10, (.ref 0 0 0)), (12, (i64 r11)), (13, (i64 r12)), (14, (i64 0)), (16, (i64 r43.1)), (18, (i64 v3_0)), (75, (.sl (a1.Journal_.map ApiEntry.v))), (76, (i64 (a1.Journal_.length : Int))), (77, (i64 (IntKind.wrap .i64 (v3_1 + 1))))] [.row 7 [(ApiAccount.v r5.1)], .row 10 [(ApiEntry.v y65)]] 7 [] ?_
                    refine go_pick [0] [] [(1, 0), (2, 0), (3, 0), (10, 0), (12, 0), (13, 0), (14, 0), (16, 0), (18, 0), (75, 0), (76, 0), (77, 0)] (t' := (mk 140 [(1, (i64 a2)), (2, (i64 a3)), (3, (i64 a4)), (10, (.ref 0 0 0)), (12, (i64 r11)), (13, (i64 r12)), (14, (i64 0)), (16, (i64 r43.1)), (18, (i64 v3_0)), (75, (.sl (a1.Journal_.map ApiEntry.v))), (76, (i64 (a1.Journal_.length : Int))), (77, (i64 (IntKind.wrap .i64 (v3_1 + 1))))])) (s' := [.row 7 [(ApiAccount.v r5.1)]]) (by kernel_rfl) ⟨clo_one rfl, trivial⟩ rfl ?_
                    exact go_back rfl (hJ3 m3 _ _ (Nat.lt_succ_self m3) ⟨v3_0, IntKind.wrap .i64 (v3_1 + 1), h, rfl, rfl⟩)
                · refine gx mo [.jp J3, .blk 1, .pc p7_76] 140 [(1, (i64 a2)), (2, (i64 a3)), (3, (i64 a4)), (10, (.ref 0 0 0)), (12, (i64 r11)), (13, (i64 r12)), (14, (i64 0)), (16, (i64 r43.1)), (18, (i64 v3_0)), (75, (.sl (a1.Journal_.map ApiEntry.v))), (76, (i64 (a1.Journal_.length : Int))), (77, (i64 (IntKind.wrap .i64 (v3_1 + 1))))] [.row 7 [(ApiAccount.v r5.1)], .row 10 [(ApiEntry.v y65)]] 36 [tw 1 (E_ia [.row 7 [(ApiAccount.v r5.1)]] ApiEntry.v .i64 hy65), twb 8 [.row 7 [(ApiAccount.v r5.1)], .row 10 [(ApiEntry.v y65)]] (.bin .geq .other false (.c (i64 y65.Booked_)) (.c (i64 r11))) (decide (r11 ≤ y65.Booked_)) true hb66, twb 14 [.row 7 [(ApiAccount.v r5.1)], .row 10 [(ApiEntry.v y65)]] (.pick (.c (.bool true)) (.c (.bool (decide (y65.Booked_ ≤ a3)))) (.c (.bool false))) (decide (y65.Booked_ ≤ a3)) false hb67] ?_
                  refine go_pick [0] [] [(1, 0), (2, 0), (3, 0), (10, 0), (12, 0), (13, 0), (14, 0), (16, 0), (18, 0), (75, 0), (76, 0), (77, 0)] (t' := (mk 140 [(1, (i64 a2)), (2, (i64 a3)), (3, (i64 a4)), (10, (.ref 0 0 0)), (12, (i64 r11)), (13, (i64 r12)), (14, (i64 0)), (16, (i64 r43.1)), (18, (i64 v3_0)), (75, (.sl (a1.Journal_.map ApiEntry.v))), (76, (i64 (a1.Journal_.length : Int))), (77, (i64 (IntKind.wrap .i64 (v3_1 + 1))))])) (s' := [.row 7 [(ApiAccount.v r5.1)]]) (by kernel_rfl) ⟨clo_one rfl, trivial⟩ rfl ?_
                  exact go_back rfl (hJ3 m3 _ _ (Nat.lt_succ_self m3) ⟨v3_0, IntKind.wrap .i64 (v3_1 + 1), h, rfl, rfl⟩)
              · refine gx mo [.jp J3, .blk 1, .pc p7_76] 140 [(1, (i64 a2)), (2, (i64 a3)), (3, (i64 a4)), (10, (.ref 0 0 0)), (12, (i64 r11)), (13, (i64 r12)), (14, (i64 0)), (16, (i64 r43.1)), (18, (i64 v3_0)), (75, (.sl (a1.Journal_.map ApiEntry.v))), (76, (i64 (a1.Journal_.length : Int))), (77, (i64 (IntKind.wrap .i64 (v3_1 + 1))))] [.row 7 [(ApiAccount.v r5.1)], .row 10 [(ApiEntry.v y65)]] 36 [tw 1 (E_ia [.row 7 [(ApiAccount.v r5.1)]] ApiEntry.v .i64 hy65), twb 8 [.row 7 [(ApiAccount.v r5.1)], .row 10 [(ApiEntry.v y65)]] (.bin .geq .other false (.c (i64 y65.Booked_)) (.c (i64 r11))) (decide (r11 ≤ y65.Booked_)) false hb66] ?_
                refine go_pick [0] [] [(1, 0), (2, 0), (3, 0), (10, 0), (12, 0), (13, 0), (14, 0), (16, 0), (18, 0), (75, 0), (76, 0), (77, 0)] (t' := (mk 140 [(1, (i64 a2)), (2, (i64 a3)), (3, (i64 a4)), (10, (.ref 0 0 0)), (12, (i64 r11)), (13, (i64 r12)), (14, (i64 0)), (16, (i64 r43.1)), (18, (i64 v3_0)), (75, (.sl (a1.Journal_.map ApiEntry.v))), (76, (i64 (a1.Journal_.length : Int))), (77, (i64 (IntKind.wrap .i64 (v3_1 + 1))))])) (s' := [.row 7 [(ApiAccount.v r5.1)]]) (by kernel_rfl) ⟨clo_one rfl, trivial⟩ rfl ?_
                exact go_back rfl (hJ3 m3 _ _ (Nat.lt_succ_self m3) ⟨v3_0, IntKind.wrap .i64 (v3_1 + 1), h, rfl, rfl⟩)
            · rw [hb64]
              refine gx mo [.pc p7_76] 140 [(2, (i64 a3)), (3, (i64 a4)), (10, (.ref 0 0 0)), (13, (i64 r12)), (14, (i64 0)), (16, (i64 r43.1)), (18, (i64 v3_0))] [.row 7 [(ApiAccount.v r5.1)]] 2 [] ?_
              exact kont3_0 v3_0 h
/-! corebank/corebankref24.Find -/
def p33_22 : PC := .ret
def p33_23 : PC := (.seq (.reg (oo 27 (.build [.int .i64 0, .int .i64 0, .int .i64 0, .int .i64 0, .str [], .str [], .str []] []) :: on_ (.st 7 (.t 4) (.t 27)) :: oo 5 (.mv (.c (.bool false))) :: [])) p33_22)
def p33_15 : PC := (.reg (om 12 6 :: oo 13 (.bin .add .other true (.t 12) (.c (.int .i64 1))) :: om 6 13 :: []))
def p33_9 : PC := .ret
def p33_12 : PC := (.cond (.t 21) (.seq (.reg (oo 22 (.fa 18 (.t 2)) :: oo 23 (.ld1 (.t 22)) :: om 24 6 :: oo 25 (.ia 7 (.t 23) (.t 24)) :: oo 26 (.ldA 7 (.t 25)) :: on_ (.st 7 (.t 4) (.t 26)) :: oo 5 (.mv (.c (.bool true))) :: [])) p33_9) .skip)
def p33_16 : PC := (.seq (.block 1 (.seq (.reg (oo 14 (.fa 18 (.t 2)) :: oo 15 (.ld1 (.t 14)) :: om 16 6 :: oo 17 (.ia 7 (.t 15) (.t 16)) :: oo 18 (.fa 0 (.t 17)) :: oo 19 (.ld1 (.t 18)) :: om 20 1 :: oo 21 (.bin .eql .other false (.t 19) (.t 20)) :: [])) p33_12)) p33_15)
def p33_5 : PC := (.cond (.t 11) .skip (.exit 0))
def p33_18 : PC := (.loop (.seq (.seq (.reg (om 7 6 :: oo 8 (.fa 18 (.t 2)) :: oo 9 (.ld1 (.t 8)) :: oo 10 (.len .slice (.t 9)) :: oo 11 (.bin .lss .other false (.t 7) (.t 10)) :: [])) p33_5) p33_16))
def p33_25 : PC := (.seq (.reg (oo 2 (.box (.t 0)) :: oo 4 (.new (.agg [.int .i64 0, .int .i64 0, .int .i64 0, .int .i64 0, .str [], .str [], .str []])) :: oo 5 (.mv (.c (.bool false))) :: [])) (.seq (.seq (.reg (oo 6 (.mv (.c (.int .i64 0))) :: [])) (.block 0 p33_18)) p33_23))
theorem fn33 : FnOk Tryz.prog 33 p33_25 28 [.a 4 7, .t 5] := ⟨false, Tryz.f33, _, Tryz.func33, by decide, rfl, by kernel_rfl, rfl, by kernel_rfl⟩
def L_r24_Find_1 (N : Nat) (a1 : ApiBooks) (a2 : Int) : Nat → Int → Option (Br (ApiAccount × Bool) (Unit))
  | 0, _ => none
  | m1 + 1, v1_0 =>
    bif decide (v1_0 < (a1.Accounts_.length : Int)) then
    ((getI a1.Accounts_ v1_0).bind fun y8 =>
    bif decide (y8.Id_ = a2) then
    ((getI a1.Accounts_ v1_0).bind fun y10 =>
    some (.ret (y10, true)))
    else
    ((L_r24_Find_1 N a1 a2 m1) (IntKind.wrap .i64 (v1_0 + 1))))
    else
    (some (.brk ()))
def K_r24_Find_1 (N : Nat)  : Br (ApiAccount × Bool) (Unit) → Option (ApiAccount × Bool)
  | .ret r => some r
  | .brk _ =>
    some ((⟨0, 0, 0, 0, [], [], []⟩ : ApiAccount), false)
def F_r24_Find  (N : Nat) (a1 : ApiBooks) (a2 : Int) : Option (ApiAccount × Bool) :=
      (L_r24_Find_1 N a1 a2 N 0).bind (K_r24_Find_1 N)
theorem P_r24_Find  {N : Nat} {a1 : ApiBooks} {a2 : Int} {r : ApiAccount × Bool} (h : F_r24_Find N a1 a2 = some r) : Pure Tryz.prog (Gl.at 0) 33 [(ApiBooks.v a1), (i64 a2)] (.tup [(ApiAccount.v r.1), (.bool r.2)]) := by
  refine pure_run fn33 ?_
  rw [F_r24_Find] at h
  replace h := bs h
  change GG [.a 4 7, .t 5] _ [.pc p33_25] (mk 28 [(0, (ApiBooks.v a1)), (1, (i64 a2))]) []
  refine gx mo [.pc p33_18, .blk 0, .pc p33_23] 28 [(1, (i64 a2)), (2, (.ref 0 0 0)), (4, (.ref 1 0 0)), (6, (i64 0))] [.row 22 [(ApiBooks.v a1)], .row 7 [(.agg [(i64 0), (i64 0), (i64 0), (i64 0), (.str []), (.str []), (.str [])])]] 12 [] ?_
  refine go_cut (X := Unit) (fun x => (K_r24_Find_1 N (.brk x)).bind some = some r) ([.pc p33_23]) (fun x => (mk 28 [(4, (.ref 0 0 0))])) (fun x => [.row 7 [(.agg [(i64 0), (i64 0), (i64 0), (i64 0), (.str []), (.str []), (.str [])])]]) ?_ fun kont1_0 => ?_
  · rintro _ h
    rw [K_r24_Find_1] at h
    refine gx mo [.pc p33_22] 28 [(4, (.ref 0 0 0)), (5, (.bool false))] [.row 7 [(.agg [(i64 0), (i64 0), (i64 0), (i64 0), (.str []), (.str []), (.str [])])]] 6 [] ?_
    obtain rfl := Option.some.inj h
    exact gf (.tup [(.agg [(i64 0), (i64 0), (i64 0), (i64 0), (.str []), (.str []), (.str [])]), (.bool false)]) (f_tupl (fg (fs fl_nil)))
  refine go_loop' (fun m t s => ∃ (v1_0 : Int), (L_r24_Find_1 N a1 a2 m v1_0).bind (fun q => (K_r24_Find_1 N q).bind some) = some r ∧ t = (mk 28 [(1, (i64 a2)), (2, (.ref 0 0 0)), (4, (.ref 1 0 0)), (6, (i64 v1_0))]) ∧ s = [.row 22 [(ApiBooks.v a1)], .row 7 [(.agg [(i64 0), (i64 0), (i64 0), (i64 0), (.str []), (.str []), (.str [])])]]) N ⟨0, go_assoc h, rfl, rfl⟩ ?_
  intro m1 J1 hJ1 t s
  rintro ⟨v1_0, h, rfl, rfl⟩
  cases m1 with
  | zero => exact absurd h (by simp [L_r24_Find_1])
  | succ m1 =>
    rw [L_r24_Find_1] at h
    refine gx mo [.pc p33_5, .pc p33_16, .jp J1, .blk 0, .pc p33_23] 28 [(1, (i64 a2)), (2, (.ref 0 0 0)), (4, (.ref 1 0 0)), (6, (i64 v1_0)), (11, (.bool (decide (v1_0 < (a1.Accounts_.length : Int)))))] [.row 22 [(ApiBooks.v a1)], .row 7 [(.agg [(i64 0), (i64 0), (i64 0), (i64 0), (.str []), (.str []), (.str [])])]] 9 [tw 3 (E_len [.row 22 [(ApiBooks.v a1)], .row 7 [(.agg [(i64 0), (i64 0), (i64 0), (i64 0), (.str []), (.str []), (.str [])])]] a1.Accounts_ ApiAccount.v)] ?_
    refine go_if h (fun hb7 h => ?_) (fun hb7 h => ?_)
    · rw [hb7]
      refine go_bind h (fun y8 hy8 h => ?_)
      refine gx mo [.pc p33_12, .blk 1, .pc p33_15, .jp J1, .blk 0, .pc p33_23] 28 [(1, (i64 a2)), (2, (.ref 0 0 0)), (4, (.ref 1 0 0)), (6, (i64 v1_0)), (21, (.bool (decide (y8.Id_ = a2))))] [.row 22 [(ApiBooks.v a1)], .row 7 [(.agg [(i64 0), (i64 0), (i64 0), (i64 0), (.str []), (.str []), (.str [])])]] 15 [tw 4 (E_ia [.row 22 [(ApiBooks.v a1)], .row 7 [(.agg [(i64 0), (i64 0), (i64 0), (i64 0), (.str []), (.str []), (.str [])])]] ApiAccount.v .i64 hy8)] ?_
      refine go_if h (fun hb9 h => ?_) (fun hb9 h => ?_)
      · rw [hb9]
        refine go_bind h (fun y10 hy10 h => ?_)
        refine gx mo [.pc p33_9, .blk 1, .pc p33_15, .jp J1, .blk 0, .pc p33_23] 28 [(4, (.ref 1 0 0)), (5, (.bool true))] [.row 22 [(ApiBooks.v a1)], .row 7 [(ApiAccount.v y10)]] 11 [tw 4 (E_ia [.row 22 [(ApiBooks.v a1)], .row 7 [(.agg [(i64 0), (i64 0), (i64 0), (i64 0), (.str []), (.str []), (.str [])])]] ApiAccount.v .i64 hy10)] ?_
        obtain rfl := Option.some.inj h
        exact gf (.tup [(ApiAccount.v y10), (.bool true)]) (f_tupl (fg (fs fl_nil)))
      · rw [hb9]
        refine gx mo [.jp J1, .blk 0, .pc p33_23] 28 [(1, (i64 a2)), (2, (.ref 0 0 0)), (4, (.ref 1 0 0)), (6, (i64 (IntKind.wrap .i64 (v1_0 + 1))))] [.row 22 [(ApiBooks.v a1)], .row 7 [(.agg [(i64 0), (i64 0), (i64 0), (i64 0), (.str []), (.str []), (.str [])])]] 8 [] ?_
        exact go_back rfl (hJ1 m1 _ _ (Nat.lt_succ_self m1) ⟨IntKind.wrap .i64 (v1_0 + 1), h, rfl, rfl⟩)
    · rw [hb7]
      refine gx mo [.pc p33_23] 28 [(4, (.ref 1 0 0))] [.row 22 [(ApiBooks.v a1)], .row 7 [(.agg [(i64 0), (i64 0), (i64 0), (i64 0), (.str []), (.str []), (.str [])])]] 2 [] ?_
      refine go_pick [1] [] [(4, 0)] (t' := (mk 28 [(4, (.ref 0 0 0))])) (s' := [.row 7 [(.agg [(i64 0), (i64 0), (i64 0), (i64 0), (.str []), (.str []), (.str [])])]]) (by kernel_rfl) ⟨clo_one rfl, trivial⟩ rfl ?_
      exact kont1_0 () h
/-! corebank/corebankref04.Valid -/
def p34_2 : PC := .ret
def p34_4 : PC := (.seq (.reg (oo 2 (.mv (.c (.bool false))) :: [])) (.seq (.reg (om 3 0 :: oo 4 (.bin .geq .other true (.t 3) (.c (.int .i64 0))) :: om 5 4 :: ⟨some 6, .op (.mv (.t 0)), some (5, true)⟩ :: ⟨some 7, .op (.bin .leq .other true (.t 6) (.c (.int .i64 73048))), some (5, true)⟩ :: oo 8 (.pick (.t 5) (.t 7) (.c (.bool false))) :: om 2 8 :: [])) p34_2))
theorem fn34 : FnOk Tryz.prog 34 p34_4 9 [.t 2] := ⟨false, Tryz.f34, _, Tryz.func34, by decide, rfl, by kernel_rfl, rfl, by kernel_rfl⟩
def F_r04_Valid  (N : Nat) (a1 : Int) : Option (Bool) :=
      bif decide (0 ≤ a1) then
    (some (decide (a1 ≤ 73048)))
    else
    (some false)
theorem P_r04_Valid  {N : Nat} {a1 : Int} {r : Bool} (h : F_r04_Valid N a1 = some r) : Pure Tryz.prog (Gl.at 0) 34 [(i64 a1)] (.bool r) := by
  refine pure_run fn34 ?_
  rw [F_r04_Valid] at h
  replace h := bs h
  change GG [.t 2] _ [.pc p34_4] (mk 9 [(0, (i64 a1))]) []
  refine go_if h (fun hb2 h => ?_) (fun hb2 h => ?_)
  · refine gx mo [.pc p34_2] 9 [(2, (.bool (decide (a1 ≤ 73048))))] [] 14 [twb 2 [] (.bin .geq .other true (.c (i64 a1)) (.c (i64 0))) (decide (0 ≤ a1)) true hb2] ?_
    obtain rfl := Option.some.inj h
    exact gf (.bool (decide (a1 ≤ 73048))) (.same rfl)
  · refine gx mo [.pc p34_2] 9 [(2, (.bool false))] [] 14 [twb 2 [] (.bin .geq .other true (.c (i64 a1)) (.c (i64 0))) (decide (0 ≤ a1)) false hb2] ?_
    obtain rfl := Option.some.inj h
    exact gf (.bool false) (.same rfl)
end
end Go.TL
