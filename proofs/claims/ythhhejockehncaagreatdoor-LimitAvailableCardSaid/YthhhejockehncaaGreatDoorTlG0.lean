/- The program's functions as Lean's own, with proofs. -/
import Derived.Test.YthhhejockehncaaGreatDoorTlIn2
set_option maxRecDepth 20000
set_option linter.all false
set_option linter.unusedVariables false
namespace Go.TL
open Go Go.Proofs
noncomputable section
open Go.RowKit Go.Lib
/-! corebank/blocking.cover -/
def p69_30 : PC := .ret
def p69_31 : PC := (.seq (.reg (oo 23 (.build [] []) :: oo 24 (.ifc 139 (.t 23)) :: om 2 24 :: [])) p69_30)
def p69_16 : PC := .ret
def p69_19 : PC := (.cond (.t 17) (.seq (.reg (oo 19 (.fa 3 (.t 1)) :: oo 20 (.ld1 (.t 19)) :: oo 21 (.build [.int .i64 0] [(0, 1, .t 20)]) :: oo 22 (.ifc 121 (.t 21)) :: om 2 22 :: [])) p69_16) .skip)
def p69_12 : PC := .ret
def p69_21 : PC := (.cond (.t 13) (.seq (.reg (oo 15 (.build [] []) :: oo 16 (.ifc 138 (.t 15)) :: om 2 16 :: [])) p69_12) (.seq (.reg (oo 18 (.bin .eql .other true (.t 4) (.c (.int .i64 4))) :: om 17 18 :: [])) p69_19))
def p69_8 : PC := .ret
def p69_23 : PC := (.cond (.t 9) (.seq (.reg (oo 11 (.build [] []) :: oo 12 (.ifc 137 (.t 11)) :: om 2 12 :: [])) p69_8) (.seq (.reg (oo 14 (.bin .eql .other true (.t 4) (.c (.int .i64 3))) :: om 13 14 :: [])) p69_21))
def p69_4 : PC := .ret
def p69_25 : PC := (.cond (.t 5) (.seq (.reg (oo 7 (.build [] []) :: oo 8 (.ifc 136 (.t 7)) :: om 2 8 :: [])) p69_4) (.seq (.reg (oo 10 (.bin .eql .other true (.t 4) (.c (.int .i64 2))) :: om 9 10 :: [])) p69_23))
def p69_33 : PC := (.seq (.reg (oo 1 (.box (.t 0)) :: oo 2 (.mv (.c .nili)) :: [])) (.seq (.seq (.reg (oo 3 (.fa 2 (.t 1)) :: oo 4 (.ld1 (.t 3)) :: [])) (.block 0 (.seq (.reg (oo 6 (.bin .eql .other true (.t 4) (.c (.int .i64 1))) :: om 5 6 :: [])) p69_25))) p69_31))
theorem fn69 : FnOk Tryz.prog 69 p69_33 25 [.t 2] := ⟨false, Tryz.f69, _, Tryz.func69, by decide, rfl, by kernel_rfl, rfl, by kernel_rfl⟩
/-! corebank/entry.collect -/
def p72_24 : PC := .ret
def p72_25 : PC := (.seq (.reg (om 38 0 :: om 4 38 :: [])) p72_24)
def p72_16 : PC := (.reg (oo 37 (.bin .add .other true (.t 11) (.c (.int .i64 1))) :: om 11 37 :: []))
def p72_11 : PC := (.cond (.t 21) (.drawn (om 22 0 :: om 23 7 :: oo 24 (.ia 3 (.t 22) (.t 23)) :: oo 25 (.fa 1 (.t 24)) :: oo 26 (.ld1 (.t 25)) :: oo 27 (.fa 1 (.t 6)) :: oo 28 (.ld1 (.t 27)) :: oo 29 (.bin .add .other false (.t 26) (.t 28)) :: oo 30 (.ia 3 (.t 22) (.t 23)) :: oo 31 (.fa 1 (.t 30)) :: on_ (.st 1 (.t 31) (.t 29)) :: []) [[], [], [0, 1], [2], [3], [], [5], [4, 6], [0, 1, 0, 1, 2, 3, 4, 5, 6, 7], [8, 0, 1, 2, 3, 4, 5, 6, 7], [9, 7, 0, 1, 2, 3, 4, 5, 6, 7]]) (.reg (om 32 0 :: om 33 7 :: oo 34 (.ldA 3 (.t 6)) :: oo 35 (.lit (.agg [.int .i64 0, .int .i64 0, .str []]) 1 [(0, .t 34)]) :: ⟨some 36, .call 89 [.t 32, .t 33, .t 35], none⟩ :: om 0 36 :: [])))
def p72_17 : PC := (.seq (.block 1 (.seq (.reg (oo 13 (.ia 3 (.t 9) (.t 11)) :: oo 14 (.ldA 3 (.t 13)) :: oo 6 (.new (.agg [.int .i64 0, .int .i64 0, .str []])) :: on_ (.st 3 (.t 6) (.t 14)) :: [])) (.seq (.reg (om 16 0 :: oo 17 (.ldA 3 (.t 6)) :: ⟨some 18, .call 87 [.t 16, .t 17, .c (.fn (.func 88) [] [])], none⟩ :: om 15 18 :: oo 19 (.ext 0 (.t 15)) :: oo 20 (.ext 1 (.t 15)) :: om 7 19 :: om 8 20 :: [])) (.seq (.reg (om 21 8 :: [])) p72_11)))) p72_16)
def p72_5 : PC := (.cond (.t 12) .skip (.exit 0))
def p72_20 : PC := (.loop (.seq (.reg (oo 12 (.bin .lss .other false (.t 11) (.t 10)) :: [])) (.seq p72_5 p72_17)))
def p72_27 : PC := (.seq (.reg (oo 4 (.mv (.c .nils)) :: [])) (.seq (.seq (.reg (om 9 1 :: oo 10 (.len .slice (.t 9)) :: oo 11 (.mv (.c (.int .i64 0))) :: [])) (.block 0 p72_20)) p72_25))
theorem fn72 : FnOk Tryz.prog 72 p72_27 39 [.t 4] := ⟨false, Tryz.f72, _, Tryz.func72, by decide, rfl, by kernel_rfl, rfl, by kernel_rfl⟩
/-! slices.DeleteFunc[[]corebank/api.Leg,corebank/api.Leg] -/
def p73_36 : PC := (.seq (.seq (.reg (om 14 5 :: oo 15 (.bin .add .other true (.t 14) (.c (.int .i64 1))) :: om 6 15 :: [])) (.block 0 (.loop (.seq (.seq (.reg (om 16 6 :: om 17 0 :: oo 18 (.len .slice (.t 17)) :: oo 19 (.bin .lss .other false (.t 16) (.t 18)) :: [])) (.cond (.t 19) .skip (.exit 0))) (.seq (.block 1 (.seq (.reg (om 22 0 :: om 23 6 :: oo 24 (.ia 3 (.t 22) (.t 23)) :: oo 25 (.ldA 3 (.t 24)) :: oo 7 (.new (.agg [.int .i64 0, .int .i64 0, .str []])) :: on_ (.st 3 (.t 7) (.t 25)) :: [])) (.seq (.reg (om 26 1 :: oo 27 (.ldA 3 (.t 7)) :: ⟨some 28, .dyn (.t 26) [.t 27], none⟩ :: oo 29 (.un .not (.t 28)) :: [])) (.cond (.t 29) (.seq (.reg (om 30 0 :: om 31 5 :: oo 32 (.ldA 3 (.t 7)) :: oo 33 (.ia 3 (.t 30) (.t 31)) :: on_ (.st 3 (.t 33) (.t 32)) :: [])) (.reg (om 34 5 :: oo 35 (.bin .add .other true (.t 34) (.c (.int .i64 1))) :: om 5 35 :: []))) .skip)))) (.reg (om 20 6 :: oo 21 (.bin .add .other true (.t 20) (.c (.int .i64 1))) :: om 6 21 :: []))))))) (.seq (.reg (om 36 0 :: om 37 5 :: oo 38 (.slc (.slice 3) (.t 36) (some (.t 37)) none) :: ⟨none, .bad, none⟩ :: [])) (.seq (.reg (om 39 0 :: om 40 5 :: oo 41 (.slc (.slice 3) (.t 39) none (some (.t 40))) :: om 4 41 :: [])) .ret)))
def p73_4 : PC := .ret
def p73_7 : PC := (.cond (.t 12) (.seq (.reg (om 13 0 :: om 4 13 :: [])) p73_4) .skip)
def p73_39 : PC := (.seq (.reg (oo 4 (.mv (.c .nils)) :: [])) (.seq (.reg (om 8 0 :: om 9 1 :: ⟨some 10, .call 84 [.t 8, .t 9], none⟩ :: om 5 10 :: [])) (.seq (.seq (.reg (om 11 5 :: oo 12 (.bin .eql .other true (.t 11) (.c (.int .i64 (-1)))) :: [])) p73_7) p73_36)))
theorem fn73 : FnOk Tryz.prog 73 p73_39 42 [.t 4] := ⟨false, Tryz.f73, _, Tryz.func73, by decide, rfl, by kernel_rfl, rfl, by kernel_rfl⟩
/-! corebank/limit.windowOf -/
def p93_18 : PC := .ret
def p93_19 : PC := (.seq (.reg (oo 11 (.build [.nilf] []) :: on_ (.st 1 (.t 2) (.t 11)) :: oo 3 (.mv (.c (.bool false))) :: [])) p93_18)
def p93_11 : PC := (.cond (.t 8) (.seq (.reg (oo 10 (.build [.nilf] [(0, 1, .c (.fn (.func 25) [] []))]) :: on_ (.st 1 (.t 2) (.t 10)) :: oo 3 (.mv (.c (.bool true))) :: [])) .ret) .skip)
def p93_13 : PC := (.cond (.t 5) (.seq (.reg (oo 7 (.build [.nilf] [(0, 1, .c (.fn (.func 105) [] []))]) :: on_ (.st 1 (.t 2) (.t 7)) :: oo 3 (.mv (.c (.bool true))) :: [])) .ret) (.seq (.reg (oo 9 (.bin .eql .other true (.t 4) (.c (.int .i64 3))) :: om 8 9 :: [])) p93_11))
def p93_21 : PC := (.seq (.reg (oo 2 (.new (.agg [.nilf])) :: oo 3 (.mv (.c (.bool false))) :: [])) (.seq (.seq (.reg (om 4 0 :: [])) (.block 0 (.seq (.reg (oo 6 (.bin .eql .other true (.t 4) (.c (.int .i64 2))) :: om 5 6 :: [])) p93_13))) p93_19))
theorem fn93 : FnOk Tryz.prog 93 p93_21 12 [.a 2 1, .t 3] := ⟨false, Tryz.f93, _, Tryz.func93, by decide, rfl, by kernel_rfl, rfl, by kernel_rfl⟩
/-! corebank/corebankref22.Great -/
def p16_29 : PC := .ret
def p16_30 : PC := (.seq (.reg (oo 2 (.mv (.c (.bool false))) :: [])) p16_29)
def p16_22 : PC := (.reg (om 11 3 :: oo 12 (.bin .add .other true (.t 11) (.c (.int .i64 1))) :: om 3 12 :: []))
def p16_16 : PC := .ret
def p16_19 : PC := (.cond (.t 19) (.seq (.reg (oo 2 (.mv (.c (.bool true))) :: [])) p16_16) .skip)
def p16_23 : PC := (.seq (.block 1 (.seq (.reg (om 13 0 :: om 14 3 :: oo 15 (.ia 6 (.t 13) (.t 14)) :: oo 16 (.fa 5 (.t 15)) :: oo 17 (.ld1 (.t 16)) :: oo 18 (.len .str (.t 17)) :: oo 19 (.bin .gtr .other true (.t 18) (.c (.int .i64 200))) :: [])) p16_19)) p16_22)
def p16_12 : PC := (.cond (.t 10) .skip (.exit 0))
def p16_25 : PC := (.loop (.seq (.seq (.reg (om 7 3 :: om 8 0 :: oo 9 (.len .slice (.t 8)) :: oo 10 (.bin .lss .other false (.t 7) (.t 9)) :: [])) p16_12) p16_23))
def p16_31 : PC := (.seq (.seq (.reg (oo 3 (.mv (.c (.int .i64 0))) :: [])) (.block 0 p16_25)) p16_30)
def p16_3 : PC := .ret
def p16_6 : PC := (.cond (.t 6) (.seq (.reg (oo 2 (.mv (.c (.bool true))) :: [])) p16_3) .skip)
def p16_33 : PC := (.seq (.reg (oo 2 (.mv (.c (.bool false))) :: [])) (.seq (.seq (.reg (om 4 0 :: oo 5 (.len .slice (.t 4)) :: oo 6 (.bin .gtr .other true (.t 5) (.c (.int .i64 100))) :: [])) p16_6) p16_31))
theorem fn16 : FnOk Tryz.prog 16 p16_33 20 [.t 2] := ⟨false, Tryz.f16, _, Tryz.func16, by decide, rfl, by kernel_rfl, rfl, by kernel_rfl⟩
def L_r22_Great_1 (N : Nat) (a1 : List ApiHold) : Nat → Int → Option (Br (Bool) (Unit))
  | 0, _ => none
  | m1 + 1, v1_0 =>
    bif decide (v1_0 < (a1.length : Int)) then
    ((getI a1 v1_0).bind fun y7 =>
    bif decide (200 < (y7.Key_.length : Int)) then
    (some (.ret true))
    else
    ((L_r22_Great_1 N a1 m1) (IntKind.wrap .i64 (v1_0 + 1))))
    else
    (some (.brk ()))
def K_r22_Great_1 (N : Nat)  : Br (Bool) (Unit) → Option (Bool)
  | .ret r => some r
  | .brk _ =>
    some false
def F_r22_Great  (N : Nat) (a1 : List ApiHold) : Option (Bool) :=
      bif decide (100 < (a1.length : Int)) then
    (some true)
    else
    ((L_r22_Great_1 N a1 N 0).bind (K_r22_Great_1 N))
theorem P_r22_Great  {N : Nat} {a1 : List ApiHold} {r : Bool} (h : F_r22_Great N a1 = some r) : Pure Tryz.prog (Gl.at 0) 16 [(.sl (a1.map ApiHold.v))] (.bool r) := by
  refine pure_run fn16 ?_
  rw [F_r22_Great] at h
  replace h := bs h
  change GG [.t 2] _ [.pc p16_33] (mk 20 [(0, (.sl (a1.map ApiHold.v)))]) []
  refine gx mo [.pc p16_6, .pc p16_31] 20 [(0, (.sl (a1.map ApiHold.v))), (6, (.bool (decide (100 < (a1.length : Int)))))] [] 11 [tw 2 (E_len [] a1 ApiHold.v)] ?_
  refine go_if h (fun hb2 h => ?_) (fun hb2 h => ?_)
  · rw [hb2]
    refine gx mo [.pc p16_3, .pc p16_31] 20 [(2, (.bool true))] [] 5 [] ?_
    obtain rfl := Option.some.inj h
    exact gf (.bool true) (.same rfl)
  · rw [hb2]
    refine gx mo [.pc p16_25, .blk 0, .pc p16_30] 20 [(0, (.sl (a1.map ApiHold.v))), (3, (i64 0))] [] 8 [] ?_
    refine go_cut (X := Unit) (fun x => (K_r22_Great_1 N (.brk x)).bind some = some r) ([.pc p16_30]) (fun x => (mk 20 [])) (fun x => []) ?_ fun kont1_0 => ?_
    · rintro _ h
      rw [K_r22_Great_1] at h
      refine gx mo [.pc p16_29] 20 [(2, (.bool false))] [] 4 [] ?_
      obtain rfl := Option.some.inj h
      exact gf (.bool false) (.same rfl)
    refine go_loop' (fun m t s => ∃ (v1_0 : Int), (L_r22_Great_1 N a1 m v1_0).bind (fun q => (K_r22_Great_1 N q).bind some) = some r ∧ t = (mk 20 [(0, (.sl (a1.map ApiHold.v))), (3, (i64 v1_0))]) ∧ s = []) N ⟨0, go_assoc h, rfl, rfl⟩ ?_
    intro m1 J1 hJ1 t s
    rintro ⟨v1_0, h, rfl, rfl⟩
    cases m1 with
    | zero => exact absurd h (by simp [L_r22_Great_1])
    | succ m1 =>
      rw [L_r22_Great_1] at h
      refine gx mo [.pc p16_12, .pc p16_23, .jp J1, .blk 0, .pc p16_30] 20 [(0, (.sl (a1.map ApiHold.v))), (3, (i64 v1_0)), (10, (.bool (decide (v1_0 < (a1.length : Int)))))] [] 8 [tw 2 (E_len [] a1 ApiHold.v)] ?_
      refine go_if h (fun hb6 h => ?_) (fun hb6 h => ?_)
      · rw [hb6]
        refine go_bind h (fun y7 hy7 h => ?_)
        refine gx mo [.pc p16_19, .blk 1, .pc p16_22, .jp J1, .blk 0, .pc p16_30] 20 [(0, (.sl (a1.map ApiHold.v))), (3, (i64 v1_0)), (19, (.bool (decide (200 < (y7.Key_.length : Int)))))] [] 14 [tw 3 (E_ia [] ApiHold.v .i64 hy7)] ?_
        refine go_if h (fun hb8 h => ?_) (fun hb8 h => ?_)
        · rw [hb8]
          refine gx mo [.pc p16_16, .blk 1, .pc p16_22, .jp J1, .blk 0, .pc p16_30] 20 [(2, (.bool true))] [] 5 [] ?_
          obtain rfl := Option.some.inj h
          exact gf (.bool true) (.same rfl)
        · rw [hb8]
          refine gx mo [.jp J1, .blk 0, .pc p16_30] 20 [(0, (.sl (a1.map ApiHold.v))), (3, (i64 (IntKind.wrap .i64 (v1_0 + 1))))] [] 8 [] ?_
          exact go_back rfl (hJ1 m1 _ _ (Nat.lt_succ_self m1) ⟨IntKind.wrap .i64 (v1_0 + 1), h, rfl, rfl⟩)
      · rw [hb6]
        refine gx mo [.pc p16_30] 20 [] [] 2 [] ?_
        exact kont1_0 () h
/-! corebank/corebankref10.count -/
def p71_17 : PC := .ret
def p71_18 : PC := (.seq (.reg (om 30 5 :: om 4 30 :: [])) p71_17)
def p71_11 : PC := (.seq (.block 1 (.reg (om 19 5 :: oo 20 (.fa 3 (.t 2)) :: oo 21 (.ld1 (.t 20)) :: om 22 6 :: oo 23 (.ia 4 (.t 21) (.t 22)) :: oo 24 (.ldA 4 (.t 23)) :: om 25 1 :: om 26 5 :: oo 27 (.bin .sub .other false (.t 25) (.t 26)) :: ⟨some 28, .call 71 [.t 24, .t 27], none⟩ :: oo 29 (.bin .add .other false (.t 19) (.t 28)) :: om 5 29 :: []))) (.reg (om 17 6 :: oo 18 (.bin .add .other true (.t 17) (.c (.int .i64 1))) :: om 6 18 :: [])))
def p71_6 : PC := (.cond (.t 16) .skip (.exit 0))
def p71_13 : PC := (.loop (.seq (.seq (.reg (om 7 6 :: oo 8 (.fa 3 (.t 2)) :: oo 9 (.ld1 (.t 8)) :: oo 10 (.len .slice (.t 9)) :: oo 11 (.bin .lss .other false (.t 7) (.t 10)) :: om 12 11 :: ⟨some 13, .op (.mv (.t 5)), some (12, true)⟩ :: ⟨some 14, .op (.mv (.t 1)), some (12, true)⟩ :: ⟨some 15, .op (.bin .leq .other false (.t 13) (.t 14)), some (12, true)⟩ :: oo 16 (.pick (.t 12) (.t 15) (.c (.bool false))) :: [])) p71_6) p71_11))
def p71_21 : PC := (.seq (.reg (oo 2 (.box (.t 0)) :: oo 4 (.mv (.c (.int .i64 0))) :: [])) (.seq (.reg (oo 5 (.mv (.c (.int .i64 1))) :: [])) (.seq (.seq (.reg (oo 6 (.mv (.c (.int .i64 0))) :: [])) (.block 0 p71_13)) p71_18)))
theorem fn71 : FnOk Tryz.prog 71 p71_21 31 [.t 4] := ⟨false, Tryz.f71, _, Tryz.func71, by decide, rfl, by kernel_rfl, rfl, by kernel_rfl⟩
def L_r10_count_1 (N : Nat) (a1 : ApiExpr) (a2 : Int) (fr_r10_count : ApiExpr → Int → Option (Int)) : Nat → Int → Int → Option (Int)
  | 0, _, _ => none
  | m1 + 1, v1_0, v1_1 =>
    bif decide (v1_1 < (a1.Args_.length : Int)) then
    (bif decide (v1_0 ≤ a2) then
    ((getI a1.Args_ v1_1).bind fun y9 =>
    (fr_r10_count y9 (IntKind.wrap .i64 (a2 - v1_0))).bind fun r10 =>
    (L_r10_count_1 N a1 a2 fr_r10_count m1) (IntKind.wrap .i64 (v1_0 + r10)) (IntKind.wrap .i64 (v1_1 + 1)))
    else
    (some v1_0))
    else
    (some v1_0)
def K_r10_count_1 (N : Nat)  : (Int) → Option (Int)
  | x1_0 =>
    some x1_0
def F_r10_count  : Nat → ApiExpr → Int → Option (Int)
  | 0, _, _ => none
  | N + 1, a1, a2 =>
      (L_r10_count_1 N a1 a2 (F_r10_count N) N 1 0).bind (K_r10_count_1 N)
theorem P_r10_count  {N : Nat} {a1 : ApiExpr} {a2 : Int} {r : Int} (h : F_r10_count N a1 a2 = some r) : Pure Tryz.prog (Gl.at 0) 71 [(ApiExpr.v a1), (i64 a2)] (i64 r) := by
  induction N generalizing a1 a2 r with
  | zero => simp [F_r10_count] at h
  | succ N ih =>
    refine pure_run fn71 ?_
    rw [F_r10_count] at h
    replace h := bs h
    change GG [.t 4] _ [.pc p71_21] (mk 31 [(0, (ApiExpr.v a1)), (1, (i64 a2))]) []
    refine gx mo [.pc p71_13, .blk 0, .pc p71_18] 31 [(1, (i64 a2)), (2, (.ref 0 0 0)), (5, (i64 1)), (6, (i64 0))] [.row 4 [(ApiExpr.v a1)]] 15 [] ?_
    refine go_cut (X := Int) (fun x => (K_r10_count_1 N x).bind some = some r) ([.pc p71_18]) (fun x => (mk 31 [(5, (i64 x))])) (fun x => []) ?_ fun kont1_0 => ?_
    · rintro x1_0 h
      rw [K_r10_count_1] at h
      refine gx mo [.pc p71_17] 31 [(4, (i64 x1_0))] [] 5 [] ?_
      obtain rfl := Option.some.inj h
      exact gf (i64 x1_0) (.same rfl)
    refine go_loop' (fun m t s => ∃ (v1_0 : Int) (v1_1 : Int), (L_r10_count_1 N a1 a2 (F_r10_count N) m v1_0 v1_1).bind (fun q => (K_r10_count_1 N q).bind some) = some r ∧ t = (mk 31 [(1, (i64 a2)), (2, (.ref 0 0 0)), (5, (i64 v1_0)), (6, (i64 v1_1))]) ∧ s = [.row 4 [(ApiExpr.v a1)]]) N ⟨1, 0, go_assoc h, rfl, rfl⟩ ?_
    intro m1 J1 hJ1 t s
    rintro ⟨v1_0, v1_1, h, rfl, rfl⟩
    cases m1 with
    | zero => exact absurd h (by simp [L_r10_count_1])
    | succ m1 =>
      rw [L_r10_count_1] at h
      refine go_if h (fun hb7 h => ?_) (fun hb7 h => ?_)
      · refine gx mo [.pc p71_6, .pc p71_11, .jp J1, .blk 0, .pc p71_18] 31 [(1, (i64 a2)), (2, (.ref 0 0 0)), (5, (i64 v1_0)), (6, (i64 v1_1)), (16, (.bool (decide (v1_0 ≤ a2))))] [.row 4 [(ApiExpr.v a1)]] 14 [tw 3 (E_lenv [.row 4 [(ApiExpr.v a1)]] (ApiExpr.va_map a1)), twb 4 [.row 4 [(ApiExpr.v a1)]] (.bin .lss .other false (.c (i64 v1_1)) (.c (i64 (a1.Args_.length : Int)))) (decide (v1_1 < (a1.Args_.length : Int))) true hb7] ?_
        refine go_if h (fun hb8 h => ?_) (fun hb8 h => ?_)
        · rw [hb8]
          refine go_bind h (fun y9 hy9 h => ?_)
          refine go_bind h (fun r10 hr10 h => ?_)
          refine gx mo [.jp J1, .blk 0, .pc p71_18] 31 [(1, (i64 a2)), (2, (.ref 0 0 0)), (5, (i64 (IntKind.wrap .i64 (v1_0 + r10)))), (6, (i64 (IntKind.wrap .i64 (v1_1 + 1))))] [.row 4 [(ApiExpr.v a1)]] 24 [tw 5 (E_iav [.row 4 [(ApiExpr.v a1)]] .i64 (ApiExpr.va_map a1) hy9), tc 10 [.row 4 [(ApiExpr.v a1)]] (ih hr10) (fg (fs fl_nil))] ?_
          exact go_back rfl (hJ1 m1 _ _ (Nat.lt_succ_self m1) ⟨IntKind.wrap .i64 (v1_0 + r10), IntKind.wrap .i64 (v1_1 + 1), h, rfl, rfl⟩)
        · rw [hb8]
          refine gx mo [.pc p71_18] 31 [(5, (i64 v1_0))] [.row 4 [(ApiExpr.v a1)]] 2 [] ?_
          refine go_pick [] [] [(5, 0)] (t' := (mk 31 [(5, (i64 v1_0))])) (s' := []) (by kernel_rfl) trivial rfl ?_
          exact kont1_0 v1_0 h
      · refine gx mo [.pc p71_18] 31 [(5, (i64 v1_0))] [.row 4 [(ApiExpr.v a1)]] 16 [tw 3 (E_lenv [.row 4 [(ApiExpr.v a1)]] (ApiExpr.va_map a1)), twb 4 [.row 4 [(ApiExpr.v a1)]] (.bin .lss .other false (.c (i64 v1_1)) (.c (i64 (a1.Args_.length : Int)))) (decide (v1_1 < (a1.Args_.length : Int))) false hb7] ?_
        refine go_pick [] [] [(5, 0)] (t' := (mk 31 [(5, (i64 v1_0))])) (s' := []) (by kernel_rfl) trivial rfl ?_
        exact kont1_0 v1_0 h
/-! corebank/corebankref10.Great -/
def p52_2 : PC := .ret
def p52_4 : PC := (.seq (.reg (oo 2 (.box (.t 0)) :: oo 4 (.mv (.c (.bool false))) :: [])) (.seq (.reg (oo 5 (.ldA 4 (.t 2)) :: om 6 1 :: ⟨some 7, .call 71 [.t 5, .t 6], none⟩ :: om 8 1 :: oo 9 (.bin .gtr .other false (.t 7) (.t 8)) :: om 4 9 :: [])) p52_2))
theorem fn52 : FnOk Tryz.prog 52 p52_4 10 [.t 4] := ⟨false, Tryz.f52, _, Tryz.func52, by decide, rfl, by kernel_rfl, rfl, by kernel_rfl⟩
def F_r10_Great  (N : Nat) (a1 : ApiExpr) (a2 : Int) : Option (Bool) :=
      (F_r10_count N a1 a2).bind fun r3 =>
    some (decide (a2 < r3))
theorem P_r10_Great  {N : Nat} {a1 : ApiExpr} {a2 : Int} {r : Bool} (h : F_r10_Great N a1 a2 = some r) : Pure Tryz.prog (Gl.at 0) 52 [(ApiExpr.v a1), (i64 a2)] (.bool r) := by
  refine pure_run fn52 ?_
  rw [F_r10_Great] at h
  replace h := bs h
  change GG [.t 4] _ [.pc p52_4] (mk 10 [(0, (ApiExpr.v a1)), (1, (i64 a2))]) []
  refine go_bind h (fun r3 hr3 h => ?_)
  refine gx mo [.pc p52_2] 10 [(4, (.bool (decide (a2 < r3))))] [.row 4 [(ApiExpr.v a1)]] 14 [tc 4 [.row 4 [(ApiExpr.v a1)]] (P_r10_count hr3) (fg (fs fl_nil))] ?_
  obtain rfl := Option.some.inj h
  exact gf (.bool (decide (a2 < r3))) (.same rfl)
/-! corebank/corebankref16.Great -/
def p17_49 : PC := .ret
def p17_50 : PC := (.seq (.reg (oo 2 (.mv (.c (.bool false))) :: [])) p17_49)
def p17_42 : PC := (.reg (om 85 4 :: oo 86 (.bin .add .other true (.t 85) (.c (.int .i64 1))) :: om 4 86 :: []))
def p17_36 : PC := .ret
def p17_39 : PC := (.cond (.t 103) (.seq (.reg (oo 2 (.mv (.c (.bool true))) :: [])) p17_36) .skip)
def p17_43 : PC := (.seq (.block 3 (.seq (.reg (oo 87 (.fa 18 (.t 1)) :: oo 88 (.ld1 (.t 87)) :: om 89 4 :: oo 90 (.ia 6 (.t 88) (.t 89)) :: oo 91 (.fa 0 (.t 90)) :: oo 92 (.ld1 (.t 91)) :: oo 93 (.len .str (.t 92)) :: oo 94 (.bin .gtr .other true (.t 93) (.c (.int .i64 100))) :: om 95 94 :: ⟨some 96, .op (.fa 18 (.t 1)), some (95, false)⟩ :: ⟨some 97, .op (.ld1 (.t 96)), some (95, false)⟩ :: ⟨some 98, .op (.mv (.t 4)), some (95, false)⟩ :: ⟨some 99, .op (.ia 6 (.t 97) (.t 98)), some (95, false)⟩ :: ⟨some 100, .op (.fa 2 (.t 99)), some (95, false)⟩ :: ⟨some 101, .op (.ldA 4 (.t 100)), some (95, false)⟩ :: ⟨some 102, .call 52 [.t 101, .c (.int .i64 100)], some (95, false)⟩ :: oo 103 (.pick (.t 95) (.c (.bool true)) (.t 102)) :: [])) p17_39)) p17_42)
def p17_32 : PC := (.cond (.t 84) .skip (.exit 2))
def p17_45 : PC := (.loop (.seq (.seq (.reg (om 80 4 :: oo 81 (.fa 18 (.t 1)) :: oo 82 (.ld1 (.t 81)) :: oo 83 (.len .slice (.t 82)) :: oo 84 (.bin .lss .other false (.t 80) (.t 83)) :: [])) p17_32) p17_43))
def p17_51 : PC := (.seq (.seq (.reg (oo 4 (.mv (.c (.int .i64 0))) :: [])) (.block 2 p17_45)) p17_50)
def p17_22 : PC := (.reg (om 52 3 :: oo 53 (.bin .add .other true (.t 52) (.c (.int .i64 1))) :: om 3 53 :: []))
def p17_16 : PC := .ret
def p17_19 : PC := (.cond (.t 79) (.seq (.reg (oo 2 (.mv (.c (.bool true))) :: [])) p17_16) .skip)
def p17_23 : PC := (.seq (.block 1 (.seq (.reg (oo 54 (.fa 17 (.t 1)) :: oo 55 (.ld1 (.t 54)) :: om 56 3 :: oo 57 (.ia 10 (.t 55) (.t 56)) :: oo 58 (.fa 0 (.t 57)) :: oo 59 (.ld1 (.t 58)) :: oo 60 (.len .str (.t 59)) :: oo 61 (.bin .gtr .other true (.t 60) (.c (.int .i64 100))) :: om 62 61 :: ⟨some 63, .op (.fa 17 (.t 1)), some (62, false)⟩ :: ⟨some 64, .op (.ld1 (.t 63)), some (62, false)⟩ :: ⟨some 65, .op (.mv (.t 3)), some (62, false)⟩ :: ⟨some 66, .op (.ia 10 (.t 64) (.t 65)), some (62, false)⟩ :: ⟨some 67, .op (.fa 2 (.t 66)), some (62, false)⟩ :: ⟨some 68, .op (.ldA 4 (.t 67)), some (62, false)⟩ :: ⟨some 69, .call 52 [.t 68, .c (.int .i64 100)], some (62, false)⟩ :: oo 70 (.pick (.t 62) (.c (.bool true)) (.t 69)) :: om 71 70 :: ⟨some 72, .op (.fa 17 (.t 1)), some (71, false)⟩ :: ⟨some 73, .op (.ld1 (.t 72)), some (71, false)⟩ :: ⟨some 74, .op (.mv (.t 3)), some (71, false)⟩ :: ⟨some 75, .op (.ia 10 (.t 73) (.t 74)), some (71, false)⟩ :: ⟨some 76, .op (.fa 6 (.t 75)), some (71, false)⟩ :: ⟨some 77, .op (.ldA 4 (.t 76)), some (71, false)⟩ :: ⟨some 78, .call 52 [.t 77, .c (.int .i64 100)], some (71, false)⟩ :: oo 79 (.pick (.t 71) (.c (.bool true)) (.t 78)) :: [])) p17_19)) p17_22)
def p17_12 : PC := (.cond (.t 51) .skip (.exit 0))
def p17_25 : PC := (.loop (.seq (.seq (.reg (om 47 3 :: oo 48 (.fa 17 (.t 1)) :: oo 49 (.ld1 (.t 48)) :: oo 50 (.len .slice (.t 49)) :: oo 51 (.bin .lss .other false (.t 47) (.t 50)) :: [])) p17_12) p17_23))
def p17_52 : PC := (.seq (.seq (.reg (oo 3 (.mv (.c (.int .i64 0))) :: [])) (.block 0 p17_25)) p17_51)
def p17_3 : PC := .ret
def p17_6 : PC := (.cond (.t 46) (.seq (.reg (oo 2 (.mv (.c (.bool true))) :: [])) p17_3) .skip)
def p17_54 : PC := (.seq (.reg (oo 1 (.box (.t 0)) :: oo 2 (.mv (.c (.bool false))) :: [])) (.seq (.seq (.reg (oo 5 (.fa 0 (.t 1)) :: oo 6 (.ld1 (.t 5)) :: oo 7 (.len .str (.t 6)) :: oo 8 (.bin .gtr .other true (.t 7) (.c (.int .i64 100))) :: om 9 8 :: ⟨some 10, .op (.fa 1 (.t 1)), some (9, false)⟩ :: ⟨some 11, .op (.ld1 (.t 10)), some (9, false)⟩ :: ⟨some 12, .op (.len .str (.t 11)), some (9, false)⟩ :: ⟨some 13, .op (.bin .gtr .other true (.t 12) (.c (.int .i64 100))), some (9, false)⟩ :: oo 14 (.pick (.t 9) (.c (.bool true)) (.t 13)) :: om 15 14 :: ⟨some 16, .op (.fa 2 (.t 1)), some (15, false)⟩ :: ⟨some 17, .op (.ld1 (.t 16)), some (15, false)⟩ :: ⟨some 18, .op (.len .str (.t 17)), some (15, false)⟩ :: ⟨some 19, .op (.bin .gtr .other true (.t 18) (.c (.int .i64 100))), some (15, false)⟩ :: oo 20 (.pick (.t 15) (.c (.bool true)) (.t 19)) :: om 21 20 :: ⟨some 22, .op (.fa 7 (.t 1)), some (21, false)⟩ :: ⟨some 23, .op (.fa 0 (.t 22)), some (21, false)⟩ :: ⟨some 24, .op (.ld1 (.t 23)), some (21, false)⟩ :: ⟨some 25, .op (.len .slice (.t 24)), some (21, false)⟩ :: ⟨some 26, .op (.bin .gtr .other true (.t 25) (.c (.int .i64 20))), some (21, false)⟩ :: oo 27 (.pick (.t 21) (.c (.bool true)) (.t 26)) :: om 28 27 :: ⟨some 29, .op (.fa 12 (.t 1)), some (28, false)⟩ :: ⟨some 30, .op (.fa 0 (.t 29)), some (28, false)⟩ :: ⟨some 31, .op (.ld1 (.t 30)), some (28, false)⟩ :: ⟨some 32, .op (.len .slice (.t 31)), some (28, false)⟩ :: ⟨some 33, .op (.bin .gtr .other true (.t 32) (.c (.int .i64 20))), some (28, false)⟩ :: oo 34 (.pick (.t 28) (.c (.bool true)) (.t 33)) :: om 35 34 :: ⟨some 36, .op (.fa 17 (.t 1)), some (35, false)⟩ :: ⟨some 37, .op (.ld1 (.t 36)), some (35, false)⟩ :: ⟨some 38, .op (.len .slice (.t 37)), some (35, false)⟩ :: ⟨some 39, .op (.bin .gtr .other true (.t 38) (.c (.int .i64 10))), some (35, false)⟩ :: oo 40 (.pick (.t 35) (.c (.bool true)) (.t 39)) :: om 41 40 :: ⟨some 42, .op (.fa 18 (.t 1)), some (41, false)⟩ :: ⟨some 43, .op (.ld1 (.t 42)), some (41, false)⟩ :: ⟨some 44, .op (.len .slice (.t 43)), some (41, false)⟩ :: ⟨some 45, .op (.bin .gtr .other true (.t 44) (.c (.int .i64 10))), some (41, false)⟩ :: oo 46 (.pick (.t 41) (.c (.bool true)) (.t 45)) :: [])) p17_6) p17_52))
theorem fn17 : FnOk Tryz.prog 17 p17_54 104 [.t 2] := ⟨false, Tryz.f17, _, Tryz.func17, by decide, rfl, by kernel_rfl, rfl, by kernel_rfl⟩
def L_r16_Great_2 (N : Nat) (a1 : ApiProduct) : Nat → Int → Option (Br (Bool) (Unit))
  | 0, _ => none
  | m2 + 1, v2_0 =>
    bif decide (v2_0 < (a1.Rules_.length : Int)) then
    ((getI a1.Rules_ v2_0).bind fun y25 =>
    bif decide (100 < (y25.Name_.length : Int)) then
    (some (.ret true))
    else
    ((getI a1.Rules_ v2_0).bind fun y27 =>
    (F_r10_Great N y27.Amount_ 100).bind fun r28 =>
    bif r28 then
    (some (.ret true))
    else
    ((L_r16_Great_2 N a1 m2) (IntKind.wrap .i64 (v2_0 + 1)))))
    else
    (some (.brk ()))
def K_r16_Great_2 (N : Nat)  : Br (Bool) (Unit) → Option (Bool)
  | .ret r => some r
  | .brk _ =>
    some false
def L_r16_Great_1 (N : Nat) (a1 : ApiProduct) : Nat → Int → Option (Br (Bool) (Unit))
  | 0, _ => none
  | m1 + 1, v1_0 =>
    bif decide (v1_0 < (a1.Fees_.length : Int)) then
    ((getI a1.Fees_ v1_0).bind fun y31 =>
    bif decide (100 < (y31.Name_.length : Int)) then
    (some (.ret true))
    else
    ((getI a1.Fees_ v1_0).bind fun y33 =>
    (F_r10_Great N y33.When_ 100).bind fun r34 =>
    bif r34 then
    (some (.ret true))
    else
    ((getI a1.Fees_ v1_0).bind fun y36 =>
    (F_r10_Great N y36.Amount_ 100).bind fun r37 =>
    bif r37 then
    (some (.ret true))
    else
    ((L_r16_Great_1 N a1 m1) (IntKind.wrap .i64 (v1_0 + 1))))))
    else
    (some (.brk ()))
def K_r16_Great_1 (N : Nat) (a1 : ApiProduct) : Br (Bool) (Unit) → Option (Bool)
  | .ret r => some r
  | .brk _ =>
    (L_r16_Great_2 N a1 N 0).bind (K_r16_Great_2 N)
def F_r16_Great  (N : Nat) (a1 : ApiProduct) : Option (Bool) :=
      bif decide (100 < (a1.Name_.length : Int)) then
    (some true)
    else
    (bif decide (100 < (a1.Currency_.length : Int)) then
    (some true)
    else
    (bif decide (100 < (a1.Calendar_.length : Int)) then
    (some true)
    else
    (bif decide (20 < (a1.Credit_.Tiers_.length : Int)) then
    (some true)
    else
    (bif decide (20 < (a1.Debit_.Tiers_.length : Int)) then
    (some true)
    else
    (bif decide (10 < (a1.Fees_.length : Int)) then
    (some true)
    else
    (bif decide (10 < (a1.Rules_.length : Int)) then
    (some true)
    else
    ((L_r16_Great_1 N a1 N 0).bind (K_r16_Great_1 N a1))))))))
theorem P_r16_Great  {N : Nat} {a1 : ApiProduct} {r : Bool} (h : F_r16_Great N a1 = some r) : Pure Tryz.prog (Gl.at 0) 17 [(ApiProduct.v a1)] (.bool r) := by
  refine pure_run fn17 ?_
  rw [F_r16_Great] at h
  replace h := bs h
  change GG [.t 2] _ [.pc p17_54] (mk 104 [(0, (ApiProduct.v a1))]) []
  refine go_if h (fun hb2 h => ?_) (fun hb2 h => ?_)
  · refine gx mo [.pc p17_3, .pc p17_52] 104 [(2, (.bool true))] [.row 19 [(ApiProduct.v a1)]] 56 [twb 5 [.row 19 [(ApiProduct.v a1)]] (.bin .gtr .other true (.c (i64 (a1.Name_.length : Int))) (.c (i64 100))) (decide (100 < (a1.Name_.length : Int))) true hb2] ?_
    obtain rfl := Option.some.inj h
    exact gf (.bool true) (.same rfl)
  · refine go_if h (fun hb3 h => ?_) (fun hb3 h => ?_)
    · refine gx mo [.pc p17_3, .pc p17_52] 104 [(2, (.bool true))] [.row 19 [(ApiProduct.v a1)]] 56 [twb 5 [.row 19 [(ApiProduct.v a1)]] (.bin .gtr .other true (.c (i64 (a1.Name_.length : Int))) (.c (i64 100))) (decide (100 < (a1.Name_.length : Int))) false hb2, twb 11 [.row 19 [(ApiProduct.v a1)]] (.pick (.c (.bool false)) (.c (.bool true)) (.c (.bool (decide (100 < (a1.Currency_.length : Int)))))) (decide (100 < (a1.Currency_.length : Int))) true hb3] ?_
      obtain rfl := Option.some.inj h
      exact gf (.bool true) (.same rfl)
    · refine go_if h (fun hb4 h => ?_) (fun hb4 h => ?_)
      · refine gx mo [.pc p17_3, .pc p17_52] 104 [(2, (.bool true))] [.row 19 [(ApiProduct.v a1)]] 56 [twb 5 [.row 19 [(ApiProduct.v a1)]] (.bin .gtr .other true (.c (i64 (a1.Name_.length : Int))) (.c (i64 100))) (decide (100 < (a1.Name_.length : Int))) false hb2, twb 11 [.row 19 [(ApiProduct.v a1)]] (.pick (.c (.bool false)) (.c (.bool true)) (.c (.bool (decide (100 < (a1.Currency_.length : Int)))))) (decide (100 < (a1.Currency_.length : Int))) false hb3, twb 17 [.row 19 [(ApiProduct.v a1)]] (.pick (.c (.bool false)) (.c (.bool true)) (.c (.bool (decide (100 < (a1.Calendar_.length : Int)))))) (decide (100 < (a1.Calendar_.length : Int))) true hb4] ?_
        obtain rfl := Option.some.inj h
        exact gf (.bool true) (.same rfl)
      · refine go_if h (fun hb5 h => ?_) (fun hb5 h => ?_)
        · refine gx mo [.pc p17_3, .pc p17_52] 104 [(2, (.bool true))] [.row 19 [(ApiProduct.v a1)]] 56 [twb 5 [.row 19 [(ApiProduct.v a1)]] (.bin .gtr .other true (.c (i64 (a1.Name_.length : Int))) (.c (i64 100))) (decide (100 < (a1.Name_.length : Int))) false hb2, twb 11 [.row 19 [(ApiProduct.v a1)]] (.pick (.c (.bool false)) (.c (.bool true)) (.c (.bool (decide (100 < (a1.Currency_.length : Int)))))) (decide (100 < (a1.Currency_.length : Int))) false hb3, twb 17 [.row 19 [(ApiProduct.v a1)]] (.pick (.c (.bool false)) (.c (.bool true)) (.c (.bool (decide (100 < (a1.Calendar_.length : Int)))))) (decide (100 < (a1.Calendar_.length : Int))) false hb4, tw 22 (E_len [.row 19 [(ApiProduct.v a1)]] a1.Credit_.Tiers_ ApiTier.v), twb 24 [.row 19 [(ApiProduct.v a1)]] (.pick (.c (.bool false)) (.c (.bool true)) (.c (.bool (decide (20 < (a1.Credit_.Tiers_.length : Int)))))) (decide (20 < (a1.Credit_.Tiers_.length : Int))) true hb5] ?_
          obtain rfl := Option.some.inj h
          exact gf (.bool true) (.same rfl)
        · refine go_if h (fun hb6 h => ?_) (fun hb6 h => ?_)
          · refine gx mo [.pc p17_3, .pc p17_52] 104 [(2, (.bool true))] [.row 19 [(ApiProduct.v a1)]] 56 [twb 5 [.row 19 [(ApiProduct.v a1)]] (.bin .gtr .other true (.c (i64 (a1.Name_.length : Int))) (.c (i64 100))) (decide (100 < (a1.Name_.length : Int))) false hb2, twb 11 [.row 19 [(ApiProduct.v a1)]] (.pick (.c (.bool false)) (.c (.bool true)) (.c (.bool (decide (100 < (a1.Currency_.length : Int)))))) (decide (100 < (a1.Currency_.length : Int))) false hb3, twb 17 [.row 19 [(ApiProduct.v a1)]] (.pick (.c (.bool false)) (.c (.bool true)) (.c (.bool (decide (100 < (a1.Calendar_.length : Int)))))) (decide (100 < (a1.Calendar_.length : Int))) false hb4, tw 22 (E_len [.row 19 [(ApiProduct.v a1)]] a1.Credit_.Tiers_ ApiTier.v), twb 24 [.row 19 [(ApiProduct.v a1)]] (.pick (.c (.bool false)) (.c (.bool true)) (.c (.bool (decide (20 < (a1.Credit_.Tiers_.length : Int)))))) (decide (20 < (a1.Credit_.Tiers_.length : Int))) false hb5, tw 29 (E_len [.row 19 [(ApiProduct.v a1)]] a1.Debit_.Tiers_ ApiTier.v), twb 31 [.row 19 [(ApiProduct.v a1)]] (.pick (.c (.bool false)) (.c (.bool true)) (.c (.bool (decide (20 < (a1.Debit_.Tiers_.length : Int)))))) (decide (20 < (a1.Debit_.Tiers_.length : Int))) true hb6] ?_
            obtain rfl := Option.some.inj h
            exact gf (.bool true) (.same rfl)
          · refine go_if h (fun hb7 h => ?_) (fun hb7 h => ?_)
            · refine gx mo [.pc p17_3, .pc p17_52] 104 [(2, (.bool true))] [.row 19 [(ApiProduct.v a1)]] 56 [twb 5 [.row 19 [(ApiProduct.v a1)]] (.bin .gtr .other true (.c (i64 (a1.Name_.length : Int))) (.c (i64 100))) (decide (100 < (a1.Name_.length : Int))) false hb2, twb 11 [.row 19 [(ApiProduct.v a1)]] (.pick (.c (.bool false)) (.c (.bool true)) (.c (.bool (decide (100 < (a1.Currency_.length : Int)))))) (decide (100 < (a1.Currency_.length : Int))) false hb3, twb 17 [.row 19 [(ApiProduct.v a1)]] (.pick (.c (.bool false)) (.c (.bool true)) (.c (.bool (decide (100 < (a1.Calendar_.length : Int)))))) (decide (100 < (a1.Calendar_.length : Int))) false hb4, tw 22 (E_len [.row 19 [(ApiProduct.v a1)]] a1.Credit_.Tiers_ ApiTier.v), twb 24 [.row 19 [(ApiProduct.v a1)]] (.pick (.c (.bool false)) (.c (.bool true)) (.c (.bool (decide (20 < (a1.Credit_.Tiers_.length : Int)))))) (decide (20 < (a1.Credit_.Tiers_.length : Int))) false hb5, tw 29 (E_len [.row 19 [(ApiProduct.v a1)]] a1.Debit_.Tiers_ ApiTier.v), twb 31 [.row 19 [(ApiProduct.v a1)]] (.pick (.c (.bool false)) (.c (.bool true)) (.c (.bool (decide (20 < (a1.Debit_.Tiers_.length : Int)))))) (decide (20 < (a1.Debit_.Tiers_.length : Int))) false hb6, tw 35 (E_len [.row 19 [(ApiProduct.v a1)]] a1.Fees_ ApiFee.v), twb 37 [.row 19 [(ApiProduct.v a1)]] (.pick (.c (.bool false)) (.c (.bool true)) (.c (.bool (decide (10 < (a1.Fees_.length : Int)))))) (decide (10 < (a1.Fees_.length : Int))) true hb7] ?_
              obtain rfl := Option.some.inj h
              exact gf (.bool true) (.same rfl)
            · refine gx mo [.pc p17_6, .pc p17_52] 104 [(1, (.ref 0 0 0)), (46, (.bool (decide (10 < (a1.Rules_.length : Int)))))] [.row 19 [(ApiProduct.v a1)]] 51 [twb 5 [.row 19 [(ApiProduct.v a1)]] (.bin .gtr .other true (.c (i64 (a1.Name_.length : Int))) (.c (i64 100))) (decide (100 < (a1.Name_.length : Int))) false hb2, twb 11 [.row 19 [(ApiProduct.v a1)]] (.pick (.c (.bool false)) (.c (.bool true)) (.c (.bool (decide (100 < (a1.Currency_.length : Int)))))) (decide (100 < (a1.Currency_.length : Int))) false hb3, twb 17 [.row 19 [(ApiProduct.v a1)]] (.pick (.c (.bool false)) (.c (.bool true)) (.c (.bool (decide (100 < (a1.Calendar_.length : Int)))))) (decide (100 < (a1.Calendar_.length : Int))) false hb4, tw 22 (E_len [.row 19 [(ApiProduct.v a1)]] a1.Credit_.Tiers_ ApiTier.v), twb 24 [.row 19 [(ApiProduct.v a1)]] (.pick (.c (.bool false)) (.c (.bool true)) (.c (.bool (decide (20 < (a1.Credit_.Tiers_.length : Int)))))) (decide (20 < (a1.Credit_.Tiers_.length : Int))) false hb5, tw 29 (E_len [.row 19 [(ApiProduct.v a1)]] a1.Debit_.Tiers_ ApiTier.v), twb 31 [.row 19 [(ApiProduct.v a1)]] (.pick (.c (.bool false)) (.c (.bool true)) (.c (.bool (decide (20 < (a1.Debit_.Tiers_.length : Int)))))) (decide (20 < (a1.Debit_.Tiers_.length : Int))) false hb6, tw 35 (E_len [.row 19 [(ApiProduct.v a1)]] a1.Fees_ ApiFee.v), twb 37 [.row 19 [(ApiProduct.v a1)]] (.pick (.c (.bool false)) (.c (.bool true)) (.c (.bool (decide (10 < (a1.Fees_.length : Int)))))) (decide (10 < (a1.Fees_.length : Int))) false hb7, tw 41 (E_len [.row 19 [(ApiProduct.v a1)]] a1.Rules_ ApiRule.v)] ?_
              refine go_if h (fun hb8 h => ?_) (fun hb8 h => ?_)
              · rw [hb8]
                refine gx mo [.pc p17_3, .pc p17_52] 104 [(2, (.bool true))] [.row 19 [(ApiProduct.v a1)]] 5 [] ?_
                obtain rfl := Option.some.inj h
                exact gf (.bool true) (.same rfl)
              · rw [hb8]
                refine gx mo [.pc p17_25, .blk 0, .pc p17_51] 104 [(1, (.ref 0 0 0)), (3, (i64 0))] [.row 19 [(ApiProduct.v a1)]] 8 [] ?_
                refine go_cut (X := Unit) (fun x => (K_r16_Great_1 N a1 (.brk x)).bind some = some r) ([.pc p17_51]) (fun x => (mk 104 [(1, (.ref 0 0 0))])) (fun x => [.row 19 [(ApiProduct.v a1)]]) ?_ fun kont1_0 => ?_
                · rintro _ h
                  rw [K_r16_Great_1] at h
                  refine gx mo [.pc p17_45, .blk 2, .pc p17_50] 104 [(1, (.ref 0 0 0)), (4, (i64 0))] [.row 19 [(ApiProduct.v a1)]] 6 [] ?_
                  refine go_cut (X := Unit) (fun x => (K_r16_Great_2 N (.brk x)).bind some = some r) ([.pc p17_50]) (fun x => (mk 104 [])) (fun x => []) ?_ fun kont2_0 => ?_
                  · rintro _ h
                    rw [K_r16_Great_2] at h
                    refine gx mo [.pc p17_49] 104 [(2, (.bool false))] [] 4 [] ?_
                    obtain rfl := Option.some.inj h
                    exact gf (.bool false) (.same rfl)
                  refine go_loop' (fun m t s => ∃ (v2_0 : Int), (L_r16_Great_2 N a1 m v2_0).bind (fun q => (K_r16_Great_2 N q).bind some) = some r ∧ t = (mk 104 [(1, (.ref 0 0 0)), (4, (i64 v2_0))]) ∧ s = [.row 19 [(ApiProduct.v a1)]]) N ⟨0, go_assoc h, rfl, rfl⟩ ?_
                  intro m2 J2 hJ2 t s
                  rintro ⟨v2_0, h, rfl, rfl⟩
                  cases m2 with
                  | zero => exact absurd h (by simp [L_r16_Great_2])
                  | succ m2 =>
                    rw [L_r16_Great_2] at h
                    refine gx mo [.pc p17_32, .pc p17_43, .jp J2, .blk 2, .pc p17_50] 104 [(1, (.ref 0 0 0)), (4, (i64 v2_0)), (84, (.bool (decide (v2_0 < (a1.Rules_.length : Int)))))] [.row 19 [(ApiProduct.v a1)]] 9 [tw 3 (E_len [.row 19 [(ApiProduct.v a1)]] a1.Rules_ ApiRule.v)] ?_
                    refine go_if h (fun hb24 h => ?_) (fun hb24 h => ?_)
                    · rw [hb24]
                      refine go_bind h (fun y25 hy25 h => ?_)
                      refine go_if h (fun hb26 h => ?_) (fun hb26 h => ?_)
                      · refine gx mo [.pc p17_36, .blk 3, .pc p17_42, .jp J2, .blk 2, .pc p17_50] 104 [(2, (.bool true))] [.row 19 [(ApiProduct.v a1)]] 29 [tw 4 (E_ia [.row 19 [(ApiProduct.v a1)]] ApiRule.v .i64 hy25), twb 8 [.row 19 [(ApiProduct.v a1)]] (.bin .gtr .other true (.c (i64 (y25.Name_.length : Int))) (.c (i64 100))) (decide (100 < (y25.Name_.length : Int))) true hb26] ?_
                        obtain rfl := Option.some.inj h
                        exact gf (.bool true) (.same rfl)
                      · refine go_bind h (fun y27 hy27 h => ?_)
                        refine go_bind h (fun r28 hr28 h => ?_)
                        refine gx mo [.pc p17_39, .blk 3, .pc p17_42, .jp J2, .blk 2, .pc p17_50] 104 [(1, (.ref 0 0 0)), (4, (i64 v2_0)), (103, (.bool r28))] [.row 19 [(ApiProduct.v a1)]] 24 [tw 4 (E_ia [.row 19 [(ApiProduct.v a1)]] ApiRule.v .i64 hy25), twb 8 [.row 19 [(ApiProduct.v a1)]] (.bin .gtr .other true (.c (i64 (y25.Name_.length : Int))) (.c (i64 100))) (decide (100 < (y25.Name_.length : Int))) false hb26, tw 13 (E_ia [.row 19 [(ApiProduct.v a1)]] ApiRule.v .i64 hy27), tc 16 [.row 19 [(ApiProduct.v a1)]] (P_r10_Great hr28) (fg (fs fl_nil))] ?_
                        refine go_if h (fun hb29 h => ?_) (fun hb29 h => ?_)
                        · rw [hb29]
                          refine gx mo [.pc p17_36, .blk 3, .pc p17_42, .jp J2, .blk 2, .pc p17_50] 104 [(2, (.bool true))] [.row 19 [(ApiProduct.v a1)]] 5 [] ?_
                          obtain rfl := Option.some.inj h
                          exact gf (.bool true) (.same rfl)
                        · rw [hb29]
                          refine gx mo [.jp J2, .blk 2, .pc p17_50] 104 [(1, (.ref 0 0 0)), (4, (i64 (IntKind.wrap .i64 (v2_0 + 1))))] [.row 19 [(ApiProduct.v a1)]] 8 [] ?_
                          exact go_back rfl (hJ2 m2 _ _ (Nat.lt_succ_self m2) ⟨IntKind.wrap .i64 (v2_0 + 1), h, rfl, rfl⟩)
                    · rw [hb24]
                      refine gx mo [.pc p17_50] 104 [] [.row 19 [(ApiProduct.v a1)]] 2 [] ?_
                      refine go_pick [] [] [] (t' := (mk 104 [])) (s' := []) (by kernel_rfl) trivial rfl ?_
                      exact kont2_0 () h
                refine go_loop' (fun m t s => ∃ (v1_0 : Int), (L_r16_Great_1 N a1 m v1_0).bind (fun q => (K_r16_Great_1 N a1 q).bind some) = some r ∧ t = (mk 104 [(1, (.ref 0 0 0)), (3, (i64 v1_0))]) ∧ s = [.row 19 [(ApiProduct.v a1)]]) N ⟨0, go_assoc h, rfl, rfl⟩ ?_
                intro m1 J1 hJ1 t s
                rintro ⟨v1_0, h, rfl, rfl⟩
                cases m1 with
                | zero => exact absurd h (by simp [L_r16_Great_1])
                | succ m1 =>
                  rw [L_r16_Great_1] at h
                  refine gx mo [.pc p17_12, .pc p17_23, .jp J1, .blk 0, .pc p17_51] 104 [(1, (.ref 0 0 0)), (3, (i64 v1_0)), (51, (.bool (decide (v1_0 < (a1.Fees_.length : Int)))))] [.row 19 [(ApiProduct.v a1)]] 9 [tw 3 (E_len [.row 19 [(ApiProduct.v a1)]] a1.Fees_ ApiFee.v)] ?_
                  refine go_if h (fun hb30 h => ?_) (fun hb30 h => ?_)
                  · rw [hb30]
                    refine go_bind h (fun y31 hy31 h => ?_)
                    refine go_if h (fun hb32 h => ?_) (fun hb32 h => ?_)
                    · refine gx mo [.pc p17_16, .blk 1, .pc p17_22, .jp J1, .blk 0, .pc p17_51] 104 [(2, (.bool true))] [.row 19 [(ApiProduct.v a1)]] 38 [tw 4 (E_ia [.row 19 [(ApiProduct.v a1)]] ApiFee.v .i64 hy31), twb 8 [.row 19 [(ApiProduct.v a1)]] (.bin .gtr .other true (.c (i64 (y31.Name_.length : Int))) (.c (i64 100))) (decide (100 < (y31.Name_.length : Int))) true hb32] ?_
                      obtain rfl := Option.some.inj h
                      exact gf (.bool true) (.same rfl)
                    · refine go_bind h (fun y33 hy33 h => ?_)
                      refine go_bind h (fun r34 hr34 h => ?_)
                      refine go_if h (fun hb35 h => ?_) (fun hb35 h => ?_)
                      · refine gx mo [.pc p17_16, .blk 1, .pc p17_22, .jp J1, .blk 0, .pc p17_51] 104 [(2, (.bool true))] [.row 19 [(ApiProduct.v a1)]] 38 [tw 4 (E_ia [.row 19 [(ApiProduct.v a1)]] ApiFee.v .i64 hy31), twb 8 [.row 19 [(ApiProduct.v a1)]] (.bin .gtr .other true (.c (i64 (y31.Name_.length : Int))) (.c (i64 100))) (decide (100 < (y31.Name_.length : Int))) false hb32, tw 13 (E_ia [.row 19 [(ApiProduct.v a1)]] ApiFee.v .i64 hy33), tc 16 [.row 19 [(ApiProduct.v a1)]] (P_r10_Great hr34) (fg (fs fl_nil)), twb 17 [.row 19 [(ApiProduct.v a1)]] (.pick (.c (.bool false)) (.c (.bool true)) (.c (.bool r34))) (r34) true hb35] ?_
                        obtain rfl := Option.some.inj h
                        exact gf (.bool true) (.same rfl)
                      · refine go_bind h (fun y36 hy36 h => ?_)
                        refine go_bind h (fun r37 hr37 h => ?_)
                        refine gx mo [.pc p17_19, .blk 1, .pc p17_22, .jp J1, .blk 0, .pc p17_51] 104 [(1, (.ref 0 0 0)), (3, (i64 v1_0)), (79, (.bool r37))] [.row 19 [(ApiProduct.v a1)]] 33 [tw 4 (E_ia [.row 19 [(ApiProduct.v a1)]] ApiFee.v .i64 hy31), twb 8 [.row 19 [(ApiProduct.v a1)]] (.bin .gtr .other true (.c (i64 (y31.Name_.length : Int))) (.c (i64 100))) (decide (100 < (y31.Name_.length : Int))) false hb32, tw 13 (E_ia [.row 19 [(ApiProduct.v a1)]] ApiFee.v .i64 hy33), tc 16 [.row 19 [(ApiProduct.v a1)]] (P_r10_Great hr34) (fg (fs fl_nil)), twb 17 [.row 19 [(ApiProduct.v a1)]] (.pick (.c (.bool false)) (.c (.bool true)) (.c (.bool r34))) (r34) false hb35, tw 22 (E_ia [.row 19 [(ApiProduct.v a1)]] ApiFee.v .i64 hy36), tc 25 [.row 19 [(ApiProduct.v a1)]] (P_r10_Great hr37) (fg (fs fl_nil))] ?_
                        refine go_if h (fun hb38 h => ?_) (fun hb38 h => ?_)
                        · rw [hb38]
                          refine gx mo [.pc p17_16, .blk 1, .pc p17_22, .jp J1, .blk 0, .pc p17_51] 104 [(2, (.bool true))] [.row 19 [(ApiProduct.v a1)]] 5 [] ?_
                          obtain rfl := Option.some.inj h
                          exact gf (.bool true) (.same rfl)
                        · rw [hb38]
                          refine gx mo [.jp J1, .blk 0, .pc p17_51] 104 [(1, (.ref 0 0 0)), (3, (i64 (IntKind.wrap .i64 (v1_0 + 1))))] [.row 19 [(ApiProduct.v a1)]] 8 [] ?_
                          exact go_back rfl (hJ1 m1 _ _ (Nat.lt_succ_self m1) ⟨IntKind.wrap .i64 (v1_0 + 1), h, rfl, rfl⟩)
                  · rw [hb30]
                    refine gx mo [.pc p17_51] 104 [(1, (.ref 0 0 0))] [.row 19 [(ApiProduct.v a1)]] 2 [] ?_
                    exact kont1_0 () h
/-! corebank/corebankref19.Great -/
def p18_29 : PC := .ret
def p18_30 : PC := (.seq (.reg (oo 2 (.mv (.c (.bool false))) :: [])) p18_29)
def p18_22 : PC := (.reg (om 25 3 :: oo 26 (.bin .add .other true (.t 25) (.c (.int .i64 1))) :: om 3 26 :: []))
def p18_16 : PC := .ret
def p18_19 : PC := (.cond (.t 34) (.seq (.reg (oo 2 (.mv (.c (.bool true))) :: [])) p18_16) .skip)
def p18_23 : PC := (.seq (.block 1 (.seq (.reg (oo 27 (.fa 8 (.t 1)) :: oo 28 (.ld1 (.t 27)) :: om 29 3 :: oo 30 (.ia 3 (.t 28) (.t 29)) :: oo 31 (.fa 2 (.t 30)) :: oo 32 (.ld1 (.t 31)) :: oo 33 (.len .str (.t 32)) :: oo 34 (.bin .gtr .other true (.t 33) (.c (.int .i64 100))) :: [])) p18_19)) p18_22)
def p18_12 : PC := (.cond (.t 24) .skip (.exit 0))
def p18_25 : PC := (.loop (.seq (.seq (.reg (om 20 3 :: oo 21 (.fa 8 (.t 1)) :: oo 22 (.ld1 (.t 21)) :: oo 23 (.len .slice (.t 22)) :: oo 24 (.bin .lss .other false (.t 20) (.t 23)) :: [])) p18_12) p18_23))
def p18_31 : PC := (.seq (.seq (.reg (oo 3 (.mv (.c (.int .i64 0))) :: [])) (.block 0 p18_25)) p18_30)
def p18_3 : PC := .ret
def p18_6 : PC := (.cond (.t 19) (.seq (.reg (oo 2 (.mv (.c (.bool true))) :: [])) p18_3) .skip)
def p18_33 : PC := (.seq (.reg (oo 1 (.box (.t 0)) :: oo 2 (.mv (.c (.bool false))) :: [])) (.seq (.seq (.reg (oo 4 (.fa 8 (.t 1)) :: oo 5 (.ld1 (.t 4)) :: oo 6 (.len .slice (.t 5)) :: oo 7 (.bin .gtr .other true (.t 6) (.c (.int .i64 30))) :: om 8 7 :: ⟨some 9, .op (.fa 6 (.t 1)), some (8, false)⟩ :: ⟨some 10, .op (.ld1 (.t 9)), some (8, false)⟩ :: ⟨some 11, .op (.len .str (.t 10)), some (8, false)⟩ :: ⟨some 12, .op (.bin .gtr .other true (.t 11) (.c (.int .i64 1000))), some (8, false)⟩ :: oo 13 (.pick (.t 8) (.c (.bool true)) (.t 12)) :: om 14 13 :: ⟨some 15, .op (.fa 7 (.t 1)), some (14, false)⟩ :: ⟨some 16, .op (.ld1 (.t 15)), some (14, false)⟩ :: ⟨some 17, .op (.len .str (.t 16)), some (14, false)⟩ :: ⟨some 18, .op (.bin .gtr .other true (.t 17) (.c (.int .i64 1000))), some (14, false)⟩ :: oo 19 (.pick (.t 14) (.c (.bool true)) (.t 18)) :: [])) p18_6) p18_31))
theorem fn18 : FnOk Tryz.prog 18 p18_33 35 [.t 2] := ⟨false, Tryz.f18, _, Tryz.func18, by decide, rfl, by kernel_rfl, rfl, by kernel_rfl⟩
def L_r19_Great_1 (N : Nat) (a1 : ApiEntry) : Nat → Int → Option (Br (Bool) (Unit))
  | 0, _ => none
  | m1 + 1, v1_0 =>
    bif decide (v1_0 < (a1.Legs_.length : Int)) then
    ((getI a1.Legs_ v1_0).bind fun y9 =>
    bif decide (100 < (y9.Currency_.length : Int)) then
    (some (.ret true))
    else
    ((L_r19_Great_1 N a1 m1) (IntKind.wrap .i64 (v1_0 + 1))))
    else
    (some (.brk ()))
def K_r19_Great_1 (N : Nat)  : Br (Bool) (Unit) → Option (Bool)
  | .ret r => some r
  | .brk _ =>
    some false
def F_r19_Great  (N : Nat) (a1 : ApiEntry) : Option (Bool) :=
      bif decide (30 < (a1.Legs_.length : Int)) then
    (some true)
    else
    (bif decide (1000 < (a1.Key_.length : Int)) then
    (some true)
    else
    (bif decide (1000 < (a1.Text_.length : Int)) then
    (some true)
    else
    ((L_r19_Great_1 N a1 N 0).bind (K_r19_Great_1 N))))
theorem P_r19_Great  {N : Nat} {a1 : ApiEntry} {r : Bool} (h : F_r19_Great N a1 = some r) : Pure Tryz.prog (Gl.at 0) 18 [(ApiEntry.v a1)] (.bool r) := by
  refine pure_run fn18 ?_
  rw [F_r19_Great] at h
  replace h := bs h
  change GG [.t 2] _ [.pc p18_33] (mk 35 [(0, (ApiEntry.v a1))]) []
  refine go_if h (fun hb2 h => ?_) (fun hb2 h => ?_)
  · refine gx mo [.pc p18_3, .pc p18_31] 35 [(2, (.bool true))] [.row 10 [(ApiEntry.v a1)]] 30 [tw 4 (E_len [.row 10 [(ApiEntry.v a1)]] a1.Legs_ ApiLeg.v), twb 5 [.row 10 [(ApiEntry.v a1)]] (.bin .gtr .other true (.c (i64 (a1.Legs_.length : Int))) (.c (i64 30))) (decide (30 < (a1.Legs_.length : Int))) true hb2] ?_
    obtain rfl := Option.some.inj h
    exact gf (.bool true) (.same rfl)
  · refine go_if h (fun hb3 h => ?_) (fun hb3 h => ?_)
    · refine gx mo [.pc p18_3, .pc p18_31] 35 [(2, (.bool true))] [.row 10 [(ApiEntry.v a1)]] 30 [tw 4 (E_len [.row 10 [(ApiEntry.v a1)]] a1.Legs_ ApiLeg.v), twb 5 [.row 10 [(ApiEntry.v a1)]] (.bin .gtr .other true (.c (i64 (a1.Legs_.length : Int))) (.c (i64 30))) (decide (30 < (a1.Legs_.length : Int))) false hb2, twb 11 [.row 10 [(ApiEntry.v a1)]] (.pick (.c (.bool false)) (.c (.bool true)) (.c (.bool (decide (1000 < (a1.Key_.length : Int)))))) (decide (1000 < (a1.Key_.length : Int))) true hb3] ?_
      obtain rfl := Option.some.inj h
      exact gf (.bool true) (.same rfl)
    · refine gx mo [.pc p18_6, .pc p18_31] 35 [(1, (.ref 0 0 0)), (19, (.bool (decide (1000 < (a1.Text_.length : Int)))))] [.row 10 [(ApiEntry.v a1)]] 25 [tw 4 (E_len [.row 10 [(ApiEntry.v a1)]] a1.Legs_ ApiLeg.v), twb 5 [.row 10 [(ApiEntry.v a1)]] (.bin .gtr .other true (.c (i64 (a1.Legs_.length : Int))) (.c (i64 30))) (decide (30 < (a1.Legs_.length : Int))) false hb2, twb 11 [.row 10 [(ApiEntry.v a1)]] (.pick (.c (.bool false)) (.c (.bool true)) (.c (.bool (decide (1000 < (a1.Key_.length : Int)))))) (decide (1000 < (a1.Key_.length : Int))) false hb3] ?_
      refine go_if h (fun hb4 h => ?_) (fun hb4 h => ?_)
      · rw [hb4]
        refine gx mo [.pc p18_3, .pc p18_31] 35 [(2, (.bool true))] [.row 10 [(ApiEntry.v a1)]] 5 [] ?_
        obtain rfl := Option.some.inj h
        exact gf (.bool true) (.same rfl)
      · rw [hb4]
        refine gx mo [.pc p18_25, .blk 0, .pc p18_30] 35 [(1, (.ref 0 0 0)), (3, (i64 0))] [.row 10 [(ApiEntry.v a1)]] 8 [] ?_
        refine go_cut (X := Unit) (fun x => (K_r19_Great_1 N (.brk x)).bind some = some r) ([.pc p18_30]) (fun x => (mk 35 [])) (fun x => []) ?_ fun kont1_0 => ?_
        · rintro _ h
          rw [K_r19_Great_1] at h
          refine gx mo [.pc p18_29] 35 [(2, (.bool false))] [] 4 [] ?_
          obtain rfl := Option.some.inj h
          exact gf (.bool false) (.same rfl)
        refine go_loop' (fun m t s => ∃ (v1_0 : Int), (L_r19_Great_1 N a1 m v1_0).bind (fun q => (K_r19_Great_1 N q).bind some) = some r ∧ t = (mk 35 [(1, (.ref 0 0 0)), (3, (i64 v1_0))]) ∧ s = [.row 10 [(ApiEntry.v a1)]]) N ⟨0, go_assoc h, rfl, rfl⟩ ?_
        intro m1 J1 hJ1 t s
        rintro ⟨v1_0, h, rfl, rfl⟩
        cases m1 with
        | zero => exact absurd h (by simp [L_r19_Great_1])
        | succ m1 =>
          rw [L_r19_Great_1] at h
          refine gx mo [.pc p18_12, .pc p18_23, .jp J1, .blk 0, .pc p18_30] 35 [(1, (.ref 0 0 0)), (3, (i64 v1_0)), (24, (.bool (decide (v1_0 < (a1.Legs_.length : Int)))))] [.row 10 [(ApiEntry.v a1)]] 9 [tw 3 (E_len [.row 10 [(ApiEntry.v a1)]] a1.Legs_ ApiLeg.v)] ?_
          refine go_if h (fun hb8 h => ?_) (fun hb8 h => ?_)
          · rw [hb8]
            refine go_bind h (fun y9 hy9 h => ?_)
            refine gx mo [.pc p18_19, .blk 1, .pc p18_22, .jp J1, .blk 0, .pc p18_30] 35 [(1, (.ref 0 0 0)), (3, (i64 v1_0)), (34, (.bool (decide (100 < (y9.Currency_.length : Int)))))] [.row 10 [(ApiEntry.v a1)]] 15 [tw 4 (E_ia [.row 10 [(ApiEntry.v a1)]] ApiLeg.v .i64 hy9)] ?_
            refine go_if h (fun hb10 h => ?_) (fun hb10 h => ?_)
            · rw [hb10]
              refine gx mo [.pc p18_16, .blk 1, .pc p18_22, .jp J1, .blk 0, .pc p18_30] 35 [(2, (.bool true))] [.row 10 [(ApiEntry.v a1)]] 5 [] ?_
              obtain rfl := Option.some.inj h
              exact gf (.bool true) (.same rfl)
            · rw [hb10]
              refine gx mo [.jp J1, .blk 0, .pc p18_30] 35 [(1, (.ref 0 0 0)), (3, (i64 (IntKind.wrap .i64 (v1_0 + 1))))] [.row 10 [(ApiEntry.v a1)]] 8 [] ?_
              exact go_back rfl (hJ1 m1 _ _ (Nat.lt_succ_self m1) ⟨IntKind.wrap .i64 (v1_0 + 1), h, rfl, rfl⟩)
          · rw [hb8]
            refine gx mo [.pc p18_30] 35 [] [.row 10 [(ApiEntry.v a1)]] 2 [] ?_
            refine go_pick [] [] [] (t' := (mk 35 [])) (s' := []) (by kernel_rfl) trivial rfl ?_
            exact kont1_0 () h
/-! corebank/corebankref25.Great -/
def p5_69 : PC := .ret
def p5_70 : PC := (.seq (.reg (oo 2 (.mv (.c (.bool false))) :: [])) p5_69)
def p5_62 : PC := (.reg (om 82 5 :: oo 83 (.bin .add .other true (.t 82) (.c (.int .i64 1))) :: om 5 83 :: []))
def p5_56 : PC := .ret
def p5_59 : PC := (.cond (.t 101) (.seq (.reg (oo 2 (.mv (.c (.bool true))) :: [])) p5_56) .skip)
def p5_63 : PC := (.seq (.block 5 (.seq (.reg (oo 84 (.fa 1 (.t 1)) :: oo 85 (.ld1 (.t 84)) :: om 86 5 :: oo 87 (.ia 3 (.t 85) (.t 86)) :: oo 88 (.fa 2 (.t 87)) :: oo 89 (.ld1 (.t 88)) :: oo 90 (.len .slice (.t 89)) :: oo 91 (.bin .gtr .other true (.t 90) (.c (.int .i64 400))) :: om 92 91 :: ⟨some 93, .op (.fa 1 (.t 1)), some (92, false)⟩ :: ⟨some 94, .op (.ld1 (.t 93)), some (92, false)⟩ :: ⟨some 95, .op (.mv (.t 5)), some (92, false)⟩ :: ⟨some 96, .op (.ia 3 (.t 94) (.t 95)), some (92, false)⟩ :: ⟨some 97, .op (.fa 1 (.t 96)), some (92, false)⟩ :: ⟨some 98, .op (.ld1 (.t 97)), some (92, false)⟩ :: ⟨some 99, .op (.len .slice (.t 98)), some (92, false)⟩ :: ⟨some 100, .op (.bin .gtr .other true (.t 99) (.c (.int .i64 20))), some (92, false)⟩ :: oo 101 (.pick (.t 92) (.c (.bool true)) (.t 100)) :: [])) p5_59)) p5_62)
def p5_52 : PC := (.cond (.t 81) .skip (.exit 4))
def p5_65 : PC := (.loop (.seq (.seq (.reg (om 77 5 :: oo 78 (.fa 1 (.t 1)) :: oo 79 (.ld1 (.t 78)) :: oo 80 (.len .slice (.t 79)) :: oo 81 (.bin .lss .other false (.t 77) (.t 80)) :: [])) p5_52) p5_63))
def p5_71 : PC := (.seq (.seq (.reg (oo 5 (.mv (.c (.int .i64 0))) :: [])) (.block 4 p5_65)) p5_70)
def p5_42 : PC := (.reg (om 69 4 :: oo 70 (.bin .add .other true (.t 69) (.c (.int .i64 1))) :: om 4 70 :: []))
def p5_36 : PC := .ret
def p5_39 : PC := (.cond (.t 76) (.seq (.reg (oo 2 (.mv (.c (.bool true))) :: [])) p5_36) .skip)
def p5_43 : PC := (.seq (.block 3 (.seq (.reg (oo 71 (.fa 19 (.t 1)) :: oo 72 (.ld1 (.t 71)) :: om 73 4 :: oo 74 (.ia 10 (.t 72) (.t 73)) :: oo 75 (.ldA 10 (.t 74)) :: ⟨some 76, .call 18 [.t 75], none⟩ :: [])) p5_39)) p5_42)
def p5_32 : PC := (.cond (.t 68) .skip (.exit 2))
def p5_45 : PC := (.loop (.seq (.seq (.reg (om 64 4 :: oo 65 (.fa 19 (.t 1)) :: oo 66 (.ld1 (.t 65)) :: oo 67 (.len .slice (.t 66)) :: oo 68 (.bin .lss .other false (.t 64) (.t 67)) :: [])) p5_32) p5_43))
def p5_72 : PC := (.seq (.seq (.reg (oo 4 (.mv (.c (.int .i64 0))) :: [])) (.block 2 p5_45)) p5_71)
def p5_22 : PC := (.reg (om 56 3 :: oo 57 (.bin .add .other true (.t 56) (.c (.int .i64 1))) :: om 3 57 :: []))
def p5_16 : PC := .ret
def p5_19 : PC := (.cond (.t 63) (.seq (.reg (oo 2 (.mv (.c (.bool true))) :: [])) p5_16) .skip)
def p5_23 : PC := (.seq (.block 1 (.seq (.reg (oo 58 (.fa 17 (.t 1)) :: oo 59 (.ld1 (.t 58)) :: om 60 3 :: oo 61 (.ia 19 (.t 59) (.t 60)) :: oo 62 (.ldA 19 (.t 61)) :: ⟨some 63, .call 17 [.t 62], none⟩ :: [])) p5_19)) p5_22)
def p5_12 : PC := (.cond (.t 55) .skip (.exit 0))
def p5_25 : PC := (.loop (.seq (.seq (.reg (om 51 3 :: oo 52 (.fa 17 (.t 1)) :: oo 53 (.ld1 (.t 52)) :: oo 54 (.len .slice (.t 53)) :: oo 55 (.bin .lss .other false (.t 51) (.t 54)) :: [])) p5_12) p5_23))
def p5_73 : PC := (.seq (.seq (.reg (oo 3 (.mv (.c (.int .i64 0))) :: [])) (.block 0 p5_25)) p5_72)
def p5_3 : PC := .ret
def p5_6 : PC := (.cond (.t 50) (.seq (.reg (oo 2 (.mv (.c (.bool true))) :: [])) p5_3) .skip)
def p5_75 : PC := (.seq (.reg (oo 1 (.box (.t 0)) :: oo 2 (.mv (.c (.bool false))) :: [])) (.seq (.seq (.reg (oo 6 (.fa 0 (.t 1)) :: oo 7 (.ld1 (.t 6)) :: oo 8 (.len .slice (.t 7)) :: oo 9 (.bin .gtr .other true (.t 8) (.c (.int .i64 20))) :: om 10 9 :: ⟨some 11, .op (.fa 1 (.t 1)), some (10, false)⟩ :: ⟨some 12, .op (.ld1 (.t 11)), some (10, false)⟩ :: ⟨some 13, .op (.len .slice (.t 12)), some (10, false)⟩ :: ⟨some 14, .op (.bin .gtr .other true (.t 13) (.c (.int .i64 10))), some (10, false)⟩ :: oo 15 (.pick (.t 10) (.c (.bool true)) (.t 14)) :: om 16 15 :: ⟨some 17, .op (.fa 2 (.t 1)), some (16, false)⟩ :: ⟨some 18, .op (.ld1 (.t 17)), some (16, false)⟩ :: ⟨some 19, .op (.len .slice (.t 18)), some (16, false)⟩ :: ⟨some 20, .op (.bin .gtr .other true (.t 19) (.c (.int .i64 60))), some (16, false)⟩ :: oo 21 (.pick (.t 16) (.c (.bool true)) (.t 20)) :: om 22 21 :: ⟨some 23, .op (.fa 17 (.t 1)), some (22, false)⟩ :: ⟨some 24, .op (.ld1 (.t 23)), some (22, false)⟩ :: ⟨some 25, .op (.len .slice (.t 24)), some (22, false)⟩ :: ⟨some 26, .op (.bin .gtr .other true (.t 25) (.c (.int .i64 20))), some (22, false)⟩ :: oo 27 (.pick (.t 22) (.c (.bool true)) (.t 26)) :: om 28 27 :: ⟨some 29, .op (.fa 18 (.t 1)), some (28, false)⟩ :: ⟨some 30, .op (.ld1 (.t 29)), some (28, false)⟩ :: ⟨some 31, .op (.len .slice (.t 30)), some (28, false)⟩ :: ⟨some 32, .op (.bin .gtr .other true (.t 31) (.c (.int .i64 40))), some (28, false)⟩ :: oo 33 (.pick (.t 28) (.c (.bool true)) (.t 32)) :: om 34 33 :: ⟨some 35, .op (.fa 19 (.t 1)), some (34, false)⟩ :: ⟨some 36, .op (.ld1 (.t 35)), some (34, false)⟩ :: ⟨some 37, .op (.len .slice (.t 36)), some (34, false)⟩ :: ⟨some 38, .op (.bin .gtr .other true (.t 37) (.c (.int .i64 150))), some (34, false)⟩ :: oo 39 (.pick (.t 34) (.c (.bool true)) (.t 38)) :: om 40 39 :: ⟨some 41, .op (.fa 20 (.t 1)), some (40, false)⟩ :: ⟨some 42, .op (.ld1 (.t 41)), some (40, false)⟩ :: ⟨some 43, .call 16 [.t 42], some (40, false)⟩ :: oo 44 (.pick (.t 40) (.c (.bool true)) (.t 43)) :: om 45 44 :: ⟨some 46, .op (.fa 21 (.t 1)), some (45, false)⟩ :: ⟨some 47, .op (.ld1 (.t 46)), some (45, false)⟩ :: ⟨some 48, .op (.len .slice (.t 47)), some (45, false)⟩ :: ⟨some 49, .op (.bin .gtr .other true (.t 48) (.c (.int .i64 100))), some (45, false)⟩ :: oo 50 (.pick (.t 45) (.c (.bool true)) (.t 49)) :: [])) p5_6) p5_73))
theorem fn5 : FnOk Tryz.prog 5 p5_75 102 [.t 2] := ⟨false, Tryz.f5, _, Tryz.func5, by decide, rfl, by kernel_rfl, rfl, by kernel_rfl⟩
def L_r25_Great_3 (N : Nat) (a1 : ApiBooks) : Nat → Int → Option (Br (Bool) (Unit))
  | 0, _ => none
  | m3 + 1, v3_0 =>
    bif decide (v3_0 < (a1.Calendars_.length : Int)) then
    ((getI a1.Calendars_ v3_0).bind fun y25 =>
    bif decide (400 < (y25.Holidays_.length : Int)) then
    (some (.ret true))
    else
    ((getI a1.Calendars_ v3_0).bind fun y27 =>
    bif decide (20 < (y27.Weekend_.length : Int)) then
    (some (.ret true))
    else
    ((L_r25_Great_3 N a1 m3) (IntKind.wrap .i64 (v3_0 + 1)))))
    else
    (some (.brk ()))
def K_r25_Great_3 (N : Nat)  : Br (Bool) (Unit) → Option (Bool)
  | .ret r => some r
  | .brk _ =>
    some false
def L_r25_Great_2 (N : Nat) (a1 : ApiBooks) : Nat → Int → Option (Br (Bool) (Unit))
  | 0, _ => none
  | m2 + 1, v2_0 =>
    bif decide (v2_0 < (a1.Journal_.length : Int)) then
    ((getI a1.Journal_ v2_0).bind fun y30 =>
    (F_r19_Great N y30).bind fun r31 =>
    bif r31 then
    (some (.ret true))
    else
    ((L_r25_Great_2 N a1 m2) (IntKind.wrap .i64 (v2_0 + 1))))
    else
    (some (.brk ()))
def K_r25_Great_2 (N : Nat) (a1 : ApiBooks) : Br (Bool) (Unit) → Option (Bool)
  | .ret r => some r
  | .brk _ =>
    (L_r25_Great_3 N a1 N 0).bind (K_r25_Great_3 N)
def L_r25_Great_1 (N : Nat) (a1 : ApiBooks) : Nat → Int → Option (Br (Bool) (Unit))
  | 0, _ => none
  | m1 + 1, v1_0 =>
    bif decide (v1_0 < (a1.Products_.length : Int)) then
    ((getI a1.Products_ v1_0).bind fun y34 =>
    (F_r16_Great N y34).bind fun r35 =>
    bif r35 then
    (some (.ret true))
    else
    ((L_r25_Great_1 N a1 m1) (IntKind.wrap .i64 (v1_0 + 1))))
    else
    (some (.brk ()))
def K_r25_Great_1 (N : Nat) (a1 : ApiBooks) : Br (Bool) (Unit) → Option (Bool)
  | .ret r => some r
  | .brk _ =>
    (L_r25_Great_2 N a1 N 0).bind (K_r25_Great_2 N a1)
def F_r25_Great  (N : Nat) (a1 : ApiBooks) : Option (Bool) :=
      bif decide (20 < (a1.Currencies_.length : Int)) then
    (some true)
    else
    (bif decide (10 < (a1.Calendars_.length : Int)) then
    (some true)
    else
    (bif decide (60 < (a1.Chart_.length : Int)) then
    (some true)
    else
    (bif decide (20 < (a1.Products_.length : Int)) then
    (some true)
    else
    (bif decide (40 < (a1.Accounts_.length : Int)) then
    (some true)
    else
    (bif decide (150 < (a1.Journal_.length : Int)) then
    (some true)
    else
    ((F_r22_Great N a1.Holds_).bind fun r8 =>
    bif r8 then
    (some true)
    else
    (bif decide (100 < (a1.Blocks_.length : Int)) then
    (some true)
    else
    ((L_r25_Great_1 N a1 N 0).bind (K_r25_Great_1 N a1)))))))))
theorem P_r25_Great  {N : Nat} {a1 : ApiBooks} {r : Bool} (h : F_r25_Great N a1 = some r) : Pure Tryz.prog (Gl.at 0) 5 [(ApiBooks.v a1)] (.bool r) := by
  refine pure_run fn5 ?_
  rw [F_r25_Great] at h
  replace h := bs h
  change GG [.t 2] _ [.pc p5_75] (mk 102 [(0, (ApiBooks.v a1))]) []
  refine go_if h (fun hb2 h => ?_) (fun hb2 h => ?_)
  · refine gx mo [.pc p5_3, .pc p5_73] 102 [(2, (.bool true))] [.row 22 [(ApiBooks.v a1)]] 59 [tw 4 (E_len [.row 22 [(ApiBooks.v a1)]] a1.Currencies_ ApiCurrency.v), twb 5 [.row 22 [(ApiBooks.v a1)]] (.bin .gtr .other true (.c (i64 (a1.Currencies_.length : Int))) (.c (i64 20))) (decide (20 < (a1.Currencies_.length : Int))) true hb2] ?_
    obtain rfl := Option.some.inj h
    exact gf (.bool true) (.same rfl)
  · refine go_if h (fun hb3 h => ?_) (fun hb3 h => ?_)
    · refine gx mo [.pc p5_3, .pc p5_73] 102 [(2, (.bool true))] [.row 22 [(ApiBooks.v a1)]] 59 [tw 4 (E_len [.row 22 [(ApiBooks.v a1)]] a1.Currencies_ ApiCurrency.v), twb 5 [.row 22 [(ApiBooks.v a1)]] (.bin .gtr .other true (.c (i64 (a1.Currencies_.length : Int))) (.c (i64 20))) (decide (20 < (a1.Currencies_.length : Int))) false hb2, tw 9 (E_len [.row 22 [(ApiBooks.v a1)]] a1.Calendars_ ApiCalendar.v), twb 11 [.row 22 [(ApiBooks.v a1)]] (.pick (.c (.bool false)) (.c (.bool true)) (.c (.bool (decide (10 < (a1.Calendars_.length : Int)))))) (decide (10 < (a1.Calendars_.length : Int))) true hb3] ?_
      obtain rfl := Option.some.inj h
      exact gf (.bool true) (.same rfl)
    · refine go_if h (fun hb4 h => ?_) (fun hb4 h => ?_)
      · refine gx mo [.pc p5_3, .pc p5_73] 102 [(2, (.bool true))] [.row 22 [(ApiBooks.v a1)]] 59 [tw 4 (E_len [.row 22 [(ApiBooks.v a1)]] a1.Currencies_ ApiCurrency.v), twb 5 [.row 22 [(ApiBooks.v a1)]] (.bin .gtr .other true (.c (i64 (a1.Currencies_.length : Int))) (.c (i64 20))) (decide (20 < (a1.Currencies_.length : Int))) false hb2, tw 9 (E_len [.row 22 [(ApiBooks.v a1)]] a1.Calendars_ ApiCalendar.v), twb 11 [.row 22 [(ApiBooks.v a1)]] (.pick (.c (.bool false)) (.c (.bool true)) (.c (.bool (decide (10 < (a1.Calendars_.length : Int)))))) (decide (10 < (a1.Calendars_.length : Int))) false hb3, tw 15 (E_len [.row 22 [(ApiBooks.v a1)]] a1.Chart_ ApiGl.v), twb 17 [.row 22 [(ApiBooks.v a1)]] (.pick (.c (.bool false)) (.c (.bool true)) (.c (.bool (decide (60 < (a1.Chart_.length : Int)))))) (decide (60 < (a1.Chart_.length : Int))) true hb4] ?_
        obtain rfl := Option.some.inj h
        exact gf (.bool true) (.same rfl)
      · refine go_if h (fun hb5 h => ?_) (fun hb5 h => ?_)
        · refine gx mo [.pc p5_3, .pc p5_73] 102 [(2, (.bool true))] [.row 22 [(ApiBooks.v a1)]] 59 [tw 4 (E_len [.row 22 [(ApiBooks.v a1)]] a1.Currencies_ ApiCurrency.v), twb 5 [.row 22 [(ApiBooks.v a1)]] (.bin .gtr .other true (.c (i64 (a1.Currencies_.length : Int))) (.c (i64 20))) (decide (20 < (a1.Currencies_.length : Int))) false hb2, tw 9 (E_len [.row 22 [(ApiBooks.v a1)]] a1.Calendars_ ApiCalendar.v), twb 11 [.row 22 [(ApiBooks.v a1)]] (.pick (.c (.bool false)) (.c (.bool true)) (.c (.bool (decide (10 < (a1.Calendars_.length : Int)))))) (decide (10 < (a1.Calendars_.length : Int))) false hb3, tw 15 (E_len [.row 22 [(ApiBooks.v a1)]] a1.Chart_ ApiGl.v), twb 17 [.row 22 [(ApiBooks.v a1)]] (.pick (.c (.bool false)) (.c (.bool true)) (.c (.bool (decide (60 < (a1.Chart_.length : Int)))))) (decide (60 < (a1.Chart_.length : Int))) false hb4, tw 21 (E_len [.row 22 [(ApiBooks.v a1)]] a1.Products_ ApiProduct.v), twb 23 [.row 22 [(ApiBooks.v a1)]] (.pick (.c (.bool false)) (.c (.bool true)) (.c (.bool (decide (20 < (a1.Products_.length : Int)))))) (decide (20 < (a1.Products_.length : Int))) true hb5] ?_
          obtain rfl := Option.some.inj h
          exact gf (.bool true) (.same rfl)
        · refine go_if h (fun hb6 h => ?_) (fun hb6 h => ?_)
          · refine gx mo [.pc p5_3, .pc p5_73] 102 [(2, (.bool true))] [.row 22 [(ApiBooks.v a1)]] 59 [tw 4 (E_len [.row 22 [(ApiBooks.v a1)]] a1.Currencies_ ApiCurrency.v), twb 5 [.row 22 [(ApiBooks.v a1)]] (.bin .gtr .other true (.c (i64 (a1.Currencies_.length : Int))) (.c (i64 20))) (decide (20 < (a1.Currencies_.length : Int))) false hb2, tw 9 (E_len [.row 22 [(ApiBooks.v a1)]] a1.Calendars_ ApiCalendar.v), twb 11 [.row 22 [(ApiBooks.v a1)]] (.pick (.c (.bool false)) (.c (.bool true)) (.c (.bool (decide (10 < (a1.Calendars_.length : Int)))))) (decide (10 < (a1.Calendars_.length : Int))) false hb3, tw 15 (E_len [.row 22 [(ApiBooks.v a1)]] a1.Chart_ ApiGl.v), twb 17 [.row 22 [(ApiBooks.v a1)]] (.pick (.c (.bool false)) (.c (.bool true)) (.c (.bool (decide (60 < (a1.Chart_.length : Int)))))) (decide (60 < (a1.Chart_.length : Int))) false hb4, tw 21 (E_len [.row 22 [(ApiBooks.v a1)]] a1.Products_ ApiProduct.v), twb 23 [.row 22 [(ApiBooks.v a1)]] (.pick (.c (.bool false)) (.c (.bool true)) (.c (.bool (decide (20 < (a1.Products_.length : Int)))))) (decide (20 < (a1.Products_.length : Int))) false hb5, tw 27 (E_len [.row 22 [(ApiBooks.v a1)]] a1.Accounts_ ApiAccount.v), twb 29 [.row 22 [(ApiBooks.v a1)]] (.pick (.c (.bool false)) (.c (.bool true)) (.c (.bool (decide (40 < (a1.Accounts_.length : Int)))))) (decide (40 < (a1.Accounts_.length : Int))) true hb6] ?_
            obtain rfl := Option.some.inj h
            exact gf (.bool true) (.same rfl)
          · refine go_if h (fun hb7 h => ?_) (fun hb7 h => ?_)
            · refine gx mo [.pc p5_3, .pc p5_73] 102 [(2, (.bool true))] [.row 22 [(ApiBooks.v a1)]] 59 [tw 4 (E_len [.row 22 [(ApiBooks.v a1)]] a1.Currencies_ ApiCurrency.v), twb 5 [.row 22 [(ApiBooks.v a1)]] (.bin .gtr .other true (.c (i64 (a1.Currencies_.length : Int))) (.c (i64 20))) (decide (20 < (a1.Currencies_.length : Int))) false hb2, tw 9 (E_len [.row 22 [(ApiBooks.v a1)]] a1.Calendars_ ApiCalendar.v), twb 11 [.row 22 [(ApiBooks.v a1)]] (.pick (.c (.bool false)) (.c (.bool true)) (.c (.bool (decide (10 < (a1.Calendars_.length : Int)))))) (decide (10 < (a1.Calendars_.length : Int))) false hb3, tw 15 (E_len [.row 22 [(ApiBooks.v a1)]] a1.Chart_ ApiGl.v), twb 17 [.row 22 [(ApiBooks.v a1)]] (.pick (.c (.bool false)) (.c (.bool true)) (.c (.bool (decide (60 < (a1.Chart_.length : Int)))))) (decide (60 < (a1.Chart_.length : Int))) false hb4, tw 21 (E_len [.row 22 [(ApiBooks.v a1)]] a1.Products_ ApiProduct.v), twb 23 [.row 22 [(ApiBooks.v a1)]] (.pick (.c (.bool false)) (.c (.bool true)) (.c (.bool (decide (20 < (a1.Products_.length : Int)))))) (decide (20 < (a1.Products_.length : Int))) false hb5, tw 27 (E_len [.row 22 [(ApiBooks.v a1)]] a1.Accounts_ ApiAccount.v), twb 29 [.row 22 [(ApiBooks.v a1)]] (.pick (.c (.bool false)) (.c (.bool true)) (.c (.bool (decide (40 < (a1.Accounts_.length : Int)))))) (decide (40 < (a1.Accounts_.length : Int))) false hb6, tw 33 (E_len [.row 22 [(ApiBooks.v a1)]] a1.Journal_ ApiEntry.v), twb 35 [.row 22 [(ApiBooks.v a1)]] (.pick (.c (.bool false)) (.c (.bool true)) (.c (.bool (decide (150 < (a1.Journal_.length : Int)))))) (decide (150 < (a1.Journal_.length : Int))) true hb7] ?_
              obtain rfl := Option.some.inj h
              exact gf (.bool true) (.same rfl)
            · refine go_bind h (fun r8 hr8 h => ?_)
              refine go_if h (fun hb9 h => ?_) (fun hb9 h => ?_)
              · refine gx mo [.pc p5_3, .pc p5_73] 102 [(2, (.bool true))] [.row 22 [(ApiBooks.v a1)]] 59 [tw 4 (E_len [.row 22 [(ApiBooks.v a1)]] a1.Currencies_ ApiCurrency.v), twb 5 [.row 22 [(ApiBooks.v a1)]] (.bin .gtr .other true (.c (i64 (a1.Currencies_.length : Int))) (.c (i64 20))) (decide (20 < (a1.Currencies_.length : Int))) false hb2, tw 9 (E_len [.row 22 [(ApiBooks.v a1)]] a1.Calendars_ ApiCalendar.v), twb 11 [.row 22 [(ApiBooks.v a1)]] (.pick (.c (.bool false)) (.c (.bool true)) (.c (.bool (decide (10 < (a1.Calendars_.length : Int)))))) (decide (10 < (a1.Calendars_.length : Int))) false hb3, tw 15 (E_len [.row 22 [(ApiBooks.v a1)]] a1.Chart_ ApiGl.v), twb 17 [.row 22 [(ApiBooks.v a1)]] (.pick (.c (.bool false)) (.c (.bool true)) (.c (.bool (decide (60 < (a1.Chart_.length : Int)))))) (decide (60 < (a1.Chart_.length : Int))) false hb4, tw 21 (E_len [.row 22 [(ApiBooks.v a1)]] a1.Products_ ApiProduct.v), twb 23 [.row 22 [(ApiBooks.v a1)]] (.pick (.c (.bool false)) (.c (.bool true)) (.c (.bool (decide (20 < (a1.Products_.length : Int)))))) (decide (20 < (a1.Products_.length : Int))) false hb5, tw 27 (E_len [.row 22 [(ApiBooks.v a1)]] a1.Accounts_ ApiAccount.v), twb 29 [.row 22 [(ApiBooks.v a1)]] (.pick (.c (.bool false)) (.c (.bool true)) (.c (.bool (decide (40 < (a1.Accounts_.length : Int)))))) (decide (40 < (a1.Accounts_.length : Int))) false hb6, tw 33 (E_len [.row 22 [(ApiBooks.v a1)]] a1.Journal_ ApiEntry.v), twb 35 [.row 22 [(ApiBooks.v a1)]] (.pick (.c (.bool false)) (.c (.bool true)) (.c (.bool (decide (150 < (a1.Journal_.length : Int)))))) (decide (150 < (a1.Journal_.length : Int))) false hb7, tc 39 [.row 22 [(ApiBooks.v a1)]] (P_r22_Great hr8) (fs fl_nil), twb 40 [.row 22 [(ApiBooks.v a1)]] (.pick (.c (.bool false)) (.c (.bool true)) (.c (.bool r8))) (r8) true hb9] ?_
                obtain rfl := Option.some.inj h
                exact gf (.bool true) (.same rfl)
              · refine gx mo [.pc p5_6, .pc p5_73] 102 [(1, (.ref 0 0 0)), (50, (.bool (decide (100 < (a1.Blocks_.length : Int)))))] [.row 22 [(ApiBooks.v a1)]] 54 [tw 4 (E_len [.row 22 [(ApiBooks.v a1)]] a1.Currencies_ ApiCurrency.v), twb 5 [.row 22 [(ApiBooks.v a1)]] (.bin .gtr .other true (.c (i64 (a1.Currencies_.length : Int))) (.c (i64 20))) (decide (20 < (a1.Currencies_.length : Int))) false hb2, tw 9 (E_len [.row 22 [(ApiBooks.v a1)]] a1.Calendars_ ApiCalendar.v), twb 11 [.row 22 [(ApiBooks.v a1)]] (.pick (.c (.bool false)) (.c (.bool true)) (.c (.bool (decide (10 < (a1.Calendars_.length : Int)))))) (decide (10 < (a1.Calendars_.length : Int))) false hb3, tw 15 (E_len [.row 22 [(ApiBooks.v a1)]] a1.Chart_ ApiGl.v), twb 17 [.row 22 [(ApiBooks.v a1)]] (.pick (.c (.bool false)) (.c (.bool true)) (.c (.bool (decide (60 < (a1.Chart_.length : Int)))))) (decide (60 < (a1.Chart_.length : Int))) false hb4, tw 21 (E_len [.row 22 [(ApiBooks.v a1)]] a1.Products_ ApiProduct.v), twb 23 [.row 22 [(ApiBooks.v a1)]] (.pick (.c (.bool false)) (.c (.bool true)) (.c (.bool (decide (20 < (a1.Products_.length : Int)))))) (decide (20 < (a1.Products_.length : Int))) false hb5, tw 27 (E_len [.row 22 [(ApiBooks.v a1)]] a1.Accounts_ ApiAccount.v), twb 29 [.row 22 [(ApiBooks.v a1)]] (.pick (.c (.bool false)) (.c (.bool true)) (.c (.bool (decide (40 < (a1.Accounts_.length : Int)))))) (decide (40 < (a1.Accounts_.length : Int))) false hb6, tw 33 (E_len [.row 22 [(ApiBooks.v a1)]] a1.Journal_ ApiEntry.v), twb 35 [.row 22 [(ApiBooks.v a1)]] (.pick (.c (.bool false)) (.c (.bool true)) (.c (.bool (decide (150 < (a1.Journal_.length : Int)))))) (decide (150 < (a1.Journal_.length : Int))) false hb7, tc 39 [.row 22 [(ApiBooks.v a1)]] (P_r22_Great hr8) (fs fl_nil), twb 40 [.row 22 [(ApiBooks.v a1)]] (.pick (.c (.bool false)) (.c (.bool true)) (.c (.bool r8))) (r8) false hb9, tw 44 (E_len [.row 22 [(ApiBooks.v a1)]] a1.Blocks_ ApiBlock.v)] ?_
                refine go_if h (fun hb10 h => ?_) (fun hb10 h => ?_)
                · rw [hb10]
                  refine gx mo [.pc p5_3, .pc p5_73] 102 [(2, (.bool true))] [.row 22 [(ApiBooks.v a1)]] 5 [] ?_
                  obtain rfl := Option.some.inj h
                  exact gf (.bool true) (.same rfl)
                · rw [hb10]
                  refine gx mo [.pc p5_25, .blk 0, .pc p5_72] 102 [(1, (.ref 0 0 0)), (3, (i64 0))] [.row 22 [(ApiBooks.v a1)]] 8 [] ?_
                  refine go_cut (X := Unit) (fun x => (K_r25_Great_1 N a1 (.brk x)).bind some = some r) ([.pc p5_72]) (fun x => (mk 102 [(1, (.ref 0 0 0))])) (fun x => [.row 22 [(ApiBooks.v a1)]]) ?_ fun kont1_0 => ?_
                  · rintro _ h
                    rw [K_r25_Great_1] at h
                    refine gx mo [.pc p5_45, .blk 2, .pc p5_71] 102 [(1, (.ref 0 0 0)), (4, (i64 0))] [.row 22 [(ApiBooks.v a1)]] 6 [] ?_
                    refine go_cut (X := Unit) (fun x => (K_r25_Great_2 N a1 (.brk x)).bind some = some r) ([.pc p5_71]) (fun x => (mk 102 [(1, (.ref 0 0 0))])) (fun x => [.row 22 [(ApiBooks.v a1)]]) ?_ fun kont2_0 => ?_
                    · rintro _ h
                      rw [K_r25_Great_2] at h
                      refine gx mo [.pc p5_65, .blk 4, .pc p5_70] 102 [(1, (.ref 0 0 0)), (5, (i64 0))] [.row 22 [(ApiBooks.v a1)]] 6 [] ?_
                      refine go_cut (X := Unit) (fun x => (K_r25_Great_3 N (.brk x)).bind some = some r) ([.pc p5_70]) (fun x => (mk 102 [])) (fun x => []) ?_ fun kont3_0 => ?_
                      · rintro _ h
                        rw [K_r25_Great_3] at h
                        refine gx mo [.pc p5_69] 102 [(2, (.bool false))] [] 4 [] ?_
                        obtain rfl := Option.some.inj h
                        exact gf (.bool false) (.same rfl)
                      refine go_loop' (fun m t s => ∃ (v3_0 : Int), (L_r25_Great_3 N a1 m v3_0).bind (fun q => (K_r25_Great_3 N q).bind some) = some r ∧ t = (mk 102 [(1, (.ref 0 0 0)), (5, (i64 v3_0))]) ∧ s = [.row 22 [(ApiBooks.v a1)]]) N ⟨0, go_assoc h, rfl, rfl⟩ ?_
                      intro m3 J3 hJ3 t s
                      rintro ⟨v3_0, h, rfl, rfl⟩
                      cases m3 with
                      | zero => exact absurd h (by simp [L_r25_Great_3])
                      | succ m3 =>
                        rw [L_r25_Great_3] at h
                        refine gx mo [.pc p5_52, .pc p5_63, .jp J3, .blk 4, .pc p5_70] 102 [(1, (.ref 0 0 0)), (5, (i64 v3_0)), (81, (.bool (decide (v3_0 < (a1.Calendars_.length : Int)))))] [.row 22 [(ApiBooks.v a1)]] 9 [tw 3 (E_len [.row 22 [(ApiBooks.v a1)]] a1.Calendars_ ApiCalendar.v)] ?_
                        refine go_if h (fun hb24 h => ?_) (fun hb24 h => ?_)
                        · rw [hb24]
                          refine go_bind h (fun y25 hy25 h => ?_)
                          refine go_if h (fun hb26 h => ?_) (fun hb26 h => ?_)
                          · refine gx mo [.pc p5_56, .blk 5, .pc p5_62, .jp J3, .blk 4, .pc p5_70] 102 [(2, (.bool true))] [.row 22 [(ApiBooks.v a1)]] 30 [tw 4 (E_ia [.row 22 [(ApiBooks.v a1)]] ApiCalendar.v .i64 hy25), tw 7 (E_len [.row 22 [(ApiBooks.v a1)]] y25.Holidays_ i64), twb 8 [.row 22 [(ApiBooks.v a1)]] (.bin .gtr .other true (.c (i64 (y25.Holidays_.length : Int))) (.c (i64 400))) (decide (400 < (y25.Holidays_.length : Int))) true hb26] ?_
                            obtain rfl := Option.some.inj h
                            exact gf (.bool true) (.same rfl)
                          · refine go_bind h (fun y27 hy27 h => ?_)
                            refine gx mo [.pc p5_59, .blk 5, .pc p5_62, .jp J3, .blk 4, .pc p5_70] 102 [(1, (.ref 0 0 0)), (5, (i64 v3_0)), (101, (.bool (decide (20 < (y27.Weekend_.length : Int)))))] [.row 22 [(ApiBooks.v a1)]] 25 [tw 4 (E_ia [.row 22 [(ApiBooks.v a1)]] ApiCalendar.v .i64 hy25), tw 7 (E_len [.row 22 [(ApiBooks.v a1)]] y25.Holidays_ i64), twb 8 [.row 22 [(ApiBooks.v a1)]] (.bin .gtr .other true (.c (i64 (y25.Holidays_.length : Int))) (.c (i64 400))) (decide (400 < (y25.Holidays_.length : Int))) false hb26, tw 13 (E_ia [.row 22 [(ApiBooks.v a1)]] ApiCalendar.v .i64 hy27), tw 16 (E_len [.row 22 [(ApiBooks.v a1)]] y27.Weekend_ i64)] ?_
                            refine go_if h (fun hb28 h => ?_) (fun hb28 h => ?_)
                            · rw [hb28]
                              refine gx mo [.pc p5_56, .blk 5, .pc p5_62, .jp J3, .blk 4, .pc p5_70] 102 [(2, (.bool true))] [.row 22 [(ApiBooks.v a1)]] 5 [] ?_
                              obtain rfl := Option.some.inj h
                              exact gf (.bool true) (.same rfl)
                            · rw [hb28]
                              refine gx mo [.jp J3, .blk 4, .pc p5_70] 102 [(1, (.ref 0 0 0)), (5, (i64 (IntKind.wrap .i64 (v3_0 + 1))))] [.row 22 [(ApiBooks.v a1)]] 8 [] ?_
                              exact go_back rfl (hJ3 m3 _ _ (Nat.lt_succ_self m3) ⟨IntKind.wrap .i64 (v3_0 + 1), h, rfl, rfl⟩)
                        · rw [hb24]
                          refine gx mo [.pc p5_70] 102 [] [.row 22 [(ApiBooks.v a1)]] 2 [] ?_
                          refine go_pick [] [] [] (t' := (mk 102 [])) (s' := []) (by kernel_rfl) trivial rfl ?_
                          exact kont3_0 () h
                    refine go_loop' (fun m t s => ∃ (v2_0 : Int), (L_r25_Great_2 N a1 m v2_0).bind (fun q => (K_r25_Great_2 N a1 q).bind some) = some r ∧ t = (mk 102 [(1, (.ref 0 0 0)), (4, (i64 v2_0))]) ∧ s = [.row 22 [(ApiBooks.v a1)]]) N ⟨0, go_assoc h, rfl, rfl⟩ ?_
                    intro m2 J2 hJ2 t s
                    rintro ⟨v2_0, h, rfl, rfl⟩
                    cases m2 with
                    | zero => exact absurd h (by simp [L_r25_Great_2])
                    | succ m2 =>
                      rw [L_r25_Great_2] at h
                      refine gx mo [.pc p5_32, .pc p5_43, .jp J2, .blk 2, .pc p5_71] 102 [(1, (.ref 0 0 0)), (4, (i64 v2_0)), (68, (.bool (decide (v2_0 < (a1.Journal_.length : Int)))))] [.row 22 [(ApiBooks.v a1)]] 9 [tw 3 (E_len [.row 22 [(ApiBooks.v a1)]] a1.Journal_ ApiEntry.v)] ?_
                      refine go_if h (fun hb29 h => ?_) (fun hb29 h => ?_)
                      · rw [hb29]
                        refine go_bind h (fun y30 hy30 h => ?_)
                        refine go_bind h (fun r31 hr31 h => ?_)
                        refine gx mo [.pc p5_39, .blk 3, .pc p5_42, .jp J2, .blk 2, .pc p5_71] 102 [(1, (.ref 0 0 0)), (4, (i64 v2_0)), (76, (.bool r31))] [.row 22 [(ApiBooks.v a1)]] 13 [tw 4 (E_ia [.row 22 [(ApiBooks.v a1)]] ApiEntry.v .i64 hy30), tc 6 [.row 22 [(ApiBooks.v a1)]] (P_r19_Great hr31) (fg fl_nil)] ?_
                        refine go_if h (fun hb32 h => ?_) (fun hb32 h => ?_)
                        · rw [hb32]
                          refine gx mo [.pc p5_36, .blk 3, .pc p5_42, .jp J2, .blk 2, .pc p5_71] 102 [(2, (.bool true))] [.row 22 [(ApiBooks.v a1)]] 5 [] ?_
                          obtain rfl := Option.some.inj h
                          exact gf (.bool true) (.same rfl)
                        · rw [hb32]
                          refine gx mo [.jp J2, .blk 2, .pc p5_71] 102 [(1, (.ref 0 0 0)), (4, (i64 (IntKind.wrap .i64 (v2_0 + 1))))] [.row 22 [(ApiBooks.v a1)]] 8 [] ?_
                          exact go_back rfl (hJ2 m2 _ _ (Nat.lt_succ_self m2) ⟨IntKind.wrap .i64 (v2_0 + 1), h, rfl, rfl⟩)
                      · rw [hb29]
                        refine gx mo [.pc p5_71] 102 [(1, (.ref 0 0 0))] [.row 22 [(ApiBooks.v a1)]] 2 [] ?_
                        exact kont2_0 () h
                  refine go_loop' (fun m t s => ∃ (v1_0 : Int), (L_r25_Great_1 N a1 m v1_0).bind (fun q => (K_r25_Great_1 N a1 q).bind some) = some r ∧ t = (mk 102 [(1, (.ref 0 0 0)), (3, (i64 v1_0))]) ∧ s = [.row 22 [(ApiBooks.v a1)]]) N ⟨0, go_assoc h, rfl, rfl⟩ ?_
                  intro m1 J1 hJ1 t s
                  rintro ⟨v1_0, h, rfl, rfl⟩
                  cases m1 with
                  | zero => exact absurd h (by simp [L_r25_Great_1])
                  | succ m1 =>
                    rw [L_r25_Great_1] at h
                    refine gx mo [.pc p5_12, .pc p5_23, .jp J1, .blk 0, .pc p5_72] 102 [(1, (.ref 0 0 0)), (3, (i64 v1_0)), (55, (.bool (decide (v1_0 < (a1.Products_.length : Int)))))] [.row 22 [(ApiBooks.v a1)]] 9 [tw 3 (E_len [.row 22 [(ApiBooks.v a1)]] a1.Products_ ApiProduct.v)] ?_
                    refine go_if h (fun hb33 h => ?_) (fun hb33 h => ?_)
                    · rw [hb33]
                      refine go_bind h (fun y34 hy34 h => ?_)
                      refine go_bind h (fun r35 hr35 h => ?_)
                      refine gx mo [.pc p5_19, .blk 1, .pc p5_22, .jp J1, .blk 0, .pc p5_72] 102 [(1, (.ref 0 0 0)), (3, (i64 v1_0)), (63, (.bool r35))] [.row 22 [(ApiBooks.v a1)]] 13 [tw 4 (E_ia [.row 22 [(ApiBooks.v a1)]] ApiProduct.v .i64 hy34), tc 6 [.row 22 [(ApiBooks.v a1)]] (P_r16_Great hr35) (fg fl_nil)] ?_
                      refine go_if h (fun hb36 h => ?_) (fun hb36 h => ?_)
                      · rw [hb36]
                        refine gx mo [.pc p5_16, .blk 1, .pc p5_22, .jp J1, .blk 0, .pc p5_72] 102 [(2, (.bool true))] [.row 22 [(ApiBooks.v a1)]] 5 [] ?_
                        obtain rfl := Option.some.inj h
                        exact gf (.bool true) (.same rfl)
                      · rw [hb36]
                        refine gx mo [.jp J1, .blk 0, .pc p5_72] 102 [(1, (.ref 0 0 0)), (3, (i64 (IntKind.wrap .i64 (v1_0 + 1))))] [.row 22 [(ApiBooks.v a1)]] 8 [] ?_
                        exact go_back rfl (hJ1 m1 _ _ (Nat.lt_succ_self m1) ⟨IntKind.wrap .i64 (v1_0 + 1), h, rfl, rfl⟩)
                    · rw [hb33]
                      refine gx mo [.pc p5_72] 102 [(1, (.ref 0 0 0))] [.row 22 [(ApiBooks.v a1)]] 2 [] ?_
                      exact kont1_0 () h
/-! corebank/account.index$1 -/
def p80_2 : PC := .ret
def p80_4 : PC := (.seq (.reg (oo 2 (.box (.t 0)) :: oo 3 (.mv (.c (.bool false))) :: [])) (.seq (.reg (oo 4 (.fa 0 (.t 2)) :: oo 5 (.ld1 (.t 4)) :: oo 6 (.ld1 (.t 1)) :: oo 7 (.bin .eql .other false (.t 5) (.t 6)) :: om 3 7 :: [])) p80_2))
theorem fn80 : FnOk Tryz.prog 80 p80_4 8 [.t 3] := ⟨false, Tryz.f80, _, Tryz.func80, by decide, rfl, by kernel_rfl, rfl, by kernel_rfl⟩
def F_account_index_c1_vb45  (N : Nat) (a1 : ApiAccount) (a2 : Int) : Option (Bool) :=
      some (decide (a1.Id_ = a2))
theorem P_account_index_c1_vb45  {N : Nat} {a1 : ApiAccount} {a2 : Int} {r : Bool} (h : F_account_index_c1_vb45 N a1 a2 = some r) : Pure Tryz.prog (Gl.at 0) 80 [(ApiAccount.v a1), (.imm [(i64 a2)] 0)] (.bool r) := by
  refine pure_run fn80 ?_
  rw [F_account_index_c1_vb45] at h
  replace h := bs h
  change GG [.t 3] _ [.pc p80_4] (mk 8 [(0, (ApiAccount.v a1)), (1, (.imm [(i64 a2)] 0))]) []
  refine gx mo [.pc p80_2] 8 [(3, (.bool (decide (a1.Id_ = a2))))] [.row 7 [(ApiAccount.v a1)]] 13 [] ?_
  obtain rfl := Option.some.inj h
  exact gf (.bool (decide (a1.Id_ = a2))) (.same rfl)
/-! slices.IndexFunc[[]corebank/api.Account,corebank/api.Account] -/
def p79_24 : PC := .ret
def p79_25 : PC := (.seq (.reg (oo 4 (.mv (.c (.int .i64 (-1)))) :: [])) p79_24)
def p79_16 : PC := (.reg (oo 18 (.bin .add .other true (.t 8) (.c (.int .i64 1))) :: om 8 18 :: []))
def p79_9 : PC := .ret
def p79_12 : PC := (.cond (.t 16) (.seq (.reg (om 17 5 :: om 4 17 :: [])) p79_9) .skip)
def p79_17 : PC := (.seq (.block 1 (.seq (.reg (om 10 8 :: om 5 10 :: [])) (.seq (.reg (om 11 1 :: om 12 0 :: om 13 5 :: oo 14 (.ia 7 (.t 12) (.t 13)) :: oo 15 (.ldA 7 (.t 14)) :: ⟨some 16, .dyn (.t 11) [.t 15], none⟩ :: [])) p79_12))) p79_16)
def p79_5 : PC := (.cond (.t 9) .skip (.exit 0))
def p79_20 : PC := (.loop (.seq (.reg (oo 9 (.bin .lss .other false (.t 8) (.t 7)) :: [])) (.seq p79_5 p79_17)))
def p79_27 : PC := (.seq (.reg (oo 4 (.mv (.c (.int .i64 0))) :: [])) (.seq (.seq (.reg (om 6 0 :: oo 7 (.len .slice (.t 6)) :: oo 8 (.mv (.c (.int .i64 0))) :: [])) (.block 0 p79_20)) p79_25))
theorem fn79 : FnOk Tryz.prog 79 p79_27 19 [.t 4] := ⟨false, Tryz.f79, _, Tryz.func79, by decide, rfl, by kernel_rfl, rfl, by kernel_rfl⟩
def L_slices_IndexFunc_api_Account_v618_1 (N : Nat) (a1 : List ApiAccount) (a2 : Int) : Nat → Int → Option (Br (Int) (Unit))
  | 0, _ => none
  | m1 + 1, v1_0 =>
    bif decide (v1_0 < (a1.length : Int)) then
    ((getI a1 v1_0).bind fun y8 =>
    (F_account_index_c1_vb45 N y8 a2).bind fun r9 =>
    bif r9 then
    (some (.ret v1_0))
    else
    ((L_slices_IndexFunc_api_Account_v618_1 N a1 a2 m1) (IntKind.wrap .i64 (v1_0 + 1))))
    else
    (some (.brk ()))
def K_slices_IndexFunc_api_Account_v618_1 (N : Nat)  : Br (Int) (Unit) → Option (Int)
  | .ret r => some r
  | .brk _ =>
    some (-1)
def F_slices_IndexFunc_api_Account_v618  (N : Nat) (a1 : List ApiAccount) (a2 : Int) : Option (Int) :=
      (L_slices_IndexFunc_api_Account_v618_1 N a1 a2 N 0).bind (K_slices_IndexFunc_api_Account_v618_1 N)
theorem P_slices_IndexFunc_api_Account_v618  {N : Nat} {a1 : List ApiAccount} {a2 : Int} {r : Int} (h : F_slices_IndexFunc_api_Account_v618 N a1 a2 = some r) : Pure Tryz.prog (Gl.at 0) 79 [(.sl (a1.map ApiAccount.v)), (.fn (.func 80) [] [(.imm [(i64 a2)] 0)])] (i64 r) := by
  refine pure_run fn79 ?_
  rw [F_slices_IndexFunc_api_Account_v618] at h
  replace h := bs h
  change GG [.t 4] _ [.pc p79_27] (mk 19 [(0, (.sl (a1.map ApiAccount.v))), (1, (.fn (.func 80) [] [(.imm [(i64 a2)] 0)]))]) []
  refine gx mo [.pc p79_20, .blk 0, .pc p79_25] 19 [(0, (.sl (a1.map ApiAccount.v))), (1, (.fn (.func 80) [] [(.imm [(i64 a2)] 0)])), (7, (i64 (a1.length : Int))), (8, (i64 0))] [] 12 [tw 2 (E_len [] a1 ApiAccount.v)] ?_
  refine go_cut (X := Unit) (fun x => (K_slices_IndexFunc_api_Account_v618_1 N (.brk x)).bind some = some r) ([.pc p79_25]) (fun x => (mk 19 [])) (fun x => []) ?_ fun kont1_0 => ?_
  · rintro _ h
    rw [K_slices_IndexFunc_api_Account_v618_1] at h
    refine gx mo [.pc p79_24] 19 [(4, (i64 (-1)))] [] 4 [] ?_
    obtain rfl := Option.some.inj h
    exact gf (i64 (-1)) (.same rfl)
  refine go_loop' (fun m t s => ∃ (v1_0 : Int), (L_slices_IndexFunc_api_Account_v618_1 N a1 a2 m v1_0).bind (fun q => (K_slices_IndexFunc_api_Account_v618_1 N q).bind some) = some r ∧ t = (mk 19 [(0, (.sl (a1.map ApiAccount.v))), (1, (.fn (.func 80) [] [(.imm [(i64 a2)] 0)])), (7, (i64 (a1.length : Int))), (8, (i64 v1_0))]) ∧ s = []) N ⟨0, go_assoc h, rfl, rfl⟩ ?_
  intro m1 J1 hJ1 t s
  rintro ⟨v1_0, h, rfl, rfl⟩
  cases m1 with
  | zero => exact absurd h (by simp [L_slices_IndexFunc_api_Account_v618_1])
  | succ m1 =>
    rw [L_slices_IndexFunc_api_Account_v618_1] at h
    refine gx mo [.pc p79_5, .pc p79_17, .jp J1, .blk 0, .pc p79_25] 19 [(0, (.sl (a1.map ApiAccount.v))), (1, (.fn (.func 80) [] [(.imm [(i64 a2)] 0)])), (7, (i64 (a1.length : Int))), (8, (i64 v1_0)), (9, (.bool (decide (v1_0 < (a1.length : Int)))))] [] 5 [] ?_
    refine go_if h (fun hb7 h => ?_) (fun hb7 h => ?_)
    · rw [hb7]
      refine go_bind h (fun y8 hy8 h => ?_)
      refine go_bind h (fun r9 hr9 h => ?_)
      refine gx mo [.pc p79_12, .blk 1, .pc p79_16, .jp J1, .blk 0, .pc p79_25] 19 [(0, (.sl (a1.map ApiAccount.v))), (1, (.fn (.func 80) [] [(.imm [(i64 a2)] 0)])), (5, (i64 v1_0)), (7, (i64 (a1.length : Int))), (8, (i64 v1_0)), (16, (.bool r9))] [] 18 [tw 6 (E_ia [] ApiAccount.v .i64 hy8), td 8 [] [] [(.imm [(i64 a2)] 0)] [(ApiAccount.v y8)] (P_account_index_c1_vb45 hr9) (fg (fs fl_nil))] ?_
      refine go_if h (fun hb10 h => ?_) (fun hb10 h => ?_)
      · rw [hb10]
        refine gx mo [.pc p79_9, .blk 1, .pc p79_16, .jp J1, .blk 0, .pc p79_25] 19 [(4, (i64 v1_0))] [] 6 [] ?_
        obtain rfl := Option.some.inj h
        exact gf (i64 v1_0) (.same rfl)
      · rw [hb10]
        refine gx mo [.jp J1, .blk 0, .pc p79_25] 19 [(0, (.sl (a1.map ApiAccount.v))), (1, (.fn (.func 80) [] [(.imm [(i64 a2)] 0)])), (7, (i64 (a1.length : Int))), (8, (i64 (IntKind.wrap .i64 (v1_0 + 1))))] [] 7 [] ?_
        exact go_back rfl (hJ1 m1 _ _ (Nat.lt_succ_self m1) ⟨IntKind.wrap .i64 (v1_0 + 1), h, rfl, rfl⟩)
    · rw [hb7]
      refine gx mo [.pc p79_25] 19 [] [] 2 [] ?_
      exact kont1_0 () h
/-! corebank/account.index -/
def p56_2 : PC := .ret
def p56_4 : PC := (.seq (.reg (oo 2 (.box (.t 0)) :: oo 3 (.box (.t 1)) :: oo 4 (.mv (.c (.int .i64 0))) :: [])) (.seq (.reg (oo 5 (.fa 18 (.t 2)) :: oo 6 (.ld1 (.t 5)) :: oo 7 (.fn (.func 80) [] [.t 3]) :: ⟨some 8, .call 79 [.t 6, .t 7], none⟩ :: om 4 8 :: [])) p56_2))
theorem fn56 : FnOk Tryz.prog 56 p56_4 9 [.t 4] := ⟨false, Tryz.f56, _, Tryz.func56, by decide, rfl, by kernel_rfl, rfl, by kernel_rfl⟩
def F_account_index  (N : Nat) (a1 : ApiBooks) (a2 : Int) : Option (Int) :=
      (F_slices_IndexFunc_api_Account_v618 N a1.Accounts_ a2).bind fun r3 =>
    some r3
theorem P_account_index  {N : Nat} {a1 : ApiBooks} {a2 : Int} {r : Int} (h : F_account_index N a1 a2 = some r) : Pure Tryz.prog (Gl.at 0) 56 [(ApiBooks.v a1), (i64 a2)] (i64 r) := by
  refine pure_run fn56 ?_
  rw [F_account_index] at h
  replace h := bs h
  change GG [.t 4] _ [.pc p56_4] (mk 9 [(0, (ApiBooks.v a1)), (1, (i64 a2))]) []
  refine go_bind h (fun r3 hr3 h => ?_)
  refine gx mo [.pc p56_2] 9 [(4, (i64 r3))] [.row 22 [(ApiBooks.v a1)], .row 1 [(i64 a2)]] 14 [tc 6 [.row 22 [(ApiBooks.v a1)], .row 1 [(i64 a2)]] (P_slices_IndexFunc_api_Account_v618 hr3) (fs (fl_cons (f_fn fl_nil (fl_cons (f_ref (c := 1) (u := (i64 a2)) rfl (.same rfl)) fl_nil)) fl_nil))] ?_
  obtain rfl := Option.some.inj h
  exact gf (i64 r3) (.same rfl)
/-! corebank/account.Find -/
def p22_10 : PC := .ret
def p22_11 : PC := (.seq (.reg (oo 13 (.fa 18 (.t 2)) :: oo 14 (.ld1 (.t 13)) :: om 15 6 :: oo 16 (.ia 7 (.t 14) (.t 15)) :: oo 17 (.ldA 7 (.t 16)) :: on_ (.st 7 (.t 4) (.t 17)) :: oo 5 (.mv (.c (.bool true))) :: [])) p22_10)
def p22_4 : PC := .ret
def p22_7 : PC := (.cond (.t 11) (.seq (.reg (oo 12 (.build [.int .i64 0, .int .i64 0, .int .i64 0, .int .i64 0, .str [], .str [], .str []] []) :: on_ (.st 7 (.t 4) (.t 12)) :: oo 5 (.mv (.c (.bool false))) :: [])) p22_4) .skip)
def p22_14 : PC := (.seq (.reg (oo 2 (.box (.t 0)) :: oo 4 (.new (.agg [.int .i64 0, .int .i64 0, .int .i64 0, .int .i64 0, .str [], .str [], .str []])) :: oo 5 (.mv (.c (.bool false))) :: [])) (.seq (.reg (oo 7 (.ldA 22 (.t 2)) :: om 8 1 :: ⟨some 9, .call 56 [.t 7, .t 8], none⟩ :: om 6 9 :: [])) (.seq (.seq (.reg (om 10 6 :: oo 11 (.bin .lss .other true (.t 10) (.c (.int .i64 0))) :: [])) p22_7) p22_11)))
theorem fn22 : FnOk Tryz.prog 22 p22_14 18 [.a 4 7, .t 5] := ⟨false, Tryz.f22, _, Tryz.func22, by decide, rfl, by kernel_rfl, rfl, by kernel_rfl⟩
def F_account_Find  (N : Nat) (a1 : ApiBooks) (a2 : Int) : Option (ApiAccount × Bool) :=
      (F_account_index N a1 a2).bind fun r3 =>
    bif decide (r3 < 0) then
    (some ((⟨0, 0, 0, 0, [], [], []⟩ : ApiAccount), false))
    else
    ((getI a1.Accounts_ r3).bind fun y5 =>
    some (y5, true))
theorem P_account_Find  {N : Nat} {a1 : ApiBooks} {a2 : Int} {r : ApiAccount × Bool} (h : F_account_Find N a1 a2 = some r) : Pure Tryz.prog (Gl.at 0) 22 [(ApiBooks.v a1), (i64 a2)] (.tup [(ApiAccount.v r.1), (.bool r.2)]) := by
  refine pure_run fn22 ?_
  rw [F_account_Find] at h
  replace h := bs h
  change GG [.a 4 7, .t 5] _ [.pc p22_14] (mk 18 [(0, (ApiBooks.v a1)), (1, (i64 a2))]) []
  refine go_bind h (fun r3 hr3 h => ?_)
  refine gx mo [.pc p22_7, .pc p22_11] 18 [(2, (.ref 0 0 0)), (4, (.ref 1 0 0)), (6, (i64 r3)), (11, (.bool (decide (r3 < 0))))] [.row 22 [(ApiBooks.v a1)], .row 7 [(.agg [(i64 0), (i64 0), (i64 0), (i64 0), (.str []), (.str []), (.str [])])]] 19 [tc 5 [.row 22 [(ApiBooks.v a1)], .row 7 [(.agg [(i64 0), (i64 0), (i64 0), (i64 0), (.str []), (.str []), (.str [])])]] (P_account_index hr3) (fg (fs fl_nil))] ?_
  refine go_if h (fun hb4 h => ?_) (fun hb4 h => ?_)
  · rw [hb4]
    refine gx mo [.pc p22_4, .pc p22_11] 18 [(4, (.ref 1 0 0)), (5, (.bool false))] [.row 22 [(ApiBooks.v a1)], .row 7 [(.agg [(i64 0), (i64 0), (i64 0), (i64 0), (.str []), (.str []), (.str [])])]] 7 [] ?_
    obtain rfl := Option.some.inj h
    exact gf (.tup [(.agg [(i64 0), (i64 0), (i64 0), (i64 0), (.str []), (.str []), (.str [])]), (.bool false)]) (f_tupl (fg (fs fl_nil)))
  · rw [hb4]
    refine go_bind h (fun y5 hy5 h => ?_)
    refine gx mo [.pc p22_10] 18 [(4, (.ref 1 0 0)), (5, (.bool true))] [.row 22 [(ApiBooks.v a1)], .row 7 [(ApiAccount.v y5)]] 12 [tw 4 (E_ia [.row 22 [(ApiBooks.v a1)], .row 7 [(.agg [(i64 0), (i64 0), (i64 0), (i64 0), (.str []), (.str []), (.str [])])]] ApiAccount.v .i64 hy5)] ?_
    obtain rfl := Option.some.inj h
    exact gf (.tup [(ApiAccount.v y5), (.bool true)]) (f_tupl (fg (fs fl_nil)))
/-! corebank/catalog.At -/
def p66_30 : PC := .ret
def p66_31 : PC := (.seq (.reg (om 47 0 :: om 48 8 :: oo 49 (.ia 19 (.t 47) (.t 48)) :: oo 50 (.ldA 19 (.t 49)) :: on_ (.st 19 (.t 6) (.t 50)) :: oo 7 (.mv (.c (.bool true))) :: [])) p66_30)
def p66_24 : PC := .ret
def p66_27 : PC := (.cond (.t 45) (.seq (.reg (oo 46 (.build [.str [], .str [], .str [], .int .i64 0, .int .i64 0, .int .i64 0, .int .i64 0, .nils, .bool false, .int .i64 0, .int .i64 0, .bool false, .nils, .bool false, .int .i64 0, .int .i64 0, .bool false, .nils, .nils] []) :: on_ (.st 19 (.t 6) (.t 46)) :: oo 7 (.mv (.c (.bool false))) :: [])) p66_24) .skip)
def p66_32 : PC := (.seq (.seq (.reg (om 44 8 :: oo 45 (.bin .lss .other true (.t 44) (.c (.int .i64 0))) :: [])) p66_27) p66_31)
def p66_15 : PC := (.reg (oo 43 (.bin .add .other true (.t 13) (.c (.int .i64 1))) :: om 13 43 :: []))
def p66_11 : PC := (.cond (.t 41) (.reg (om 42 9 :: om 8 42 :: [])) .skip)
def p66_16 : PC := (.seq (.block 1 (.seq (.reg (om 15 13 :: oo 16 (.ia 19 (.t 11) (.t 13)) :: oo 17 (.ldA 19 (.t 16)) :: oo 10 (.new (.agg [.str [], .str [], .str [], .int .i64 0, .int .i64 0, .int .i64 0, .int .i64 0, .nils, .bool false, .int .i64 0, .int .i64 0, .bool false, .nils, .bool false, .int .i64 0, .int .i64 0, .bool false, .nils, .nils])) :: om 9 15 :: on_ (.st 19 (.t 10) (.t 17)) :: [])) (.seq (.drawn (oo 18 (.fa 0 (.t 10)) :: oo 19 (.ld1 (.t 18)) :: om 20 1 :: oo 21 (.bin .eql .other false (.t 19) (.t 20)) :: om 22 21 :: ⟨some 23, .op (.fa 3 (.t 10)), some (22, true)⟩ :: ⟨some 24, .op (.ld1 (.t 23)), some (22, true)⟩ :: ⟨some 25, .op (.mv (.t 2)), some (22, true)⟩ :: ⟨some 26, .op (.bin .leq .other false (.t 24) (.t 25)), some (22, true)⟩ :: oo 27 (.pick (.t 22) (.t 26) (.c (.bool false))) :: om 28 27 :: ⟨some 29, .op (.mv (.t 8)), some (28, true)⟩ :: ⟨some 30, .op (.bin .lss .other true (.t 29) (.c (.int .i64 0))), some (28, true)⟩ :: ⟨some 31, .op (.mv (.t 30)), some (28, true)⟩ :: ⟨some 32, .op (.fa 3 (.t 10)), some (31, false)⟩ :: ⟨some 33, .op (.ld1 (.t 32)), some (31, false)⟩ :: ⟨some 34, .op (.mv (.t 0)), some (31, false)⟩ :: ⟨some 35, .op (.mv (.t 8)), some (31, false)⟩ :: ⟨some 36, .op (.ia 19 (.t 34) (.t 35)), some (31, false)⟩ :: ⟨some 37, .op (.fa 3 (.t 36)), some (31, false)⟩ :: ⟨some 38, .op (.ld1 (.t 37)), some (31, false)⟩ :: ⟨some 39, .op (.bin .gtr .other false (.t 33) (.t 38)), some (31, false)⟩ :: ⟨some 40, .op (.pick (.t 31) (.c (.bool true)) (.t 39)), some (28, true)⟩ :: oo 41 (.pick (.t 28) (.t 40) (.c (.bool false))) :: []) [[], [0], [], [1, 2], [3], [4], [5, 4], [4], [6, 7, 4], [4, 8], [9, 4], [10], [11, 10], [12, 10, 10], [13], [14, 13], [13], [13], [16, 17, 13], [18, 13], [19, 13], [15, 20, 13], [13, 21, 10], [10, 22]]) p66_11))) p66_15)
def p66_6 : PC := (.cond (.t 14) .skip (.exit 0))
def p66_19 : PC := (.loop (.seq (.reg (oo 14 (.bin .lss .other false (.t 13) (.t 12)) :: [])) (.seq p66_6 p66_16)))
def p66_35 : PC := (.seq (.reg (oo 6 (.new (.agg [.str [], .str [], .str [], .int .i64 0, .int .i64 0, .int .i64 0, .int .i64 0, .nils, .bool false, .int .i64 0, .int .i64 0, .bool false, .nils, .bool false, .int .i64 0, .int .i64 0, .bool false, .nils, .nils])) :: oo 7 (.mv (.c (.bool false))) :: [])) (.seq (.reg (oo 8 (.mv (.c (.int .i64 (-1)))) :: [])) (.seq (.seq (.reg (om 11 0 :: oo 12 (.len .slice (.t 11)) :: oo 13 (.mv (.c (.int .i64 0))) :: [])) (.block 0 p66_19)) p66_32)))
theorem fn66 : FnOk Tryz.prog 66 p66_35 51 [.a 6 19, .t 7] := ⟨false, Tryz.f66, _, Tryz.func66, by decide, rfl, by kernel_rfl, rfl, by kernel_rfl⟩
def L_catalog_At_1 (N : Nat) (a1 : List ApiProduct) (a2 : List UInt8) (a3 : Int) : Nat → Int → Int → Option (Int)
  | 0, _, _ => none
  | m1 + 1, v1_0, v1_1 =>
    bif decide (v1_1 < (a1.length : Int)) then
    ((getI a1 v1_1).bind fun y14 =>
    bif y14.Name_ == a2 then
    (bif decide (y14.From_ ≤ a3) then
    (bif decide (v1_0 < 0) then
    ((L_catalog_At_1 N a1 a2 a3 m1) v1_1 (IntKind.wrap .i64 (v1_1 + 1)))
    else
    ((getI a1 v1_0).bind fun y18 =>
    bif decide (y18.From_ < y14.From_) then
    ((L_catalog_At_1 N a1 a2 a3 m1) v1_1 (IntKind.wrap .i64 (v1_1 + 1)))
    else
    ((L_catalog_At_1 N a1 a2 a3 m1) v1_0 (IntKind.wrap .i64 (v1_1 + 1)))))
    else
    ((L_catalog_At_1 N a1 a2 a3 m1) v1_0 (IntKind.wrap .i64 (v1_1 + 1))))
    else
    ((L_catalog_At_1 N a1 a2 a3 m1) v1_0 (IntKind.wrap .i64 (v1_1 + 1))))
    else
    (some v1_0)
def K_catalog_At_1 (N : Nat) (a1 : List ApiProduct) : (Int) → Option (ApiProduct × Bool)
  | x1_0 =>
    bif decide (x1_0 < 0) then
    (some ((⟨[], [], [], 0, 0, 0, 0, ⟨[], false, 0, 0, false⟩, ⟨[], false, 0, 0, false⟩, [], []⟩ : ApiProduct), false))
    else
    ((getI a1 x1_0).bind fun y12 =>
    some (y12, true))
def F_catalog_At  (N : Nat) (a1 : List ApiProduct) (a2 : List UInt8) (a3 : Int) : Option (ApiProduct × Bool) :=
      (L_catalog_At_1 N a1 a2 a3 N (-1) 0).bind (K_catalog_At_1 N a1)
theorem P_catalog_At  {N : Nat} {a1 : List ApiProduct} {a2 : List UInt8} {a3 : Int} {r : ApiProduct × Bool} (h : F_catalog_At N a1 a2 a3 = some r) : Pure Tryz.prog (Gl.at 0) 66 [(.sl (a1.map ApiProduct.v)), (.str a2), (i64 a3)] (.tup [(ApiProduct.v r.1), (.bool r.2)]) := by
  refine pure_run fn66 ?_
  rw [F_catalog_At] at h
  replace h := bs h
  change GG [.a 6 19, .t 7] _ [.pc p66_35] (mk 51 [(0, (.sl (a1.map ApiProduct.v))), (1, (.str a2)), (2, (i64 a3))]) []
  refine gx mo [.pc p66_19, .blk 0, .pc p66_32] 51 [(0, (.sl (a1.map ApiProduct.v))), (1, (.str a2)), (2, (i64 a3)), (6, (.ref 0 0 0)), (8, (i64 (-1))), (11, (.sl (a1.map ApiProduct.v))), (12, (i64 (a1.length : Int))), (13, (i64 0))] [.row 19 [(.agg [(.str []), (.str []), (.str []), (i64 0), (i64 0), (i64 0), (i64 0), .nils, (.bool false), (i64 0), (i64 0), (.bool false), .nils, (.bool false), (i64 0), (i64 0), (.bool false), .nils, .nils])]] 17 [tw 4 (E_len [.row 19 [(.agg [(.str []), (.str []), (.str []), (i64 0), (i64 0), (i64 0), (i64 0), .nils, (.bool false), (i64 0), (i64 0), (.bool false), .nils, (.bool false), (i64 0), (i64 0), (.bool false), .nils, .nils])]] a1 ApiProduct.v)] ?_
  refine go_cut (X := Int) (fun x => (K_catalog_At_1 N a1 x).bind some = some r) ([.pc p66_32]) (fun x => (mk 51 [(0, (.sl (a1.map ApiProduct.v))), (6, (.ref 0 0 0)), (8, (i64 x))])) (fun x => [.row 19 [(.agg [(.str []), (.str []), (.str []), (i64 0), (i64 0), (i64 0), (i64 0), .nils, (.bool false), (i64 0), (i64 0), (.bool false), .nils, (.bool false), (i64 0), (i64 0), (.bool false), .nils, .nils])]]) ?_ fun kont1_0 => ?_
  · rintro x1_0 h
    rw [K_catalog_At_1] at h
    refine gx mo [.pc p66_27, .pc p66_31] 51 [(0, (.sl (a1.map ApiProduct.v))), (6, (.ref 0 0 0)), (8, (i64 x1_0)), (45, (.bool (decide (x1_0 < 0))))] [.row 19 [(.agg [(.str []), (.str []), (.str []), (i64 0), (i64 0), (i64 0), (i64 0), .nils, (.bool false), (i64 0), (i64 0), (.bool false), .nils, (.bool false), (i64 0), (i64 0), (.bool false), .nils, .nils])]] 6 [] ?_
    refine go_if h (fun hb11 h => ?_) (fun hb11 h => ?_)
    · rw [hb11]
      refine gx mo [.pc p66_24, .pc p66_31] 51 [(6, (.ref 0 0 0)), (7, (.bool false))] [.row 19 [(.agg [(.str []), (.str []), (.str []), (i64 0), (i64 0), (i64 0), (i64 0), .nils, (.bool false), (i64 0), (i64 0), (.bool false), .nils, (.bool false), (i64 0), (i64 0), (.bool false), .nils, .nils])]] 7 [] ?_
      obtain rfl := Option.some.inj h
      exact gf (.tup [(.agg [(.str []), (.str []), (.str []), (i64 0), (i64 0), (i64 0), (i64 0), .nils, (.bool false), (i64 0), (i64 0), (.bool false), .nils, (.bool false), (i64 0), (i64 0), (.bool false), .nils, .nils]), (.bool false)]) (f_tupl (fl_cons (f_aggl (fs (fs (fs (fs (fs (fs (fs (fl_cons .nil0 (fs (fs (fs (fs (fl_cons .nil0 (fs (fs (fs (fs (fl_cons .nil0 (fl_cons .nil0 fl_nil)))))))))))))))))))) (fs fl_nil)))
    · rw [hb11]
      refine go_bind h (fun y12 hy12 h => ?_)
      refine gx mo [.pc p66_30] 51 [(6, (.ref 0 0 0)), (7, (.bool true))] [.row 19 [(ApiProduct.v y12)]] 11 [tw 3 (E_ia [.row 19 [(.agg [(.str []), (.str []), (.str []), (i64 0), (i64 0), (i64 0), (i64 0), .nils, (.bool false), (i64 0), (i64 0), (.bool false), .nils, (.bool false), (i64 0), (i64 0), (.bool false), .nils, .nils])]] ApiProduct.v .i64 hy12)] ?_
      obtain rfl := Option.some.inj h
      exact gf (.tup [(ApiProduct.v y12), (.bool true)]) (f_tupl (fg (fs fl_nil)))
  refine go_loop' (fun m t s => ∃ (v1_0 : Int) (v1_1 : Int), (L_catalog_At_1 N a1 a2 a3 m v1_0 v1_1).bind (fun q => (K_catalog_At_1 N a1 q).bind some) = some r ∧ t = (mk 51 [(0, (.sl (a1.map ApiProduct.v))), (1, (.str a2)), (2, (i64 a3)), (6, (.ref 0 0 0)), (8, (i64 v1_0)), (11, (.sl (a1.map ApiProduct.v))), (12, (i64 (a1.length : Int))), (13, (i64 v1_1))]) ∧ s = [.row 19 [(.agg [(.str []), (.str []), (.str []), (i64 0), (i64 0), (i64 0), (i64 0), .nils, (.bool false), (i64 0), (i64 0), (.bool false), .nils, (.bool false), (i64 0), (i64 0), (.bool false), .nils, .nils])]]) N ⟨(-1), 0, go_assoc h, rfl, rfl⟩ ?_
  intro m1 J1 hJ1 t s
  rintro ⟨v1_0, v1_1, h, rfl, rfl⟩
  cases m1 with
  | zero => exact absurd h (by simp [L_catalog_At_1])
  | succ m1 =>
    rw [L_catalog_At_1] at h
    refine gx mo [.pc p66_6, .pc p66_16, .jp J1, .blk 0, .pc p66_32] 51 [(0, (.sl (a1.map ApiProduct.v))), (1, (.str a2)), (2, (i64 a3)), (6, (.ref 0 0 0)), (8, (i64 v1_0)), (11, (.sl (a1.map ApiProduct.v))), (12, (i64 (a1.length : Int))), (13, (i64 v1_1)), (14, (.bool (decide (v1_1 < (a1.length : Int)))))] [.row 19 [(.agg [(.str []), (.str []), (.str []), (i64 0), (i64 0), (i64 0), (i64 0), .nils, (.bool false), (i64 0), (i64 0), (.bool false), .nils, (.bool false), (i64 0), (i64 0), (.bool false), .nils, .nils])]] 5 [] ?_
    refine go_if h (fun hb13 h => ?_) (fun hb13 h => ?_)
    · rw [hb13]
      refine go_bind h (fun y14 hy14 h => ?_)
      refine go_if h (fun hb15 h => ?_) (fun hb15 h => ?_)
      · refine go_if h (fun hb16 h => ?_) (fun hb16 h => ?_)
        · refine go_if h (fun hb17 h => ?_) (fun hb17 h => ?_)
          · refine gx mo [.jp J1, .blk 0, .pc p66_32] 51 [(0, (.sl (a1.map ApiProduct.v))), (1, (.str a2)), (2, (i64 a3)), (6, (.ref 0 0 0)), (8, (i64 v1_1)), (11, (.sl (a1.map ApiProduct.v))), (12, (i64 (a1.length : Int))), (13, (i64 (IntKind.wrap .i64 (v1_1 + 1))))] [.row 19 [(.agg [(.str []), (.str []), (.str []), (i64 0), (i64 0), (i64 0), (i64 0), .nils, (.bool false), (i64 0), (i64 0), (.bool false), .nils, (.bool false), (i64 0), (i64 0), (.bool false), .nils, .nils])], .row 19 [(ApiProduct.v y14)]] 25 [tw 2 (E_ia [.row 19 [(.agg [(.str []), (.str []), (.str []), (i64 0), (i64 0), (i64 0), (i64 0), .nils, (.bool false), (i64 0), (i64 0), (.bool false), .nils, (.bool false), (i64 0), (i64 0), (.bool false), .nils, .nils])]] ApiProduct.v .i64 hy14), tgb 10 [.row 19 [(.agg [(.str []), (.str []), (.str []), (i64 0), (i64 0), (i64 0), (i64 0), .nils, (.bool false), (i64 0), (i64 0), (.bool false), .nils, (.bool false), (i64 0), (i64 0), (.bool false), .nils, .nils])], .row 19 [(ApiProduct.v y14)]] (.bin .eql .other false (.c (.str y14.Name_)) (.c (.str a2))) (y14.Name_ == a2) true hb15, tgb 16 [.row 19 [(.agg [(.str []), (.str []), (.str []), (i64 0), (i64 0), (i64 0), (i64 0), .nils, (.bool false), (i64 0), (i64 0), (.bool false), .nils, (.bool false), (i64 0), (i64 0), (.bool false), .nils, .nils])], .row 19 [(ApiProduct.v y14)]] (.pick (.c (.bool true)) (.c (.bool (decide (y14.From_ ≤ a3)))) (.c (.bool false))) (decide (y14.From_ ≤ a3)) true hb16, tgb 19 [.row 19 [(.agg [(.str []), (.str []), (.str []), (i64 0), (i64 0), (i64 0), (i64 0), .nils, (.bool false), (i64 0), (i64 0), (.bool false), .nils, (.bool false), (i64 0), (i64 0), (.bool false), .nils, .nils])], .row 19 [(ApiProduct.v y14)]] (.bin .lss .other true (.c (i64 v1_0)) (.c (i64 0))) (decide (v1_0 < 0)) true hb17] ?_
            refine go_pick [0] [] [(0, 0), (1, 0), (2, 0), (6, 0), (8, 0), (11, 0), (12, 0), (13, 0)] (t' := (mk 51 [(0, (.sl (a1.map ApiProduct.v))), (1, (.str a2)), (2, (i64 a3)), (6, (.ref 0 0 0)), (8, (i64 v1_1)), (11, (.sl (a1.map ApiProduct.v))), (12, (i64 (a1.length : Int))), (13, (i64 (IntKind.wrap .i64 (v1_1 + 1))))])) (s' := [.row 19 [(.agg [(.str []), (.str []), (.str []), (i64 0), (i64 0), (i64 0), (i64 0), .nils, (.bool false), (i64 0), (i64 0), (.bool false), .nils, (.bool false), (i64 0), (i64 0), (.bool false), .nils, .nils])]]) (by kernel_rfl) ⟨clo_one rfl, trivial⟩ rfl ?_
            exact go_back rfl (hJ1 m1 _ _ (Nat.lt_succ_self m1) ⟨v1_1, IntKind.wrap .i64 (v1_1 + 1), h, rfl, rfl⟩)
          · refine go_bind h (fun y18 hy18 h => ?_)
            refine gx mo [.pc p66_11, .blk 1, .pc p66_15, .jp J1, .blk 0, .pc p66_32] 51 [(0, (.sl (a1.map ApiProduct.v))), (1, (.str a2)), (2, (i64 a3)), (6, (.ref 0 0 0)), (8, (i64 v1_0)), (9, (i64 v1_1)), (11, (.sl (a1.map ApiProduct.v))), (12, (i64 (a1.length : Int))), (13, (i64 v1_1)), (41, (.bool (decide (y18.From_ < y14.From_))))] [.row 19 [(.agg [(.str []), (.str []), (.str []), (i64 0), (i64 0), (i64 0), (i64 0), .nils, (.bool false), (i64 0), (i64 0), (.bool false), .nils, (.bool false), (i64 0), (i64 0), (.bool false), .nils, .nils])], .row 19 [(ApiProduct.v y14)]] 15 [tw 2 (E_ia [.row 19 [(.agg [(.str []), (.str []), (.str []), (i64 0), (i64 0), (i64 0), (i64 0), .nils, (.bool false), (i64 0), (i64 0), (.bool false), .nils, (.bool false), (i64 0), (i64 0), (.bool false), .nils, .nils])]] ApiProduct.v .i64 hy14), tgb 10 [.row 19 [(.agg [(.str []), (.str []), (.str []), (i64 0), (i64 0), (i64 0), (i64 0), .nils, (.bool false), (i64 0), (i64 0), (.bool false), .nils, (.bool false), (i64 0), (i64 0), (.bool false), .nils, .nils])], .row 19 [(ApiProduct.v y14)]] (.bin .eql .other false (.c (.str y14.Name_)) (.c (.str a2))) (y14.Name_ == a2) true hb15, tgb 16 [.row 19 [(.agg [(.str []), (.str []), (.str []), (i64 0), (i64 0), (i64 0), (i64 0), .nils, (.bool false), (i64 0), (i64 0), (.bool false), .nils, (.bool false), (i64 0), (i64 0), (.bool false), .nils, .nils])], .row 19 [(ApiProduct.v y14)]] (.pick (.c (.bool true)) (.c (.bool (decide (y14.From_ ≤ a3)))) (.c (.bool false))) (decide (y14.From_ ≤ a3)) true hb16, tgb 19 [.row 19 [(.agg [(.str []), (.str []), (.str []), (i64 0), (i64 0), (i64 0), (i64 0), .nils, (.bool false), (i64 0), (i64 0), (.bool false), .nils, (.bool false), (i64 0), (i64 0), (.bool false), .nils, .nils])], .row 19 [(ApiProduct.v y14)]] (.bin .lss .other true (.c (i64 v1_0)) (.c (i64 0))) (decide (v1_0 < 0)) false hb17, tg 25 (E_ia [.row 19 [(.agg [(.str []), (.str []), (.str []), (i64 0), (i64 0), (i64 0), (i64 0), .nils, (.bool false), (i64 0), (i64 0), (.bool false), .nils, (.bool false), (i64 0), (i64 0), (.bool false), .nils, .nils])], .row 19 [(ApiProduct.v y14)]] ApiProduct.v .i64 hy18)] ?_
            refine go_if h (fun hb19 h => ?_) (fun hb19 h => ?_)
            · rw [hb19]
              refine gx mo [.jp J1, .blk 0, .pc p66_32] 51 [(0, (.sl (a1.map ApiProduct.v))), (1, (.str a2)), (2, (i64 a3)), (6, (.ref 0 0 0)), (8, (i64 v1_1)), (11, (.sl (a1.map ApiProduct.v))), (12, (i64 (a1.length : Int))), (13, (i64 (IntKind.wrap .i64 (v1_1 + 1))))] [.row 19 [(.agg [(.str []), (.str []), (.str []), (i64 0), (i64 0), (i64 0), (i64 0), .nils, (.bool false), (i64 0), (i64 0), (.bool false), .nils, (.bool false), (i64 0), (i64 0), (.bool false), .nils, .nils])], .row 19 [(ApiProduct.v y14)]] 10 [] ?_
              refine go_pick [0] [] [(0, 0), (1, 0), (2, 0), (6, 0), (8, 0), (11, 0), (12, 0), (13, 0)] (t' := (mk 51 [(0, (.sl (a1.map ApiProduct.v))), (1, (.str a2)), (2, (i64 a3)), (6, (.ref 0 0 0)), (8, (i64 v1_1)), (11, (.sl (a1.map ApiProduct.v))), (12, (i64 (a1.length : Int))), (13, (i64 (IntKind.wrap .i64 (v1_1 + 1))))])) (s' := [.row 19 [(.agg [(.str []), (.str []), (.str []), (i64 0), (i64 0), (i64 0), (i64 0), .nils, (.bool false), (i64 0), (i64 0), (.bool false), .nils, (.bool false), (i64 0), (i64 0), (.bool false), .nils, .nils])]]) (by kernel_rfl) ⟨clo_one rfl, trivial⟩ rfl ?_
              exact go_back rfl (hJ1 m1 _ _ (Nat.lt_succ_self m1) ⟨v1_1, IntKind.wrap .i64 (v1_1 + 1), h, rfl, rfl⟩)
            · rw [hb19]
              refine gx mo [.jp J1, .blk 0, .pc p66_32] 51 [(0, (.sl (a1.map ApiProduct.v))), (1, (.str a2)), (2, (i64 a3)), (6, (.ref 0 0 0)), (8, (i64 v1_0)), (11, (.sl (a1.map ApiProduct.v))), (12, (i64 (a1.length : Int))), (13, (i64 (IntKind.wrap .i64 (v1_1 + 1))))] [.row 19 [(.agg [(.str []), (.str []), (.str []), (i64 0), (i64 0), (i64 0), (i64 0), .nils, (.bool false), (i64 0), (i64 0), (.bool false), .nils, (.bool false), (i64 0), (i64 0), (.bool false), .nils, .nils])], .row 19 [(ApiProduct.v y14)]] 7 [] ?_
              refine go_pick [0] [] [(0, 0), (1, 0), (2, 0), (6, 0), (8, 0), (11, 0), (12, 0), (13, 0)] (t' := (mk 51 [(0, (.sl (a1.map ApiProduct.v))), (1, (.str a2)), (2, (i64 a3)), (6, (.ref 0 0 0)), (8, (i64 v1_0)), (11, (.sl (a1.map ApiProduct.v))), (12, (i64 (a1.length : Int))), (13, (i64 (IntKind.wrap .i64 (v1_1 + 1))))])) (s' := [.row 19 [(.agg [(.str []), (.str []), (.str []), (i64 0), (i64 0), (i64 0), (i64 0), .nils, (.bool false), (i64 0), (i64 0), (.bool false), .nils, (.bool false), (i64 0), (i64 0), (.bool false), .nils, .nils])]]) (by kernel_rfl) ⟨clo_one rfl, trivial⟩ rfl ?_
              exact go_back rfl (hJ1 m1 _ _ (Nat.lt_succ_self m1) ⟨v1_0, IntKind.wrap .i64 (v1_1 + 1), h, rfl, rfl⟩)
        · refine gx mo [.jp J1, .blk 0, .pc p66_32] 51 [(0, (.sl (a1.map ApiProduct.v))), (1, (.str a2)), (2, (i64 a3)), (6, (.ref 0 0 0)), (8, (i64 v1_0)), (11, (.sl (a1.map ApiProduct.v))), (12, (i64 (a1.length : Int))), (13, (i64 (IntKind.wrap .i64 (v1_1 + 1))))] [.row 19 [(.agg [(.str []), (.str []), (.str []), (i64 0), (i64 0), (i64 0), (i64 0), .nils, (.bool false), (i64 0), (i64 0), (.bool false), .nils, (.bool false), (i64 0), (i64 0), (.bool false), .nils, .nils])], .row 19 [(ApiProduct.v y14)]] 22 [tw 2 (E_ia [.row 19 [(.agg [(.str []), (.str []), (.str []), (i64 0), (i64 0), (i64 0), (i64 0), .nils, (.bool false), (i64 0), (i64 0), (.bool false), .nils, (.bool false), (i64 0), (i64 0), (.bool false), .nils, .nils])]] ApiProduct.v .i64 hy14), tgb 10 [.row 19 [(.agg [(.str []), (.str []), (.str []), (i64 0), (i64 0), (i64 0), (i64 0), .nils, (.bool false), (i64 0), (i64 0), (.bool false), .nils, (.bool false), (i64 0), (i64 0), (.bool false), .nils, .nils])], .row 19 [(ApiProduct.v y14)]] (.bin .eql .other false (.c (.str y14.Name_)) (.c (.str a2))) (y14.Name_ == a2) true hb15, tgb 16 [.row 19 [(.agg [(.str []), (.str []), (.str []), (i64 0), (i64 0), (i64 0), (i64 0), .nils, (.bool false), (i64 0), (i64 0), (.bool false), .nils, (.bool false), (i64 0), (i64 0), (.bool false), .nils, .nils])], .row 19 [(ApiProduct.v y14)]] (.pick (.c (.bool true)) (.c (.bool (decide (y14.From_ ≤ a3)))) (.c (.bool false))) (decide (y14.From_ ≤ a3)) false hb16] ?_
          refine go_pick [0] [] [(0, 0), (1, 0), (2, 0), (6, 0), (8, 0), (11, 0), (12, 0), (13, 0)] (t' := (mk 51 [(0, (.sl (a1.map ApiProduct.v))), (1, (.str a2)), (2, (i64 a3)), (6, (.ref 0 0 0)), (8, (i64 v1_0)), (11, (.sl (a1.map ApiProduct.v))), (12, (i64 (a1.length : Int))), (13, (i64 (IntKind.wrap .i64 (v1_1 + 1))))])) (s' := [.row 19 [(.agg [(.str []), (.str []), (.str []), (i64 0), (i64 0), (i64 0), (i64 0), .nils, (.bool false), (i64 0), (i64 0), (.bool false), .nils, (.bool false), (i64 0), (i64 0), (.bool false), .nils, .nils])]]) (by kernel_rfl) ⟨clo_one rfl, trivial⟩ rfl ?_
          exact go_back rfl (hJ1 m1 _ _ (Nat.lt_succ_self m1) ⟨v1_0, IntKind.wrap .i64 (v1_1 + 1), h, rfl, rfl⟩)
      · refine gx mo [.jp J1, .blk 0, .pc p66_32] 51 [(0, (.sl (a1.map ApiProduct.v))), (1, (.str a2)), (2, (i64 a3)), (6, (.ref 0 0 0)), (8, (i64 v1_0)), (11, (.sl (a1.map ApiProduct.v))), (12, (i64 (a1.length : Int))), (13, (i64 (IntKind.wrap .i64 (v1_1 + 1))))] [.row 19 [(.agg [(.str []), (.str []), (.str []), (i64 0), (i64 0), (i64 0), (i64 0), .nils, (.bool false), (i64 0), (i64 0), (.bool false), .nils, (.bool false), (i64 0), (i64 0), (.bool false), .nils, .nils])], .row 19 [(ApiProduct.v y14)]] 22 [tw 2 (E_ia [.row 19 [(.agg [(.str []), (.str []), (.str []), (i64 0), (i64 0), (i64 0), (i64 0), .nils, (.bool false), (i64 0), (i64 0), (.bool false), .nils, (.bool false), (i64 0), (i64 0), (.bool false), .nils, .nils])]] ApiProduct.v .i64 hy14), tgb 10 [.row 19 [(.agg [(.str []), (.str []), (.str []), (i64 0), (i64 0), (i64 0), (i64 0), .nils, (.bool false), (i64 0), (i64 0), (.bool false), .nils, (.bool false), (i64 0), (i64 0), (.bool false), .nils, .nils])], .row 19 [(ApiProduct.v y14)]] (.bin .eql .other false (.c (.str y14.Name_)) (.c (.str a2))) (y14.Name_ == a2) false hb15] ?_
        refine go_pick [0] [] [(0, 0), (1, 0), (2, 0), (6, 0), (8, 0), (11, 0), (12, 0), (13, 0)] (t' := (mk 51 [(0, (.sl (a1.map ApiProduct.v))), (1, (.str a2)), (2, (i64 a3)), (6, (.ref 0 0 0)), (8, (i64 v1_0)), (11, (.sl (a1.map ApiProduct.v))), (12, (i64 (a1.length : Int))), (13, (i64 (IntKind.wrap .i64 (v1_1 + 1))))])) (s' := [.row 19 [(.agg [(.str []), (.str []), (.str []), (i64 0), (i64 0), (i64 0), (i64 0), .nils, (.bool false), (i64 0), (i64 0), (.bool false), .nils, (.bool false), (i64 0), (i64 0), (.bool false), .nils, .nils])]]) (by kernel_rfl) ⟨clo_one rfl, trivial⟩ rfl ?_
        exact go_back rfl (hJ1 m1 _ _ (Nat.lt_succ_self m1) ⟨v1_0, IntKind.wrap .i64 (v1_1 + 1), h, rfl, rfl⟩)
    · rw [hb13]
      refine gx mo [.pc p66_32] 51 [(0, (.sl (a1.map ApiProduct.v))), (6, (.ref 0 0 0)), (8, (i64 v1_0))] [.row 19 [(.agg [(.str []), (.str []), (.str []), (i64 0), (i64 0), (i64 0), (i64 0), .nils, (.bool false), (i64 0), (i64 0), (.bool false), .nils, (.bool false), (i64 0), (i64 0), (.bool false), .nils, .nils])]] 2 [] ?_
      exact kont1_0 v1_0 h
/-! corebank/account.Product -/
def p43_10 : PC := .ret
def p43_11 : PC := (.seq (.reg (oo 19 (.fa 17 (.t 3)) :: oo 20 (.ld1 (.t 19)) :: oo 21 (.fa 5 (.t 8)) :: oo 22 (.ld1 (.t 21)) :: om 23 2 :: ⟨some 24, .call 66 [.t 20, .t 22, .t 23], none⟩ :: oo 25 (.ext 0 (.t 24)) :: oo 26 (.ext 1 (.t 24)) :: on_ (.st 19 (.t 6) (.t 25)) :: om 7 26 :: [])) p43_10)
def p43_4 : PC := .ret
def p43_7 : PC := (.cond (.t 17) (.seq (.reg (oo 18 (.build [.str [], .str [], .str [], .int .i64 0, .int .i64 0, .int .i64 0, .int .i64 0, .nils, .bool false, .int .i64 0, .int .i64 0, .bool false, .nils, .bool false, .int .i64 0, .int .i64 0, .bool false, .nils, .nils] []) :: on_ (.st 19 (.t 6) (.t 18)) :: oo 7 (.mv (.c (.bool false))) :: [])) p43_4) .skip)
def p43_14 : PC := (.seq (.reg (oo 3 (.box (.t 0)) :: oo 6 (.new (.agg [.str [], .str [], .str [], .int .i64 0, .int .i64 0, .int .i64 0, .int .i64 0, .nils, .bool false, .int .i64 0, .int .i64 0, .bool false, .nils, .bool false, .int .i64 0, .int .i64 0, .bool false, .nils, .nils])) :: oo 7 (.mv (.c (.bool false))) :: [])) (.seq (.reg (oo 11 (.ldA 22 (.t 3)) :: om 12 1 :: ⟨some 13, .call 22 [.t 11, .t 12], none⟩ :: om 10 13 :: oo 14 (.ext 0 (.t 10)) :: oo 15 (.ext 1 (.t 10)) :: oo 8 (.new (.agg [.int .i64 0, .int .i64 0, .int .i64 0, .int .i64 0, .str [], .str [], .str []])) :: on_ (.st 7 (.t 8) (.t 14)) :: om 9 15 :: [])) (.seq (.seq (.reg (om 16 9 :: oo 17 (.un .not (.t 16)) :: [])) p43_7) p43_11)))
theorem fn43 : FnOk Tryz.prog 43 p43_14 27 [.a 6 19, .t 7] := ⟨false, Tryz.f43, _, Tryz.func43, by decide, rfl, by kernel_rfl, rfl, by kernel_rfl⟩
def F_account_Product  (N : Nat) (a1 : ApiBooks) (a2 : Int) (a3 : Int) : Option (ApiProduct × Bool) :=
      (F_account_Find N a1 a2).bind fun r4 =>
    bif !r4.2 then
    (some ((⟨[], [], [], 0, 0, 0, 0, ⟨[], false, 0, 0, false⟩, ⟨[], false, 0, 0, false⟩, [], []⟩ : ApiProduct), false))
    else
    ((F_catalog_At N a1.Products_ r4.1.Product_ a3).bind fun r6 =>
    some (r6.1, r6.2))
theorem P_account_Product  {N : Nat} {a1 : ApiBooks} {a2 : Int} {a3 : Int} {r : ApiProduct × Bool} (h : F_account_Product N a1 a2 a3 = some r) : Pure Tryz.prog (Gl.at 0) 43 [(ApiBooks.v a1), (i64 a2), (i64 a3)] (.tup [(ApiProduct.v r.1), (.bool r.2)]) := by
  refine pure_run fn43 ?_
  rw [F_account_Product] at h
  replace h := bs h
  change GG [.a 6 19, .t 7] _ [.pc p43_14] (mk 27 [(0, (ApiBooks.v a1)), (1, (i64 a2)), (2, (i64 a3))]) []
  refine go_bind h (fun r4 hr4 h => ?_)
  refine gx mo [.pc p43_7, .pc p43_11] 27 [(2, (i64 a3)), (3, (.ref 0 0 0)), (6, (.ref 1 0 0)), (8, (.ref 2 0 0)), (17, (.bool (!r4.2)))] [.row 22 [(ApiBooks.v a1)], .row 19 [(.agg [(.str []), (.str []), (.str []), (i64 0), (i64 0), (i64 0), (i64 0), .nils, (.bool false), (i64 0), (i64 0), (.bool false), .nils, (.bool false), (i64 0), (i64 0), (.bool false), .nils, .nils])], .row 7 [(ApiAccount.v r4.1)]] 24 [tc 5 [.row 22 [(ApiBooks.v a1)], .row 19 [(.agg [(.str []), (.str []), (.str []), (i64 0), (i64 0), (i64 0), (i64 0), .nils, (.bool false), (i64 0), (i64 0), (.bool false), .nils, (.bool false), (i64 0), (i64 0), (.bool false), .nils, .nils])]] (P_account_Find hr4) (fg (fs fl_nil))] ?_
  refine go_if h (fun hb5 h => ?_) (fun hb5 h => ?_)
  · rw [hb5]
    refine gx mo [.pc p43_4, .pc p43_11] 27 [(6, (.ref 1 0 0)), (7, (.bool false))] [.row 22 [(ApiBooks.v a1)], .row 19 [(.agg [(.str []), (.str []), (.str []), (i64 0), (i64 0), (i64 0), (i64 0), .nils, (.bool false), (i64 0), (i64 0), (.bool false), .nils, (.bool false), (i64 0), (i64 0), (.bool false), .nils, .nils])], .row 7 [(ApiAccount.v r4.1)]] 7 [] ?_
    obtain rfl := Option.some.inj h
    exact gf (.tup [(.agg [(.str []), (.str []), (.str []), (i64 0), (i64 0), (i64 0), (i64 0), .nils, (.bool false), (i64 0), (i64 0), (.bool false), .nils, (.bool false), (i64 0), (i64 0), (.bool false), .nils, .nils]), (.bool false)]) (f_tupl (fl_cons (f_aggl (fs (fs (fs (fs (fs (fs (fs (fl_cons .nil0 (fs (fs (fs (fs (fl_cons .nil0 (fs (fs (fs (fs (fl_cons .nil0 (fl_cons .nil0 fl_nil)))))))))))))))))))) (fs fl_nil)))
  · rw [hb5]
    refine go_bind h (fun r6 hr6 h => ?_)
    refine gx mo [.pc p43_10] 27 [(6, (.ref 1 0 0)), (7, (.bool r6.2))] [.row 22 [(ApiBooks.v a1)], .row 19 [(ApiProduct.v r6.1)], .row 7 [(ApiAccount.v r4.1)]] 15 [tcc 6 [.row 22 [(ApiBooks.v a1)], .row 19 [(.agg [(.str []), (.str []), (.str []), (i64 0), (i64 0), (i64 0), (i64 0), .nils, (.bool false), (i64 0), (i64 0), (.bool false), .nils, (.bool false), (i64 0), (i64 0), (.bool false), .nils, .nils])], .row 7 [(ApiAccount.v r4.1)]] (P_catalog_At hr6) (fs (fs (fs fl_nil)))] ?_
    obtain rfl := Option.some.inj h
    exact gf (.tup [(ApiProduct.v r6.1), (.bool r6.2)]) (f_tupl (fg (fs fl_nil)))
/-! corebank/limit.Floor -/
def p10_11 : PC := .ret
def p10_12 : PC := (.seq (.reg (oo 31 (.fa 5 (.t 10)) :: oo 32 (.ld1 (.t 31)) :: oo 33 (.fa 3 (.t 8)) :: oo 34 (.ld1 (.t 33)) :: oo 35 (.bin .add .other false (.t 32) (.t 34)) :: oo 36 (.un .neg (.t 35)) :: om 6 36 :: oo 7 (.mv (.c (.int .i64 0))) :: [])) p10_11)
def p10_5 : PC := .ret
def p10_8 : PC := (.cond (.t 30) (.seq (.reg (oo 6 (.mv (.c (.int .i64 0))) :: oo 7 (.mv (.c (.int .i64 11))) :: [])) p10_5) .skip)
def p10_16 : PC := (.seq (.reg (oo 3 (.box (.t 0)) :: oo 6 (.mv (.c (.int .i64 0))) :: oo 7 (.mv (.c (.int .i64 0))) :: [])) (.seq (.reg (oo 13 (.ldA 22 (.t 3)) :: om 14 1 :: ⟨some 15, .call 22 [.t 13, .t 14], none⟩ :: om 12 15 :: oo 16 (.ext 0 (.t 12)) :: oo 17 (.ext 1 (.t 12)) :: oo 8 (.new (.agg [.int .i64 0, .int .i64 0, .int .i64 0, .int .i64 0, .str [], .str [], .str []])) :: on_ (.st 7 (.t 8) (.t 16)) :: om 9 17 :: [])) (.seq (.reg (oo 19 (.ldA 22 (.t 3)) :: om 20 1 :: om 21 2 :: ⟨some 22, .call 43 [.t 19, .t 20, .t 21], none⟩ :: om 18 22 :: oo 23 (.ext 0 (.t 18)) :: oo 24 (.ext 1 (.t 18)) :: oo 10 (.new (.agg [.str [], .str [], .str [], .int .i64 0, .int .i64 0, .int .i64 0, .int .i64 0, .nils, .bool false, .int .i64 0, .int .i64 0, .bool false, .nils, .bool false, .int .i64 0, .int .i64 0, .bool false, .nils, .nils])) :: on_ (.st 19 (.t 10) (.t 23)) :: om 11 24 :: [])) (.seq (.seq (.reg (om 25 9 :: oo 26 (.un .not (.t 25)) :: om 27 26 :: ⟨some 28, .op (.mv (.t 11)), some (27, false)⟩ :: ⟨some 29, .op (.un .not (.t 28)), some (27, false)⟩ :: oo 30 (.pick (.t 27) (.c (.bool true)) (.t 29)) :: [])) p10_8) p10_12))))
theorem fn10 : FnOk Tryz.prog 10 p10_16 37 [.t 6, .t 7] := ⟨false, Tryz.f10, _, Tryz.func10, by decide, rfl, by kernel_rfl, rfl, by kernel_rfl⟩
def F_limit_Floor  (N : Nat) (a1 : ApiBooks) (a2 : Int) (a3 : Int) : Option (Int × Int) :=
      (F_account_Find N a1 a2).bind fun r4 =>
    (F_account_Product N a1 a2 a3).bind fun r5 =>
    bif r4.2 then
    (bif !r5.2 then
    (some (0, 11))
    else
    (some (IntKind.wrap .i64 (0 - (IntKind.wrap .i64 (r5.1.Overdraft_ + r4.1.Extra_))), 0)))
    else
    (some (0, 11))
theorem P_limit_Floor  {N : Nat} {a1 : ApiBooks} {a2 : Int} {a3 : Int} {r : Int × Int} (h : F_limit_Floor N a1 a2 a3 = some r) : Pure Tryz.prog (Gl.at 0) 10 [(ApiBooks.v a1), (i64 a2), (i64 a3)] (.tup [(i64 r.1), (i64 r.2)]) := by
  refine pure_run fn10 ?_
  rw [F_limit_Floor] at h
  replace h := bs h
  change GG [.t 6, .t 7] _ [.pc p10_16] (mk 37 [(0, (ApiBooks.v a1)), (1, (i64 a2)), (2, (i64 a3))]) []
  refine go_bind h (fun r4 hr4 h => ?_)
  refine go_bind h (fun r5 hr5 h => ?_)
  refine go_if h (fun hb6 h => ?_) (fun hb6 h => ?_)
  · refine gx mo [.pc p10_8, .pc p10_12] 37 [(8, (.ref 1 0 0)), (10, (.ref 2 0 0)), (30, (.bool (!r5.2)))] [.row 22 [(ApiBooks.v a1)], .row 7 [(ApiAccount.v r4.1)], .row 19 [(ApiProduct.v r5.1)]] 41 [tc 5 [.row 22 [(ApiBooks.v a1)]] (P_account_Find hr4) (fg (fs fl_nil)), tcc 15 [.row 22 [(ApiBooks.v a1)], .row 7 [(ApiAccount.v r4.1)]] (P_account_Product hr5) (fg (fs (fs fl_nil))), twb 22 [.row 22 [(ApiBooks.v a1)], .row 7 [(ApiAccount.v r4.1)], .row 19 [(ApiProduct.v r5.1)]] (.mv (.c (.bool r4.2))) (r4.2) true hb6] ?_
    refine go_if h (fun hb7 h => ?_) (fun hb7 h => ?_)
    · rw [hb7]
      refine gx mo [.pc p10_5, .pc p10_12] 37 [(6, (i64 0)), (7, (i64 11))] [.row 22 [(ApiBooks.v a1)], .row 7 [(ApiAccount.v r4.1)], .row 19 [(ApiProduct.v r5.1)]] 6 [] ?_
      obtain rfl := Option.some.inj h
      exact gf (.tup [(i64 0), (i64 11)]) (f_tupl (fs (fs fl_nil)))
    · rw [hb7]
      refine gx mo [.pc p10_11] 37 [(6, (i64 (IntKind.wrap .i64 (0 - (IntKind.wrap .i64 (r5.1.Overdraft_ + r4.1.Extra_)))))), (7, (i64 0))] [.row 22 [(ApiBooks.v a1)], .row 7 [(ApiAccount.v r4.1)], .row 19 [(ApiProduct.v r5.1)]] 13 [] ?_
      obtain rfl := Option.some.inj h
      exact gf (.tup [(i64 (IntKind.wrap .i64 (0 - (IntKind.wrap .i64 (r5.1.Overdraft_ + r4.1.Extra_))))), (i64 0)]) (f_tupl (fs (fs fl_nil)))
  · refine gx mo [.pc p10_5, .pc p10_12] 37 [(6, (i64 0)), (7, (i64 11))] [.row 22 [(ApiBooks.v a1)], .row 7 [(ApiAccount.v r4.1)], .row 19 [(ApiProduct.v r5.1)]] 47 [tc 5 [.row 22 [(ApiBooks.v a1)]] (P_account_Find hr4) (fg (fs fl_nil)), tcc 15 [.row 22 [(ApiBooks.v a1)], .row 7 [(ApiAccount.v r4.1)]] (P_account_Product hr5) (fg (fs (fs fl_nil))), twb 22 [.row 22 [(ApiBooks.v a1)], .row 7 [(ApiAccount.v r4.1)], .row 19 [(ApiProduct.v r5.1)]] (.mv (.c (.bool r4.2))) (r4.2) false hb6] ?_
    obtain rfl := Option.some.inj h
    exact gf (.tup [(i64 0), (i64 11)]) (f_tupl (fs (fs fl_nil)))
/-! corebank/corebankref24.Find -/
def p33_22 : PC := .ret
def p33_23 : PC := (.seq (.reg (oo 27 (.build [.int .i64 0, .int .i64 0, .int .i64 0, .int .i64 0, .str [], .str [], .str []] []) :: on_ (.st 7 (.t 4) (.t 27)) :: oo 5 (.mv (.c (.bool false))) :: [])) p33_22)
def p33_15 : PC := (.reg (om 12 6 :: oo 13 (.bin .add .other true (.t 12) (.c (.int .i64 1))) :: om 6 13 :: []))
def p33_9 : PC := .ret
def p33_12 : PC := (.cond (.t 21) (.seq (.reg (oo 22 (.fa 18 (.t 2)) :: oo 23 (.ld1 (.t 22)) :: om 24 6 :: oo 25 (.ia 7 (.t 23) (.t 24)) :: oo 26 (.ldA 7 (.t 25)) :: on_ (.st 7 (.t 4) (.t 26)) :: oo 5 (.mv (.c (.bool true))) :: [])) p33_9) .skip)
def p33_16 : PC := (.seq (.block 1 (.seq (.reg (oo 14 (.fa 18 (.t 2)) :: oo 15 (.ld1 (.t 14)) :: om 16 6 :: oo 17 (.ia 7 (.t 15) (.t 16)) :: oo 18 (.fa 0 (.t 17)) :: oo 19 (.ld1 (.t 18)) :: om 20 1 :: oo 21 (.bin .eql .other false (.t 19) (.t 20)) :: [])) p33_12)) p33_15)
def p33_5 : PC := (.cond (.t 11) .skip (.exit 0))
def p33_18 : PC := (.loop (.seq (.seq (.reg (om 7 6 :: oo 8 (.fa 18 (.t 2)) :: oo 9 (.ld1 (.t 8)) :: oo 10 (.len .slice (.t 9)) :: oo 11 (.bin .lss .other false (.t 7) (.t 10)) :: [])) p33_5) p33_16))
def p33_25 : PC := (.seq (.reg (oo 2 (.box (.t 0)) :: oo 4 (.new (.agg [.int .i64 0, .int .i64 0, .int .i64 0, .int .i64 0, .str [], .str [], .str []])) :: oo 5 (.mv (.c (.bool false))) :: [])) (.seq (.seq (.reg (oo 6 (.mv (.c (.int .i64 0))) :: [])) (.block 0 p33_18)) p33_23))
theorem fn33 : FnOk Tryz.prog 33 p33_25 28 [.a 4 7, .t 5] := ⟨false, Tryz.f33, _, Tryz.func33, by decide, rfl, by kernel_rfl, rfl, by kernel_rfl⟩
def L_r24_Find_1 (N : Nat) (a1 : ApiBooks) (a2 : Int) : Nat → Int → Option (Br (ApiAccount × Bool) (Unit))
  | 0, _ => none
  | m1 + 1, v1_0 =>
    bif decide (v1_0 < (a1.Accounts_.length : Int)) then
    ((getI a1.Accounts_ v1_0).bind fun y8 =>
    bif decide (y8.Id_ = a2) then
    ((getI a1.Accounts_ v1_0).bind fun y10 =>
    some (.ret (y10, true)))
    else
    ((L_r24_Find_1 N a1 a2 m1) (IntKind.wrap .i64 (v1_0 + 1))))
    else
    (some (.brk ()))
def K_r24_Find_1 (N : Nat)  : Br (ApiAccount × Bool) (Unit) → Option (ApiAccount × Bool)
  | .ret r => some r
  | .brk _ =>
    some ((⟨0, 0, 0, 0, [], [], []⟩ : ApiAccount), false)
def F_r24_Find  (N : Nat) (a1 : ApiBooks) (a2 : Int) : Option (ApiAccount × Bool) :=
      (L_r24_Find_1 N a1 a2 N 0).bind (K_r24_Find_1 N)
theorem P_r24_Find  {N : Nat} {a1 : ApiBooks} {a2 : Int} {r : ApiAccount × Bool} (h : F_r24_Find N a1 a2 = some r) : Pure Tryz.prog (Gl.at 0) 33 [(ApiBooks.v a1), (i64 a2)] (.tup [(ApiAccount.v r.1), (.bool r.2)]) := by
  refine pure_run fn33 ?_
  rw [F_r24_Find] at h
  replace h := bs h
  change GG [.a 4 7, .t 5] _ [.pc p33_25] (mk 28 [(0, (ApiBooks.v a1)), (1, (i64 a2))]) []
  refine gx mo [.pc p33_18, .blk 0, .pc p33_23] 28 [(1, (i64 a2)), (2, (.ref 0 0 0)), (4, (.ref 1 0 0)), (6, (i64 0))] [.row 22 [(ApiBooks.v a1)], .row 7 [(.agg [(i64 0), (i64 0), (i64 0), (i64 0), (.str []), (.str []), (.str [])])]] 12 [] ?_
  refine go_cut (X := Unit) (fun x => (K_r24_Find_1 N (.brk x)).bind some = some r) ([.pc p33_23]) (fun x => (mk 28 [(4, (.ref 0 0 0))])) (fun x => [.row 7 [(.agg [(i64 0), (i64 0), (i64 0), (i64 0), (.str []), (.str []), (.str [])])]]) ?_ fun kont1_0 => ?_
  · rintro _ h
    rw [K_r24_Find_1] at h
    refine gx mo [.pc p33_22] 28 [(4, (.ref 0 0 0)), (5, (.bool false))] [.row 7 [(.agg [(i64 0), (i64 0), (i64 0), (i64 0), (.str []), (.str []), (.str [])])]] 6 [] ?_
    obtain rfl := Option.some.inj h
    exact gf (.tup [(.agg [(i64 0), (i64 0), (i64 0), (i64 0), (.str []), (.str []), (.str [])]), (.bool false)]) (f_tupl (fg (fs fl_nil)))
  refine go_loop' (fun m t s => ∃ (v1_0 : Int), (L_r24_Find_1 N a1 a2 m v1_0).bind (fun q => (K_r24_Find_1 N q).bind some) = some r ∧ t = (mk 28 [(1, (i64 a2)), (2, (.ref 0 0 0)), (4, (.ref 1 0 0)), (6, (i64 v1_0))]) ∧ s = [.row 22 [(ApiBooks.v a1)], .row 7 [(.agg [(i64 0), (i64 0), (i64 0), (i64 0), (.str []), (.str []), (.str [])])]]) N ⟨0, go_assoc h, rfl, rfl⟩ ?_
  intro m1 J1 hJ1 t s
  rintro ⟨v1_0, h, rfl, rfl⟩
  cases m1 with
  | zero => exact absurd h (by simp [L_r24_Find_1])
  | succ m1 =>
    rw [L_r24_Find_1] at h
    refine gx mo [.pc p33_5, .pc p33_16, .jp J1, .blk 0, .pc p33_23] 28 [(1, (i64 a2)), (2, (.ref 0 0 0)), (4, (.ref 1 0 0)), (6, (i64 v1_0)), (11, (.bool (decide (v1_0 < (a1.Accounts_.length : Int)))))] [.row 22 [(ApiBooks.v a1)], .row 7 [(.agg [(i64 0), (i64 0), (i64 0), (i64 0), (.str []), (.str []), (.str [])])]] 9 [tw 3 (E_len [.row 22 [(ApiBooks.v a1)], .row 7 [(.agg [(i64 0), (i64 0), (i64 0), (i64 0), (.str []), (.str []), (.str [])])]] a1.Accounts_ ApiAccount.v)] ?_
    refine go_if h (fun hb7 h => ?_) (fun hb7 h => ?_)
    · rw [hb7]
      refine go_bind h (fun y8 hy8 h => ?_)
      refine gx mo [.pc p33_12, .blk 1, .pc p33_15, .jp J1, .blk 0, .pc p33_23] 28 [(1, (i64 a2)), (2, (.ref 0 0 0)), (4, (.ref 1 0 0)), (6, (i64 v1_0)), (21, (.bool (decide (y8.Id_ = a2))))] [.row 22 [(ApiBooks.v a1)], .row 7 [(.agg [(i64 0), (i64 0), (i64 0), (i64 0), (.str []), (.str []), (.str [])])]] 15 [tw 4 (E_ia [.row 22 [(ApiBooks.v a1)], .row 7 [(.agg [(i64 0), (i64 0), (i64 0), (i64 0), (.str []), (.str []), (.str [])])]] ApiAccount.v .i64 hy8)] ?_
      refine go_if h (fun hb9 h => ?_) (fun hb9 h => ?_)
      · rw [hb9]
        refine go_bind h (fun y10 hy10 h => ?_)
        refine gx mo [.pc p33_9, .blk 1, .pc p33_15, .jp J1, .blk 0, .pc p33_23] 28 [(4, (.ref 1 0 0)), (5, (.bool true))] [.row 22 [(ApiBooks.v a1)], .row 7 [(ApiAccount.v y10)]] 11 [tw 4 (E_ia [.row 22 [(ApiBooks.v a1)], .row 7 [(.agg [(i64 0), (i64 0), (i64 0), (i64 0), (.str []), (.str []), (.str [])])]] ApiAccount.v .i64 hy10)] ?_
        obtain rfl := Option.some.inj h
        exact gf (.tup [(ApiAccount.v y10), (.bool true)]) (f_tupl (fg (fs fl_nil)))
      · rw [hb9]
        refine gx mo [.jp J1, .blk 0, .pc p33_23] 28 [(1, (i64 a2)), (2, (.ref 0 0 0)), (4, (.ref 1 0 0)), (6, (i64 (IntKind.wrap .i64 (v1_0 + 1))))] [.row 22 [(ApiBooks.v a1)], .row 7 [(.agg [(i64 0), (i64 0), (i64 0), (i64 0), (.str []), (.str []), (.str [])])]] 8 [] ?_
        exact go_back rfl (hJ1 m1 _ _ (Nat.lt_succ_self m1) ⟨IntKind.wrap .i64 (v1_0 + 1), h, rfl, rfl⟩)
    · rw [hb7]
      refine gx mo [.pc p33_23] 28 [(4, (.ref 1 0 0))] [.row 22 [(ApiBooks.v a1)], .row 7 [(.agg [(i64 0), (i64 0), (i64 0), (i64 0), (.str []), (.str []), (.str [])])]] 2 [] ?_
      refine go_pick [1] [] [(4, 0)] (t' := (mk 28 [(4, (.ref 0 0 0))])) (s' := [.row 7 [(.agg [(i64 0), (i64 0), (i64 0), (i64 0), (.str []), (.str []), (.str [])])]]) (by kernel_rfl) ⟨clo_one rfl, trivial⟩ rfl ?_
      exact kont1_0 () h
/-! corebank/corebankref17.At -/
def p67_28 : PC := .ret
def p67_29 : PC := (.seq (.reg (om 53 0 :: om 54 8 :: oo 55 (.ia 19 (.t 53) (.t 54)) :: oo 56 (.ldA 19 (.t 55)) :: on_ (.st 19 (.t 6) (.t 56)) :: oo 7 (.mv (.c (.bool true))) :: [])) p67_28)
def p67_22 : PC := .ret
def p67_25 : PC := (.cond (.t 51) (.seq (.reg (oo 52 (.build [.str [], .str [], .str [], .int .i64 0, .int .i64 0, .int .i64 0, .int .i64 0, .nils, .bool false, .int .i64 0, .int .i64 0, .bool false, .nils, .bool false, .int .i64 0, .int .i64 0, .bool false, .nils, .nils] []) :: on_ (.st 19 (.t 6) (.t 52)) :: oo 7 (.mv (.c (.bool false))) :: [])) p67_22) .skip)
def p67_30 : PC := (.seq (.seq (.reg (om 50 8 :: oo 51 (.bin .lss .other true (.t 50) (.c (.int .i64 0))) :: [])) p67_25) p67_29)
def p67_14 : PC := (.reg (om 14 9 :: oo 15 (.bin .add .other true (.t 14) (.c (.int .i64 1))) :: om 9 15 :: []))
def p67_11 : PC := (.cond (.t 48) (.reg (om 49 9 :: om 8 49 :: [])) .skip)
def p67_15 : PC := (.seq (.block 1 (.seq (.drawn (om 16 0 :: om 17 9 :: oo 18 (.ia 19 (.t 16) (.t 17)) :: oo 19 (.fa 0 (.t 18)) :: oo 20 (.ld1 (.t 19)) :: om 21 1 :: oo 22 (.bin .eql .other false (.t 20) (.t 21)) :: om 23 22 :: ⟨some 24, .op (.mv (.t 0)), some (23, true)⟩ :: ⟨some 25, .op (.mv (.t 9)), some (23, true)⟩ :: ⟨some 26, .op (.ia 19 (.t 24) (.t 25)), some (23, true)⟩ :: ⟨some 27, .op (.fa 3 (.t 26)), some (23, true)⟩ :: ⟨some 28, .op (.ld1 (.t 27)), some (23, true)⟩ :: ⟨some 29, .op (.mv (.t 2)), some (23, true)⟩ :: ⟨some 30, .op (.bin .leq .other false (.t 28) (.t 29)), some (23, true)⟩ :: oo 31 (.pick (.t 23) (.t 30) (.c (.bool false))) :: om 32 31 :: ⟨some 33, .op (.mv (.t 8)), some (32, true)⟩ :: ⟨some 34, .op (.bin .lss .other true (.t 33) (.c (.int .i64 0))), some (32, true)⟩ :: ⟨some 35, .op (.mv (.t 34)), some (32, true)⟩ :: ⟨some 36, .op (.mv (.t 0)), some (35, false)⟩ :: ⟨some 37, .op (.mv (.t 9)), some (35, false)⟩ :: ⟨some 38, .op (.ia 19 (.t 36) (.t 37)), some (35, false)⟩ :: ⟨some 39, .op (.fa 3 (.t 38)), some (35, false)⟩ :: ⟨some 40, .op (.ld1 (.t 39)), some (35, false)⟩ :: ⟨some 41, .op (.mv (.t 0)), some (35, false)⟩ :: ⟨some 42, .op (.mv (.t 8)), some (35, false)⟩ :: ⟨some 43, .op (.ia 19 (.t 41) (.t 42)), some (35, false)⟩ :: ⟨some 44, .op (.fa 3 (.t 43)), some (35, false)⟩ :: ⟨some 45, .op (.ld1 (.t 44)), some (35, false)⟩ :: ⟨some 46, .op (.bin .gtr .other false (.t 40) (.t 45)), some (35, false)⟩ :: ⟨some 47, .op (.pick (.t 35) (.c (.bool true)) (.t 46)), some (32, true)⟩ :: oo 48 (.pick (.t 32) (.t 47) (.c (.bool false))) :: []) [[], [], [0, 1], [2], [3], [], [4, 5], [6], [7], [7], [8, 9, 7], [10, 7], [11, 7], [7], [12, 13, 7], [7, 14], [15, 7], [16], [17, 16], [18, 16, 16], [19], [19], [20, 21, 19], [22, 19], [23, 19], [19], [19], [25, 26, 19], [27, 19], [28, 19], [24, 29, 19], [19, 30, 16], [16, 31]]) p67_11)) p67_14)
def p67_6 : PC := (.cond (.t 13) .skip (.exit 0))
def p67_17 : PC := (.loop (.seq (.seq (.reg (om 10 9 :: om 11 0 :: oo 12 (.len .slice (.t 11)) :: oo 13 (.bin .lss .other false (.t 10) (.t 12)) :: [])) p67_6) p67_15))
def p67_33 : PC := (.seq (.reg (oo 6 (.new (.agg [.str [], .str [], .str [], .int .i64 0, .int .i64 0, .int .i64 0, .int .i64 0, .nils, .bool false, .int .i64 0, .int .i64 0, .bool false, .nils, .bool false, .int .i64 0, .int .i64 0, .bool false, .nils, .nils])) :: oo 7 (.mv (.c (.bool false))) :: [])) (.seq (.reg (oo 8 (.mv (.c (.int .i64 (-1)))) :: [])) (.seq (.seq (.reg (oo 9 (.mv (.c (.int .i64 0))) :: [])) (.block 0 p67_17)) p67_30)))
theorem fn67 : FnOk Tryz.prog 67 p67_33 57 [.a 6 19, .t 7] := ⟨false, Tryz.f67, _, Tryz.func67, by decide, rfl, by kernel_rfl, rfl, by kernel_rfl⟩
def L_r17_At_1 (N : Nat) (a1 : List ApiProduct) (a2 : List UInt8) (a3 : Int) : Nat → Int → Int → Option (Int)
  | 0, _, _ => none
  | m1 + 1, v1_0, v1_1 =>
    bif decide (v1_1 < (a1.length : Int)) then
    ((getI a1 v1_1).bind fun y16 =>
    bif y16.Name_ == a2 then
    ((getI a1 v1_1).bind fun y18 =>
    bif decide (y18.From_ ≤ a3) then
    (bif decide (v1_0 < 0) then
    ((L_r17_At_1 N a1 a2 a3 m1) v1_1 (IntKind.wrap .i64 (v1_1 + 1)))
    else
    ((getI a1 v1_1).bind fun y21 =>
    (getI a1 v1_0).bind fun y22 =>
    bif decide (y22.From_ < y21.From_) then
    ((L_r17_At_1 N a1 a2 a3 m1) v1_1 (IntKind.wrap .i64 (v1_1 + 1)))
    else
    ((L_r17_At_1 N a1 a2 a3 m1) v1_0 (IntKind.wrap .i64 (v1_1 + 1)))))
    else
    ((L_r17_At_1 N a1 a2 a3 m1) v1_0 (IntKind.wrap .i64 (v1_1 + 1))))
    else
    ((L_r17_At_1 N a1 a2 a3 m1) v1_0 (IntKind.wrap .i64 (v1_1 + 1))))
    else
    (some v1_0)
def K_r17_At_1 (N : Nat) (a1 : List ApiProduct) : (Int) → Option (ApiProduct × Bool)
  | x1_0 =>
    bif decide (x1_0 < 0) then
    (some ((⟨[], [], [], 0, 0, 0, 0, ⟨[], false, 0, 0, false⟩, ⟨[], false, 0, 0, false⟩, [], []⟩ : ApiProduct), false))
    else
    ((getI a1 x1_0).bind fun y14 =>
    some (y14, true))
def F_r17_At  (N : Nat) (a1 : List ApiProduct) (a2 : List UInt8) (a3 : Int) : Option (ApiProduct × Bool) :=
      (L_r17_At_1 N a1 a2 a3 N (-1) 0).bind (K_r17_At_1 N a1)
theorem P_r17_At  {N : Nat} {a1 : List ApiProduct} {a2 : List UInt8} {a3 : Int} {r : ApiProduct × Bool} (h : F_r17_At N a1 a2 a3 = some r) : Pure Tryz.prog (Gl.at 0) 67 [(.sl (a1.map ApiProduct.v)), (.str a2), (i64 a3)] (.tup [(ApiProduct.v r.1), (.bool r.2)]) := by
  refine pure_run fn67 ?_
  rw [F_r17_At] at h
  replace h := bs h
  change GG [.a 6 19, .t 7] _ [.pc p67_33] (mk 57 [(0, (.sl (a1.map ApiProduct.v))), (1, (.str a2)), (2, (i64 a3))]) []
  refine gx mo [.pc p67_17, .blk 0, .pc p67_30] 57 [(0, (.sl (a1.map ApiProduct.v))), (1, (.str a2)), (2, (i64 a3)), (6, (.ref 0 0 0)), (8, (i64 (-1))), (9, (i64 0))] [.row 19 [(.agg [(.str []), (.str []), (.str []), (i64 0), (i64 0), (i64 0), (i64 0), .nils, (.bool false), (i64 0), (i64 0), (.bool false), .nils, (.bool false), (i64 0), (i64 0), (.bool false), .nils, .nils])]] 15 [] ?_
  refine go_cut (X := Int) (fun x => (K_r17_At_1 N a1 x).bind some = some r) ([.pc p67_30]) (fun x => (mk 57 [(0, (.sl (a1.map ApiProduct.v))), (6, (.ref 0 0 0)), (8, (i64 x))])) (fun x => [.row 19 [(.agg [(.str []), (.str []), (.str []), (i64 0), (i64 0), (i64 0), (i64 0), .nils, (.bool false), (i64 0), (i64 0), (.bool false), .nils, (.bool false), (i64 0), (i64 0), (.bool false), .nils, .nils])]]) ?_ fun kont1_0 => ?_
  · rintro x1_0 h
    rw [K_r17_At_1] at h
    refine gx mo [.pc p67_25, .pc p67_29] 57 [(0, (.sl (a1.map ApiProduct.v))), (6, (.ref 0 0 0)), (8, (i64 x1_0)), (51, (.bool (decide (x1_0 < 0))))] [.row 19 [(.agg [(.str []), (.str []), (.str []), (i64 0), (i64 0), (i64 0), (i64 0), .nils, (.bool false), (i64 0), (i64 0), (.bool false), .nils, (.bool false), (i64 0), (i64 0), (.bool false), .nils, .nils])]] 6 [] ?_
    refine go_if h (fun hb13 h => ?_) (fun hb13 h => ?_)
    · rw [hb13]
      refine gx mo [.pc p67_22, .pc p67_29] 57 [(6, (.ref 0 0 0)), (7, (.bool false))] [.row 19 [(.agg [(.str []), (.str []), (.str []), (i64 0), (i64 0), (i64 0), (i64 0), .nils, (.bool false), (i64 0), (i64 0), (.bool false), .nils, (.bool false), (i64 0), (i64 0), (.bool false), .nils, .nils])]] 7 [] ?_
      obtain rfl := Option.some.inj h
      exact gf (.tup [(.agg [(.str []), (.str []), (.str []), (i64 0), (i64 0), (i64 0), (i64 0), .nils, (.bool false), (i64 0), (i64 0), (.bool false), .nils, (.bool false), (i64 0), (i64 0), (.bool false), .nils, .nils]), (.bool false)]) (f_tupl (fl_cons (f_aggl (fs (fs (fs (fs (fs (fs (fs (fl_cons .nil0 (fs (fs (fs (fs (fl_cons .nil0 (fs (fs (fs (fs (fl_cons .nil0 (fl_cons .nil0 fl_nil)))))))))))))))))))) (fs fl_nil)))
    · rw [hb13]
      refine go_bind h (fun y14 hy14 h => ?_)
      refine gx mo [.pc p67_28] 57 [(6, (.ref 0 0 0)), (7, (.bool true))] [.row 19 [(ApiProduct.v y14)]] 11 [tw 3 (E_ia [.row 19 [(.agg [(.str []), (.str []), (.str []), (i64 0), (i64 0), (i64 0), (i64 0), .nils, (.bool false), (i64 0), (i64 0), (.bool false), .nils, (.bool false), (i64 0), (i64 0), (.bool false), .nils, .nils])]] ApiProduct.v .i64 hy14)] ?_
      obtain rfl := Option.some.inj h
      exact gf (.tup [(ApiProduct.v y14), (.bool true)]) (f_tupl (fg (fs fl_nil)))
  refine go_loop' (fun m t s => ∃ (v1_0 : Int) (v1_1 : Int), (L_r17_At_1 N a1 a2 a3 m v1_0 v1_1).bind (fun q => (K_r17_At_1 N a1 q).bind some) = some r ∧ t = (mk 57 [(0, (.sl (a1.map ApiProduct.v))), (1, (.str a2)), (2, (i64 a3)), (6, (.ref 0 0 0)), (8, (i64 v1_0)), (9, (i64 v1_1))]) ∧ s = [.row 19 [(.agg [(.str []), (.str []), (.str []), (i64 0), (i64 0), (i64 0), (i64 0), .nils, (.bool false), (i64 0), (i64 0), (.bool false), .nils, (.bool false), (i64 0), (i64 0), (.bool false), .nils, .nils])]]) N ⟨(-1), 0, go_assoc h, rfl, rfl⟩ ?_
  intro m1 J1 hJ1 t s
  rintro ⟨v1_0, v1_1, h, rfl, rfl⟩
  cases m1 with
  | zero => exact absurd h (by simp [L_r17_At_1])
  | succ m1 =>
    rw [L_r17_At_1] at h
    refine gx mo [.pc p67_6, .pc p67_15, .jp J1, .blk 0, .pc p67_30] 57 [(0, (.sl (a1.map ApiProduct.v))), (1, (.str a2)), (2, (i64 a3)), (6, (.ref 0 0 0)), (8, (i64 v1_0)), (9, (i64 v1_1)), (13, (.bool (decide (v1_1 < (a1.length : Int)))))] [.row 19 [(.agg [(.str []), (.str []), (.str []), (i64 0), (i64 0), (i64 0), (i64 0), .nils, (.bool false), (i64 0), (i64 0), (.bool false), .nils, (.bool false), (i64 0), (i64 0), (.bool false), .nils, .nils])]] 8 [tw 2 (E_len [.row 19 [(.agg [(.str []), (.str []), (.str []), (i64 0), (i64 0), (i64 0), (i64 0), .nils, (.bool false), (i64 0), (i64 0), (.bool false), .nils, (.bool false), (i64 0), (i64 0), (.bool false), .nils, .nils])]] a1 ApiProduct.v)] ?_
    refine go_if h (fun hb15 h => ?_) (fun hb15 h => ?_)
    · rw [hb15]
      refine go_bind h (fun y16 hy16 h => ?_)
      refine go_if h (fun hb17 h => ?_) (fun hb17 h => ?_)
      · refine go_bind h (fun y18 hy18 h => ?_)
        refine go_if h (fun hb19 h => ?_) (fun hb19 h => ?_)
        · refine go_if h (fun hb20 h => ?_) (fun hb20 h => ?_)
          · refine gx mo [.jp J1, .blk 0, .pc p67_30] 57 [(0, (.sl (a1.map ApiProduct.v))), (1, (.str a2)), (2, (i64 a3)), (6, (.ref 0 0 0)), (8, (i64 v1_1)), (9, (i64 (IntKind.wrap .i64 (v1_1 + 1))))] [.row 19 [(.agg [(.str []), (.str []), (.str []), (i64 0), (i64 0), (i64 0), (i64 0), .nils, (.bool false), (i64 0), (i64 0), (.bool false), .nils, (.bool false), (i64 0), (i64 0), (.bool false), .nils, .nils])]] 17 [tg 3 (E_ia [.row 19 [(.agg [(.str []), (.str []), (.str []), (i64 0), (i64 0), (i64 0), (i64 0), .nils, (.bool false), (i64 0), (i64 0), (.bool false), .nils, (.bool false), (i64 0), (i64 0), (.bool false), .nils, .nils])]] ApiProduct.v .i64 hy16), tgb 7 [.row 19 [(.agg [(.str []), (.str []), (.str []), (i64 0), (i64 0), (i64 0), (i64 0), .nils, (.bool false), (i64 0), (i64 0), (.bool false), .nils, (.bool false), (i64 0), (i64 0), (.bool false), .nils, .nils])]] (.bin .eql .other false (.c (.str y16.Name_)) (.c (.str a2))) (y16.Name_ == a2) true hb17, tg 11 (E_ia [.row 19 [(.agg [(.str []), (.str []), (.str []), (i64 0), (i64 0), (i64 0), (i64 0), .nils, (.bool false), (i64 0), (i64 0), (.bool false), .nils, (.bool false), (i64 0), (i64 0), (.bool false), .nils, .nils])]] ApiProduct.v .i64 hy18), tgb 16 [.row 19 [(.agg [(.str []), (.str []), (.str []), (i64 0), (i64 0), (i64 0), (i64 0), .nils, (.bool false), (i64 0), (i64 0), (.bool false), .nils, (.bool false), (i64 0), (i64 0), (.bool false), .nils, .nils])]] (.pick (.c (.bool true)) (.c (.bool (decide (y18.From_ ≤ a3)))) (.c (.bool false))) (decide (y18.From_ ≤ a3)) true hb19, tgb 19 [.row 19 [(.agg [(.str []), (.str []), (.str []), (i64 0), (i64 0), (i64 0), (i64 0), .nils, (.bool false), (i64 0), (i64 0), (.bool false), .nils, (.bool false), (i64 0), (i64 0), (.bool false), .nils, .nils])]] (.bin .lss .other true (.c (i64 v1_0)) (.c (i64 0))) (decide (v1_0 < 0)) true hb20] ?_
            exact go_back rfl (hJ1 m1 _ _ (Nat.lt_succ_self m1) ⟨v1_1, IntKind.wrap .i64 (v1_1 + 1), h, rfl, rfl⟩)
          · refine go_bind h (fun y21 hy21 h => ?_)
            refine go_bind h (fun y22 hy22 h => ?_)
            refine gx mo [.pc p67_11, .blk 1, .pc p67_14, .jp J1, .blk 0, .pc p67_30] 57 [(0, (.sl (a1.map ApiProduct.v))), (1, (.str a2)), (2, (i64 a3)), (6, (.ref 0 0 0)), (8, (i64 v1_0)), (9, (i64 v1_1)), (48, (.bool (decide (y22.From_ < y21.From_))))] [.row 19 [(.agg [(.str []), (.str []), (.str []), (i64 0), (i64 0), (i64 0), (i64 0), .nils, (.bool false), (i64 0), (i64 0), (.bool false), .nils, (.bool false), (i64 0), (i64 0), (.bool false), .nils, .nils])]] 6 [tg 3 (E_ia [.row 19 [(.agg [(.str []), (.str []), (.str []), (i64 0), (i64 0), (i64 0), (i64 0), .nils, (.bool false), (i64 0), (i64 0), (.bool false), .nils, (.bool false), (i64 0), (i64 0), (.bool false), .nils, .nils])]] ApiProduct.v .i64 hy16), tgb 7 [.row 19 [(.agg [(.str []), (.str []), (.str []), (i64 0), (i64 0), (i64 0), (i64 0), .nils, (.bool false), (i64 0), (i64 0), (.bool false), .nils, (.bool false), (i64 0), (i64 0), (.bool false), .nils, .nils])]] (.bin .eql .other false (.c (.str y16.Name_)) (.c (.str a2))) (y16.Name_ == a2) true hb17, tg 11 (E_ia [.row 19 [(.agg [(.str []), (.str []), (.str []), (i64 0), (i64 0), (i64 0), (i64 0), .nils, (.bool false), (i64 0), (i64 0), (.bool false), .nils, (.bool false), (i64 0), (i64 0), (.bool false), .nils, .nils])]] ApiProduct.v .i64 hy18), tgb 16 [.row 19 [(.agg [(.str []), (.str []), (.str []), (i64 0), (i64 0), (i64 0), (i64 0), .nils, (.bool false), (i64 0), (i64 0), (.bool false), .nils, (.bool false), (i64 0), (i64 0), (.bool false), .nils, .nils])]] (.pick (.c (.bool true)) (.c (.bool (decide (y18.From_ ≤ a3)))) (.c (.bool false))) (decide (y18.From_ ≤ a3)) true hb19, tgb 19 [.row 19 [(.agg [(.str []), (.str []), (.str []), (i64 0), (i64 0), (i64 0), (i64 0), .nils, (.bool false), (i64 0), (i64 0), (.bool false), .nils, (.bool false), (i64 0), (i64 0), (.bool false), .nils, .nils])]] (.bin .lss .other true (.c (i64 v1_0)) (.c (i64 0))) (decide (v1_0 < 0)) false hb20, tg 23 (E_ia [.row 19 [(.agg [(.str []), (.str []), (.str []), (i64 0), (i64 0), (i64 0), (i64 0), .nils, (.bool false), (i64 0), (i64 0), (.bool false), .nils, (.bool false), (i64 0), (i64 0), (.bool false), .nils, .nils])]] ApiProduct.v .i64 hy21), tg 28 (E_ia [.row 19 [(.agg [(.str []), (.str []), (.str []), (i64 0), (i64 0), (i64 0), (i64 0), .nils, (.bool false), (i64 0), (i64 0), (.bool false), .nils, (.bool false), (i64 0), (i64 0), (.bool false), .nils, .nils])]] ApiProduct.v .i64 hy22)] ?_
            refine go_if h (fun hb23 h => ?_) (fun hb23 h => ?_)
            · rw [hb23]
              refine gx mo [.jp J1, .blk 0, .pc p67_30] 57 [(0, (.sl (a1.map ApiProduct.v))), (1, (.str a2)), (2, (i64 a3)), (6, (.ref 0 0 0)), (8, (i64 v1_1)), (9, (i64 (IntKind.wrap .i64 (v1_1 + 1))))] [.row 19 [(.agg [(.str []), (.str []), (.str []), (i64 0), (i64 0), (i64 0), (i64 0), .nils, (.bool false), (i64 0), (i64 0), (.bool false), .nils, (.bool false), (i64 0), (i64 0), (.bool false), .nils, .nils])]] 11 [] ?_
              exact go_back rfl (hJ1 m1 _ _ (Nat.lt_succ_self m1) ⟨v1_1, IntKind.wrap .i64 (v1_1 + 1), h, rfl, rfl⟩)
            · rw [hb23]
              refine gx mo [.jp J1, .blk 0, .pc p67_30] 57 [(0, (.sl (a1.map ApiProduct.v))), (1, (.str a2)), (2, (i64 a3)), (6, (.ref 0 0 0)), (8, (i64 v1_0)), (9, (i64 (IntKind.wrap .i64 (v1_1 + 1))))] [.row 19 [(.agg [(.str []), (.str []), (.str []), (i64 0), (i64 0), (i64 0), (i64 0), .nils, (.bool false), (i64 0), (i64 0), (.bool false), .nils, (.bool false), (i64 0), (i64 0), (.bool false), .nils, .nils])]] 8 [] ?_
              exact go_back rfl (hJ1 m1 _ _ (Nat.lt_succ_self m1) ⟨v1_0, IntKind.wrap .i64 (v1_1 + 1), h, rfl, rfl⟩)
        · refine gx mo [.jp J1, .blk 0, .pc p67_30] 57 [(0, (.sl (a1.map ApiProduct.v))), (1, (.str a2)), (2, (i64 a3)), (6, (.ref 0 0 0)), (8, (i64 v1_0)), (9, (i64 (IntKind.wrap .i64 (v1_1 + 1))))] [.row 19 [(.agg [(.str []), (.str []), (.str []), (i64 0), (i64 0), (i64 0), (i64 0), .nils, (.bool false), (i64 0), (i64 0), (.bool false), .nils, (.bool false), (i64 0), (i64 0), (.bool false), .nils, .nils])]] 14 [tg 3 (E_ia [.row 19 [(.agg [(.str []), (.str []), (.str []), (i64 0), (i64 0), (i64 0), (i64 0), .nils, (.bool false), (i64 0), (i64 0), (.bool false), .nils, (.bool false), (i64 0), (i64 0), (.bool false), .nils, .nils])]] ApiProduct.v .i64 hy16), tgb 7 [.row 19 [(.agg [(.str []), (.str []), (.str []), (i64 0), (i64 0), (i64 0), (i64 0), .nils, (.bool false), (i64 0), (i64 0), (.bool false), .nils, (.bool false), (i64 0), (i64 0), (.bool false), .nils, .nils])]] (.bin .eql .other false (.c (.str y16.Name_)) (.c (.str a2))) (y16.Name_ == a2) true hb17, tg 11 (E_ia [.row 19 [(.agg [(.str []), (.str []), (.str []), (i64 0), (i64 0), (i64 0), (i64 0), .nils, (.bool false), (i64 0), (i64 0), (.bool false), .nils, (.bool false), (i64 0), (i64 0), (.bool false), .nils, .nils])]] ApiProduct.v .i64 hy18), tgb 16 [.row 19 [(.agg [(.str []), (.str []), (.str []), (i64 0), (i64 0), (i64 0), (i64 0), .nils, (.bool false), (i64 0), (i64 0), (.bool false), .nils, (.bool false), (i64 0), (i64 0), (.bool false), .nils, .nils])]] (.pick (.c (.bool true)) (.c (.bool (decide (y18.From_ ≤ a3)))) (.c (.bool false))) (decide (y18.From_ ≤ a3)) false hb19] ?_
          exact go_back rfl (hJ1 m1 _ _ (Nat.lt_succ_self m1) ⟨v1_0, IntKind.wrap .i64 (v1_1 + 1), h, rfl, rfl⟩)
      · refine gx mo [.jp J1, .blk 0, .pc p67_30] 57 [(0, (.sl (a1.map ApiProduct.v))), (1, (.str a2)), (2, (i64 a3)), (6, (.ref 0 0 0)), (8, (i64 v1_0)), (9, (i64 (IntKind.wrap .i64 (v1_1 + 1))))] [.row 19 [(.agg [(.str []), (.str []), (.str []), (i64 0), (i64 0), (i64 0), (i64 0), .nils, (.bool false), (i64 0), (i64 0), (.bool false), .nils, (.bool false), (i64 0), (i64 0), (.bool false), .nils, .nils])]] 14 [tg 3 (E_ia [.row 19 [(.agg [(.str []), (.str []), (.str []), (i64 0), (i64 0), (i64 0), (i64 0), .nils, (.bool false), (i64 0), (i64 0), (.bool false), .nils, (.bool false), (i64 0), (i64 0), (.bool false), .nils, .nils])]] ApiProduct.v .i64 hy16), tgb 7 [.row 19 [(.agg [(.str []), (.str []), (.str []), (i64 0), (i64 0), (i64 0), (i64 0), .nils, (.bool false), (i64 0), (i64 0), (.bool false), .nils, (.bool false), (i64 0), (i64 0), (.bool false), .nils, .nils])]] (.bin .eql .other false (.c (.str y16.Name_)) (.c (.str a2))) (y16.Name_ == a2) false hb17] ?_
        exact go_back rfl (hJ1 m1 _ _ (Nat.lt_succ_self m1) ⟨v1_0, IntKind.wrap .i64 (v1_1 + 1), h, rfl, rfl⟩)
    · rw [hb15]
      refine gx mo [.pc p67_30] 57 [(0, (.sl (a1.map ApiProduct.v))), (6, (.ref 0 0 0)), (8, (i64 v1_0))] [.row 19 [(.agg [(.str []), (.str []), (.str []), (i64 0), (i64 0), (i64 0), (i64 0), .nils, (.bool false), (i64 0), (i64 0), (.bool false), .nils, (.bool false), (i64 0), (i64 0), (.bool false), .nils, .nils])]] 2 [] ?_
      exact kont1_0 v1_0 h
/-! corebank/corebankref24.Product -/
def p44_10 : PC := .ret
def p44_11 : PC := (.seq (.reg (oo 19 (.fa 17 (.t 3)) :: oo 20 (.ld1 (.t 19)) :: oo 21 (.fa 5 (.t 8)) :: oo 22 (.ld1 (.t 21)) :: om 23 2 :: ⟨some 24, .call 67 [.t 20, .t 22, .t 23], none⟩ :: oo 25 (.ext 0 (.t 24)) :: oo 26 (.ext 1 (.t 24)) :: on_ (.st 19 (.t 6) (.t 25)) :: om 7 26 :: [])) p44_10)
def p44_4 : PC := .ret
def p44_7 : PC := (.cond (.t 17) (.seq (.reg (oo 18 (.build [.str [], .str [], .str [], .int .i64 0, .int .i64 0, .int .i64 0, .int .i64 0, .nils, .bool false, .int .i64 0, .int .i64 0, .bool false, .nils, .bool false, .int .i64 0, .int .i64 0, .bool false, .nils, .nils] []) :: on_ (.st 19 (.t 6) (.t 18)) :: oo 7 (.mv (.c (.bool false))) :: [])) p44_4) .skip)
def p44_14 : PC := (.seq (.reg (oo 3 (.box (.t 0)) :: oo 6 (.new (.agg [.str [], .str [], .str [], .int .i64 0, .int .i64 0, .int .i64 0, .int .i64 0, .nils, .bool false, .int .i64 0, .int .i64 0, .bool false, .nils, .bool false, .int .i64 0, .int .i64 0, .bool false, .nils, .nils])) :: oo 7 (.mv (.c (.bool false))) :: [])) (.seq (.reg (oo 11 (.ldA 22 (.t 3)) :: om 12 1 :: ⟨some 13, .call 33 [.t 11, .t 12], none⟩ :: om 10 13 :: oo 14 (.ext 0 (.t 10)) :: oo 15 (.ext 1 (.t 10)) :: oo 8 (.new (.agg [.int .i64 0, .int .i64 0, .int .i64 0, .int .i64 0, .str [], .str [], .str []])) :: on_ (.st 7 (.t 8) (.t 14)) :: om 9 15 :: [])) (.seq (.seq (.reg (om 16 9 :: oo 17 (.un .not (.t 16)) :: [])) p44_7) p44_11)))
theorem fn44 : FnOk Tryz.prog 44 p44_14 27 [.a 6 19, .t 7] := ⟨false, Tryz.f44, _, Tryz.func44, by decide, rfl, by kernel_rfl, rfl, by kernel_rfl⟩
def F_r24_Product  (N : Nat) (a1 : ApiBooks) (a2 : Int) (a3 : Int) : Option (ApiProduct × Bool) :=
      (F_r24_Find N a1 a2).bind fun r4 =>
    bif !r4.2 then
    (some ((⟨[], [], [], 0, 0, 0, 0, ⟨[], false, 0, 0, false⟩, ⟨[], false, 0, 0, false⟩, [], []⟩ : ApiProduct), false))
    else
    ((F_r17_At N a1.Products_ r4.1.Product_ a3).bind fun r6 =>
    some (r6.1, r6.2))
theorem P_r24_Product  {N : Nat} {a1 : ApiBooks} {a2 : Int} {a3 : Int} {r : ApiProduct × Bool} (h : F_r24_Product N a1 a2 a3 = some r) : Pure Tryz.prog (Gl.at 0) 44 [(ApiBooks.v a1), (i64 a2), (i64 a3)] (.tup [(ApiProduct.v r.1), (.bool r.2)]) := by
  refine pure_run fn44 ?_
  rw [F_r24_Product] at h
  replace h := bs h
  change GG [.a 6 19, .t 7] _ [.pc p44_14] (mk 27 [(0, (ApiBooks.v a1)), (1, (i64 a2)), (2, (i64 a3))]) []
  refine go_bind h (fun r4 hr4 h => ?_)
  refine gx mo [.pc p44_7, .pc p44_11] 27 [(2, (i64 a3)), (3, (.ref 0 0 0)), (6, (.ref 1 0 0)), (8, (.ref 2 0 0)), (17, (.bool (!r4.2)))] [.row 22 [(ApiBooks.v a1)], .row 19 [(.agg [(.str []), (.str []), (.str []), (i64 0), (i64 0), (i64 0), (i64 0), .nils, (.bool false), (i64 0), (i64 0), (.bool false), .nils, (.bool false), (i64 0), (i64 0), (.bool false), .nils, .nils])], .row 7 [(ApiAccount.v r4.1)]] 24 [tc 5 [.row 22 [(ApiBooks.v a1)], .row 19 [(.agg [(.str []), (.str []), (.str []), (i64 0), (i64 0), (i64 0), (i64 0), .nils, (.bool false), (i64 0), (i64 0), (.bool false), .nils, (.bool false), (i64 0), (i64 0), (.bool false), .nils, .nils])]] (P_r24_Find hr4) (fg (fs fl_nil))] ?_
  refine go_if h (fun hb5 h => ?_) (fun hb5 h => ?_)
  · rw [hb5]
    refine gx mo [.pc p44_4, .pc p44_11] 27 [(6, (.ref 1 0 0)), (7, (.bool false))] [.row 22 [(ApiBooks.v a1)], .row 19 [(.agg [(.str []), (.str []), (.str []), (i64 0), (i64 0), (i64 0), (i64 0), .nils, (.bool false), (i64 0), (i64 0), (.bool false), .nils, (.bool false), (i64 0), (i64 0), (.bool false), .nils, .nils])], .row 7 [(ApiAccount.v r4.1)]] 7 [] ?_
    obtain rfl := Option.some.inj h
    exact gf (.tup [(.agg [(.str []), (.str []), (.str []), (i64 0), (i64 0), (i64 0), (i64 0), .nils, (.bool false), (i64 0), (i64 0), (.bool false), .nils, (.bool false), (i64 0), (i64 0), (.bool false), .nils, .nils]), (.bool false)]) (f_tupl (fl_cons (f_aggl (fs (fs (fs (fs (fs (fs (fs (fl_cons .nil0 (fs (fs (fs (fs (fl_cons .nil0 (fs (fs (fs (fs (fl_cons .nil0 (fl_cons .nil0 fl_nil)))))))))))))))))))) (fs fl_nil)))
  · rw [hb5]
    refine go_bind h (fun r6 hr6 h => ?_)
    refine gx mo [.pc p44_10] 27 [(6, (.ref 1 0 0)), (7, (.bool r6.2))] [.row 22 [(ApiBooks.v a1)], .row 19 [(ApiProduct.v r6.1)], .row 7 [(ApiAccount.v r4.1)]] 15 [tcc 6 [.row 22 [(ApiBooks.v a1)], .row 19 [(.agg [(.str []), (.str []), (.str []), (i64 0), (i64 0), (i64 0), (i64 0), .nils, (.bool false), (i64 0), (i64 0), (.bool false), .nils, (.bool false), (i64 0), (i64 0), (.bool false), .nils, .nils])], .row 7 [(ApiAccount.v r4.1)]] (P_r17_At hr6) (fs (fs (fs fl_nil)))] ?_
    obtain rfl := Option.some.inj h
    exact gf (.tup [(ApiProduct.v r6.1), (.bool r6.2)]) (f_tupl (fg (fs fl_nil)))
/-! corebank/corebankref25.Floor -/
def p11_11 : PC := .ret
def p11_12 : PC := (.seq (.reg (oo 31 (.fa 5 (.t 10)) :: oo 32 (.ld1 (.t 31)) :: oo 33 (.fa 3 (.t 8)) :: oo 34 (.ld1 (.t 33)) :: oo 35 (.bin .add .other false (.t 32) (.t 34)) :: oo 36 (.un .neg (.t 35)) :: om 6 36 :: oo 7 (.mv (.c (.int .i64 0))) :: [])) p11_11)
def p11_5 : PC := .ret
def p11_8 : PC := (.cond (.t 30) (.seq (.reg (oo 6 (.mv (.c (.int .i64 0))) :: oo 7 (.mv (.c (.int .i64 11))) :: [])) p11_5) .skip)
def p11_16 : PC := (.seq (.reg (oo 3 (.box (.t 0)) :: oo 6 (.mv (.c (.int .i64 0))) :: oo 7 (.mv (.c (.int .i64 0))) :: [])) (.seq (.reg (oo 13 (.ldA 22 (.t 3)) :: om 14 1 :: ⟨some 15, .call 33 [.t 13, .t 14], none⟩ :: om 12 15 :: oo 16 (.ext 0 (.t 12)) :: oo 17 (.ext 1 (.t 12)) :: oo 8 (.new (.agg [.int .i64 0, .int .i64 0, .int .i64 0, .int .i64 0, .str [], .str [], .str []])) :: on_ (.st 7 (.t 8) (.t 16)) :: om 9 17 :: [])) (.seq (.reg (oo 19 (.ldA 22 (.t 3)) :: om 20 1 :: om 21 2 :: ⟨some 22, .call 44 [.t 19, .t 20, .t 21], none⟩ :: om 18 22 :: oo 23 (.ext 0 (.t 18)) :: oo 24 (.ext 1 (.t 18)) :: oo 10 (.new (.agg [.str [], .str [], .str [], .int .i64 0, .int .i64 0, .int .i64 0, .int .i64 0, .nils, .bool false, .int .i64 0, .int .i64 0, .bool false, .nils, .bool false, .int .i64 0, .int .i64 0, .bool false, .nils, .nils])) :: on_ (.st 19 (.t 10) (.t 23)) :: om 11 24 :: [])) (.seq (.seq (.reg (om 25 9 :: oo 26 (.un .not (.t 25)) :: om 27 26 :: ⟨some 28, .op (.mv (.t 11)), some (27, false)⟩ :: ⟨some 29, .op (.un .not (.t 28)), some (27, false)⟩ :: oo 30 (.pick (.t 27) (.c (.bool true)) (.t 29)) :: [])) p11_8) p11_12))))
theorem fn11 : FnOk Tryz.prog 11 p11_16 37 [.t 6, .t 7] := ⟨false, Tryz.f11, _, Tryz.func11, by decide, rfl, by kernel_rfl, rfl, by kernel_rfl⟩
def F_r25_Floor  (N : Nat) (a1 : ApiBooks) (a2 : Int) (a3 : Int) : Option (Int × Int) :=
      (F_r24_Find N a1 a2).bind fun r4 =>
    (F_r24_Product N a1 a2 a3).bind fun r5 =>
    bif r4.2 then
    (bif !r5.2 then
    (some (0, 11))
    else
    (some (IntKind.wrap .i64 (0 - (IntKind.wrap .i64 (r5.1.Overdraft_ + r4.1.Extra_))), 0)))
    else
    (some (0, 11))
theorem P_r25_Floor  {N : Nat} {a1 : ApiBooks} {a2 : Int} {a3 : Int} {r : Int × Int} (h : F_r25_Floor N a1 a2 a3 = some r) : Pure Tryz.prog (Gl.at 0) 11 [(ApiBooks.v a1), (i64 a2), (i64 a3)] (.tup [(i64 r.1), (i64 r.2)]) := by
  refine pure_run fn11 ?_
  rw [F_r25_Floor] at h
  replace h := bs h
  change GG [.t 6, .t 7] _ [.pc p11_16] (mk 37 [(0, (ApiBooks.v a1)), (1, (i64 a2)), (2, (i64 a3))]) []
  refine go_bind h (fun r4 hr4 h => ?_)
  refine go_bind h (fun r5 hr5 h => ?_)
  refine go_if h (fun hb6 h => ?_) (fun hb6 h => ?_)
  · refine gx mo [.pc p11_8, .pc p11_12] 37 [(8, (.ref 1 0 0)), (10, (.ref 2 0 0)), (30, (.bool (!r5.2)))] [.row 22 [(ApiBooks.v a1)], .row 7 [(ApiAccount.v r4.1)], .row 19 [(ApiProduct.v r5.1)]] 41 [tc 5 [.row 22 [(ApiBooks.v a1)]] (P_r24_Find hr4) (fg (fs fl_nil)), tcc 15 [.row 22 [(ApiBooks.v a1)], .row 7 [(ApiAccount.v r4.1)]] (P_r24_Product hr5) (fg (fs (fs fl_nil))), twb 22 [.row 22 [(ApiBooks.v a1)], .row 7 [(ApiAccount.v r4.1)], .row 19 [(ApiProduct.v r5.1)]] (.mv (.c (.bool r4.2))) (r4.2) true hb6] ?_
    refine go_if h (fun hb7 h => ?_) (fun hb7 h => ?_)
    · rw [hb7]
      refine gx mo [.pc p11_5, .pc p11_12] 37 [(6, (i64 0)), (7, (i64 11))] [.row 22 [(ApiBooks.v a1)], .row 7 [(ApiAccount.v r4.1)], .row 19 [(ApiProduct.v r5.1)]] 6 [] ?_
      obtain rfl := Option.some.inj h
      exact gf (.tup [(i64 0), (i64 11)]) (f_tupl (fs (fs fl_nil)))
    · rw [hb7]
      refine gx mo [.pc p11_11] 37 [(6, (i64 (IntKind.wrap .i64 (0 - (IntKind.wrap .i64 (r5.1.Overdraft_ + r4.1.Extra_)))))), (7, (i64 0))] [.row 22 [(ApiBooks.v a1)], .row 7 [(ApiAccount.v r4.1)], .row 19 [(ApiProduct.v r5.1)]] 13 [] ?_
      obtain rfl := Option.some.inj h
      exact gf (.tup [(i64 (IntKind.wrap .i64 (0 - (IntKind.wrap .i64 (r5.1.Overdraft_ + r4.1.Extra_))))), (i64 0)]) (f_tupl (fs (fs fl_nil)))
  · refine gx mo [.pc p11_5, .pc p11_12] 37 [(6, (i64 0)), (7, (i64 11))] [.row 22 [(ApiBooks.v a1)], .row 7 [(ApiAccount.v r4.1)], .row 19 [(ApiProduct.v r5.1)]] 47 [tc 5 [.row 22 [(ApiBooks.v a1)]] (P_r24_Find hr4) (fg (fs fl_nil)), tcc 15 [.row 22 [(ApiBooks.v a1)], .row 7 [(ApiAccount.v r4.1)]] (P_r24_Product hr5) (fg (fs (fs fl_nil))), twb 22 [.row 22 [(ApiBooks.v a1)], .row 7 [(ApiAccount.v r4.1)], .row 19 [(ApiProduct.v r5.1)]] (.mv (.c (.bool r4.2))) (r4.2) false hb6] ?_
    obtain rfl := Option.some.inj h
    exact gf (.tup [(i64 0), (i64 11)]) (f_tupl (fs (fs fl_nil)))
/-! corebank/hold.Total -/
def p45_23 : PC := .ret
def p45_24 : PC := (.seq (.reg (om 37 7 :: om 6 37 :: [])) p45_23)
def p45_15 : PC := (.reg (oo 36 (.bin .add .other true (.t 12) (.c (.int .i64 1))) :: om 12 36 :: []))
def p45_11 : PC := (.cond (.t 31) (.reg (om 32 7 :: oo 33 (.fa 2 (.t 9)) :: oo 34 (.ld1 (.t 33)) :: oo 35 (.bin .add .other false (.t 32) (.t 34)) :: om 7 35 :: [])) .skip)
def p45_16 : PC := (.seq (.block 1 (.seq (.reg (oo 14 (.ia 6 (.t 10) (.t 12)) :: oo 15 (.ldA 6 (.t 14)) :: oo 9 (.new (.agg [.int .i64 0, .int .i64 0, .int .i64 0, .int .i64 0, .int .i64 0, .str []])) :: on_ (.st 6 (.t 9) (.t 15)) :: [])) (.seq (.reg (oo 16 (.fa 1 (.t 9)) :: oo 17 (.ld1 (.t 16)) :: om 18 1 :: oo 19 (.bin .eql .other false (.t 17) (.t 18)) :: om 20 19 :: ⟨some 21, .op (.fa 3 (.t 9)), some (20, true)⟩ :: ⟨some 22, .op (.ld1 (.t 21)), some (20, true)⟩ :: ⟨some 23, .op (.mv (.t 2)), some (20, true)⟩ :: ⟨some 24, .op (.bin .leq .other false (.t 22) (.t 23)), some (20, true)⟩ :: oo 25 (.pick (.t 20) (.t 24) (.c (.bool false))) :: om 26 25 :: ⟨some 27, .op (.mv (.t 2)), some (26, true)⟩ :: ⟨some 28, .op (.fa 4 (.t 9)), some (26, true)⟩ :: ⟨some 29, .op (.ld1 (.t 28)), some (26, true)⟩ :: ⟨some 30, .op (.bin .leq .other false (.t 27) (.t 29)), some (26, true)⟩ :: oo 31 (.pick (.t 26) (.t 30) (.c (.bool false))) :: [])) p45_11))) p45_15)
def p45_6 : PC := (.cond (.t 13) .skip (.exit 0))
def p45_19 : PC := (.loop (.seq (.reg (oo 13 (.bin .lss .other false (.t 12) (.t 11)) :: [])) (.seq p45_6 p45_16)))
def p45_27 : PC := (.seq (.reg (oo 6 (.mv (.c (.int .i64 0))) :: [])) (.seq (.reg (oo 7 (.mv (.c (.int .i64 0))) :: [])) (.seq (.seq (.reg (om 10 0 :: oo 11 (.len .slice (.t 10)) :: oo 12 (.mv (.c (.int .i64 0))) :: [])) (.block 0 p45_19)) p45_24)))
theorem fn45 : FnOk Tryz.prog 45 p45_27 38 [.t 6] := ⟨false, Tryz.f45, _, Tryz.func45, by decide, rfl, by kernel_rfl, rfl, by kernel_rfl⟩
def L_hold_Total_1 (N : Nat) (a1 : List ApiHold) (a2 : Int) (a3 : Int) : Nat → Int → Int → Option (Int)
  | 0, _, _ => none
  | m1 + 1, v1_0, v1_1 =>
    bif decide (v1_1 < (a1.length : Int)) then
    ((getI a1 v1_1).bind fun y10 =>
    bif decide (y10.Account_ = a2) then
    (bif decide (y10.From_ ≤ a3) then
    (bif decide (a3 ≤ y10.To_) then
    ((L_hold_Total_1 N a1 a2 a3 m1) (IntKind.wrap .i64 (v1_0 + y10.Amount_)) (IntKind.wrap .i64 (v1_1 + 1)))
    else
    ((L_hold_Total_1 N a1 a2 a3 m1) v1_0 (IntKind.wrap .i64 (v1_1 + 1))))
    else
    ((L_hold_Total_1 N a1 a2 a3 m1) v1_0 (IntKind.wrap .i64 (v1_1 + 1))))
    else
    ((L_hold_Total_1 N a1 a2 a3 m1) v1_0 (IntKind.wrap .i64 (v1_1 + 1))))
    else
    (some v1_0)
def K_hold_Total_1 (N : Nat)  : (Int) → Option (Int)
  | x1_0 =>
    some x1_0
def F_hold_Total  (N : Nat) (a1 : List ApiHold) (a2 : Int) (a3 : Int) : Option (Int) :=
      (L_hold_Total_1 N a1 a2 a3 N 0 0).bind (K_hold_Total_1 N)
theorem P_hold_Total  {N : Nat} {a1 : List ApiHold} {a2 : Int} {a3 : Int} {r : Int} (h : F_hold_Total N a1 a2 a3 = some r) : Pure Tryz.prog (Gl.at 0) 45 [(.sl (a1.map ApiHold.v)), (i64 a2), (i64 a3)] (i64 r) := by
  refine pure_run fn45 ?_
  rw [F_hold_Total] at h
  replace h := bs h
  change GG [.t 6] _ [.pc p45_27] (mk 38 [(0, (.sl (a1.map ApiHold.v))), (1, (i64 a2)), (2, (i64 a3))]) []
  refine gx mo [.pc p45_19, .blk 0, .pc p45_24] 38 [(1, (i64 a2)), (2, (i64 a3)), (7, (i64 0)), (10, (.sl (a1.map ApiHold.v))), (11, (i64 (a1.length : Int))), (12, (i64 0))] [] 16 [tw 3 (E_len [] a1 ApiHold.v)] ?_
  refine go_cut (X := Int) (fun x => (K_hold_Total_1 N x).bind some = some r) ([.pc p45_24]) (fun x => (mk 38 [(7, (i64 x))])) (fun x => []) ?_ fun kont1_0 => ?_
  · rintro x1_0 h
    rw [K_hold_Total_1] at h
    refine gx mo [.pc p45_23] 38 [(6, (i64 x1_0))] [] 5 [] ?_
    obtain rfl := Option.some.inj h
    exact gf (i64 x1_0) (.same rfl)
  refine go_loop' (fun m t s => ∃ (v1_0 : Int) (v1_1 : Int), (L_hold_Total_1 N a1 a2 a3 m v1_0 v1_1).bind (fun q => (K_hold_Total_1 N q).bind some) = some r ∧ t = (mk 38 [(1, (i64 a2)), (2, (i64 a3)), (7, (i64 v1_0)), (10, (.sl (a1.map ApiHold.v))), (11, (i64 (a1.length : Int))), (12, (i64 v1_1))]) ∧ s = []) N ⟨0, 0, go_assoc h, rfl, rfl⟩ ?_
  intro m1 J1 hJ1 t s
  rintro ⟨v1_0, v1_1, h, rfl, rfl⟩
  cases m1 with
  | zero => exact absurd h (by simp [L_hold_Total_1])
  | succ m1 =>
    rw [L_hold_Total_1] at h
    refine gx mo [.pc p45_6, .pc p45_16, .jp J1, .blk 0, .pc p45_24] 38 [(1, (i64 a2)), (2, (i64 a3)), (7, (i64 v1_0)), (10, (.sl (a1.map ApiHold.v))), (11, (i64 (a1.length : Int))), (12, (i64 v1_1)), (13, (.bool (decide (v1_1 < (a1.length : Int)))))] [] 5 [] ?_
    refine go_if h (fun hb9 h => ?_) (fun hb9 h => ?_)
    · rw [hb9]
      refine go_bind h (fun y10 hy10 h => ?_)
      refine go_if h (fun hb11 h => ?_) (fun hb11 h => ?_)
      · refine go_if h (fun hb12 h => ?_) (fun hb12 h => ?_)
        · refine gx mo [.pc p45_11, .blk 1, .pc p45_15, .jp J1, .blk 0, .pc p45_24] 38 [(1, (i64 a2)), (2, (i64 a3)), (7, (i64 v1_0)), (9, (.ref 0 0 0)), (10, (.sl (a1.map ApiHold.v))), (11, (i64 (a1.length : Int))), (12, (i64 v1_1)), (31, (.bool (decide (a3 ≤ y10.To_))))] [.row 6 [(ApiHold.v y10)]] 30 [tw 1 (E_ia [] ApiHold.v .i64 hy10), twb 8 [.row 6 [(ApiHold.v y10)]] (.bin .eql .other false (.c (i64 y10.Account_)) (.c (i64 a2))) (decide (y10.Account_ = a2)) true hb11, twb 14 [.row 6 [(ApiHold.v y10)]] (.pick (.c (.bool true)) (.c (.bool (decide (y10.From_ ≤ a3)))) (.c (.bool false))) (decide (y10.From_ ≤ a3)) true hb12] ?_
          refine go_if h (fun hb13 h => ?_) (fun hb13 h => ?_)
          · rw [hb13]
            refine gx mo [.jp J1, .blk 0, .pc p45_24] 38 [(1, (i64 a2)), (2, (i64 a3)), (7, (i64 (IntKind.wrap .i64 (v1_0 + y10.Amount_)))), (10, (.sl (a1.map ApiHold.v))), (11, (i64 (a1.length : Int))), (12, (i64 (IntKind.wrap .i64 (v1_1 + 1))))] [.row 6 [(ApiHold.v y10)]] 13 [] ?_
            refine go_pick [] [] [(1, 0), (2, 0), (7, 0), (10, 0), (11, 0), (12, 0)] (t' := (mk 38 [(1, (i64 a2)), (2, (i64 a3)), (7, (i64 (IntKind.wrap .i64 (v1_0 + y10.Amount_)))), (10, (.sl (a1.map ApiHold.v))), (11, (i64 (a1.length : Int))), (12, (i64 (IntKind.wrap .i64 (v1_1 + 1))))])) (s' := []) (by kernel_rfl) trivial rfl ?_
            exact go_back rfl (hJ1 m1 _ _ (Nat.lt_succ_self m1) ⟨IntKind.wrap .i64 (v1_0 + y10.Amount_), IntKind.wrap .i64 (v1_1 + 1), h, rfl, rfl⟩)
          · rw [hb13]
            refine gx mo [.jp J1, .blk 0, .pc p45_24] 38 [(1, (i64 a2)), (2, (i64 a3)), (7, (i64 v1_0)), (10, (.sl (a1.map ApiHold.v))), (11, (i64 (a1.length : Int))), (12, (i64 (IntKind.wrap .i64 (v1_1 + 1))))] [.row 6 [(ApiHold.v y10)]] 7 [] ?_
            refine go_pick [] [] [(1, 0), (2, 0), (7, 0), (10, 0), (11, 0), (12, 0)] (t' := (mk 38 [(1, (i64 a2)), (2, (i64 a3)), (7, (i64 v1_0)), (10, (.sl (a1.map ApiHold.v))), (11, (i64 (a1.length : Int))), (12, (i64 (IntKind.wrap .i64 (v1_1 + 1))))])) (s' := []) (by kernel_rfl) trivial rfl ?_
            exact go_back rfl (hJ1 m1 _ _ (Nat.lt_succ_self m1) ⟨v1_0, IntKind.wrap .i64 (v1_1 + 1), h, rfl, rfl⟩)
        · refine gx mo [.jp J1, .blk 0, .pc p45_24] 38 [(1, (i64 a2)), (2, (i64 a3)), (7, (i64 v1_0)), (10, (.sl (a1.map ApiHold.v))), (11, (i64 (a1.length : Int))), (12, (i64 (IntKind.wrap .i64 (v1_1 + 1))))] [.row 6 [(ApiHold.v y10)]] 37 [tw 1 (E_ia [] ApiHold.v .i64 hy10), twb 8 [.row 6 [(ApiHold.v y10)]] (.bin .eql .other false (.c (i64 y10.Account_)) (.c (i64 a2))) (decide (y10.Account_ = a2)) true hb11, twb 14 [.row 6 [(ApiHold.v y10)]] (.pick (.c (.bool true)) (.c (.bool (decide (y10.From_ ≤ a3)))) (.c (.bool false))) (decide (y10.From_ ≤ a3)) false hb12] ?_
          refine go_pick [] [] [(1, 0), (2, 0), (7, 0), (10, 0), (11, 0), (12, 0)] (t' := (mk 38 [(1, (i64 a2)), (2, (i64 a3)), (7, (i64 v1_0)), (10, (.sl (a1.map ApiHold.v))), (11, (i64 (a1.length : Int))), (12, (i64 (IntKind.wrap .i64 (v1_1 + 1))))])) (s' := []) (by kernel_rfl) trivial rfl ?_
          exact go_back rfl (hJ1 m1 _ _ (Nat.lt_succ_self m1) ⟨v1_0, IntKind.wrap .i64 (v1_1 + 1), h, rfl, rfl⟩)
      · refine gx mo [.jp J1, .blk 0, .pc p45_24] 38 [(1, (i64 a2)), (2, (i64 a3)), (7, (i64 v1_0)), (10, (.sl (a1.map ApiHold.v))), (11, (i64 (a1.length : Int))), (12, (i64 (IntKind.wrap .i64 (v1_1 + 1))))] [.row 6 [(ApiHold.v y10)]] 37 [tw 1 (E_ia [] ApiHold.v .i64 hy10), twb 8 [.row 6 [(ApiHold.v y10)]] (.bin .eql .other false (.c (i64 y10.Account_)) (.c (i64 a2))) (decide (y10.Account_ = a2)) false hb11] ?_
        refine go_pick [] [] [(1, 0), (2, 0), (7, 0), (10, 0), (11, 0), (12, 0)] (t' := (mk 38 [(1, (i64 a2)), (2, (i64 a3)), (7, (i64 v1_0)), (10, (.sl (a1.map ApiHold.v))), (11, (i64 (a1.length : Int))), (12, (i64 (IntKind.wrap .i64 (v1_1 + 1))))])) (s' := []) (by kernel_rfl) trivial rfl ?_
        exact go_back rfl (hJ1 m1 _ _ (Nat.lt_succ_self m1) ⟨v1_0, IntKind.wrap .i64 (v1_1 + 1), h, rfl, rfl⟩)
    · rw [hb9]
      refine gx mo [.pc p45_24] 38 [(7, (i64 v1_0))] [] 2 [] ?_
      exact kont1_0 v1_0 h
/-! corebank/blocking.Active -/
def p68_23 : PC := .ret
def p68_24 : PC := (.seq (.reg (om 37 7 :: om 6 37 :: [])) p68_23)
def p68_15 : PC := (.reg (oo 36 (.bin .add .other true (.t 12) (.c (.int .i64 1))) :: om 12 36 :: []))
def p68_11 : PC := (.cond (.t 31) (.reg (om 32 7 :: oo 33 (.ldA 7 (.t 9)) :: oo 34 (.lit (.agg [.int .i64 0, .int .i64 0, .int .i64 0, .int .i64 0, .int .i64 0, .int .i64 0, .str []]) 1 [(0, .t 33)]) :: oo 35 (.app 7 64 (.t 32) (.t 34)) :: om 7 35 :: [])) .skip)
def p68_16 : PC := (.seq (.block 1 (.seq (.reg (oo 14 (.ia 7 (.t 10) (.t 12)) :: oo 15 (.ldA 7 (.t 14)) :: oo 9 (.new (.agg [.int .i64 0, .int .i64 0, .int .i64 0, .int .i64 0, .int .i64 0, .int .i64 0, .str []])) :: on_ (.st 7 (.t 9) (.t 15)) :: [])) (.seq (.reg (oo 16 (.fa 1 (.t 9)) :: oo 17 (.ld1 (.t 16)) :: om 18 1 :: oo 19 (.bin .eql .other false (.t 17) (.t 18)) :: om 20 19 :: ⟨some 21, .op (.fa 4 (.t 9)), some (20, true)⟩ :: ⟨some 22, .op (.ld1 (.t 21)), some (20, true)⟩ :: ⟨some 23, .op (.mv (.t 2)), some (20, true)⟩ :: ⟨some 24, .op (.bin .leq .other false (.t 22) (.t 23)), some (20, true)⟩ :: oo 25 (.pick (.t 20) (.t 24) (.c (.bool false))) :: om 26 25 :: ⟨some 27, .op (.mv (.t 2)), some (26, true)⟩ :: ⟨some 28, .op (.fa 5 (.t 9)), some (26, true)⟩ :: ⟨some 29, .op (.ld1 (.t 28)), some (26, true)⟩ :: ⟨some 30, .op (.bin .leq .other false (.t 27) (.t 29)), some (26, true)⟩ :: oo 31 (.pick (.t 26) (.t 30) (.c (.bool false))) :: [])) p68_11))) p68_15)
def p68_6 : PC := (.cond (.t 13) .skip (.exit 0))
def p68_19 : PC := (.loop (.seq (.reg (oo 13 (.bin .lss .other false (.t 12) (.t 11)) :: [])) (.seq p68_6 p68_16)))
def p68_27 : PC := (.seq (.reg (oo 6 (.mv (.c .nils)) :: [])) (.seq (.reg (oo 7 (.mv (.c .nils)) :: [])) (.seq (.seq (.reg (om 10 0 :: oo 11 (.len .slice (.t 10)) :: oo 12 (.mv (.c (.int .i64 0))) :: [])) (.block 0 p68_19)) p68_24)))
theorem fn68 : FnOk Tryz.prog 68 p68_27 38 [.t 6] := ⟨false, Tryz.f68, _, Tryz.func68, by decide, rfl, by kernel_rfl, rfl, by kernel_rfl⟩
def L_blocking_Active_1 (N : Nat) (a1 : List ApiBlock) (a2 : Int) (a3 : Int) : Nat → (List ApiBlock) → Int → Option ((List ApiBlock))
  | 0, _, _ => none
  | m1 + 1, v1_0, v1_1 =>
    bif decide (v1_1 < (a1.length : Int)) then
    ((getI a1 v1_1).bind fun y11 =>
    bif decide (y11.Account_ = a2) then
    (bif decide (y11.From_ ≤ a3) then
    (bif decide (a3 ≤ y11.To_) then
    ((appI 64 v1_0 ([y11] : List ApiBlock)).bind fun l15 =>
    (L_blocking_Active_1 N a1 a2 a3 m1) l15 (IntKind.wrap .i64 (v1_1 + 1)))
    else
    ((L_blocking_Active_1 N a1 a2 a3 m1) v1_0 (IntKind.wrap .i64 (v1_1 + 1))))
    else
    ((L_blocking_Active_1 N a1 a2 a3 m1) v1_0 (IntKind.wrap .i64 (v1_1 + 1))))
    else
    ((L_blocking_Active_1 N a1 a2 a3 m1) v1_0 (IntKind.wrap .i64 (v1_1 + 1))))
    else
    (some v1_0)
def K_blocking_Active_1 (N : Nat)  : ((List ApiBlock)) → Option ((List ApiBlock))
  | x1_0 =>
    some x1_0
def F_blocking_Active  (N : Nat) (a1 : List ApiBlock) (a2 : Int) (a3 : Int) : Option ((List ApiBlock)) :=
      (L_blocking_Active_1 N a1 a2 a3 N [] 0).bind (K_blocking_Active_1 N)
theorem P_blocking_Active  {N : Nat} {a1 : List ApiBlock} {a2 : Int} {a3 : Int} {r : (List ApiBlock)} (h : F_blocking_Active N a1 a2 a3 = some r) : Pure Tryz.prog (Gl.at 0) 68 [(.sl (a1.map ApiBlock.v)), (i64 a2), (i64 a3)] (.sl (r.map ApiBlock.v)) := by
  refine pure_run fn68 ?_
  rw [F_blocking_Active] at h
  replace h := bs h
  change GG [.t 6] _ [.pc p68_27] (mk 38 [(0, (.sl (a1.map ApiBlock.v))), (1, (i64 a2)), (2, (i64 a3))]) []
  refine gx mo [.pc p68_19, .blk 0, .pc p68_24] 38 [(1, (i64 a2)), (2, (i64 a3)), (7, .nils), (10, (.sl (a1.map ApiBlock.v))), (11, (i64 (a1.length : Int))), (12, (i64 0))] [] 16 [tw 3 (E_len [] a1 ApiBlock.v)] ?_
  refine go_cut (X := (List ApiBlock)) (fun x => x = [] ∧ (K_blocking_Active_1 N x).bind some = some r) ([.pc p68_24]) (fun x => (mk 38 [(7, .nils)])) (fun x => []) ?_ fun kont1_0 => ?_
  · rintro x1_0 ⟨hx0, h⟩
    obtain rfl : x1_0 = [] := hx0
    rw [K_blocking_Active_1] at h
    refine gx mo [.pc p68_23] 38 [(6, .nils)] [] 5 [] ?_
    obtain rfl := Option.some.inj h
    exact gf .nils .nil0
  refine go_cut (X := (List ApiBlock)) (fun x => (K_blocking_Active_1 N x).bind some = some r) ([.pc p68_24]) (fun x => (mk 38 [(7, (.osl 0 0 x.length))])) (fun x => [.row 7 (x.map ApiBlock.v)]) ?_ fun kont1_1 => ?_
  · rintro x1_0 h
    rw [K_blocking_Active_1] at h
    refine gx mo [.pc p68_23] 38 [(6, (.osl 0 0 x1_0.length))] [.row 7 (x1_0.map ApiBlock.v)] 5 [] ?_
    obtain rfl := Option.some.inj h
    exact gf (.osl 0 0 x1_0.length) (f_osl (c := 0) rfl (fun _ => rfl) (fun _ => rfl) rfl)
  refine go_loop' (fun m t s => ∃ (v1_0 : List ApiBlock) (v1_1 : Int), (L_blocking_Active_1 N a1 a2 a3 m v1_0 v1_1).bind (fun q => (K_blocking_Active_1 N q).bind some) = some r ∧ ((v1_0 = [] ∧ t = (mk 38 [(1, (i64 a2)), (2, (i64 a3)), (7, .nils), (10, (.sl (a1.map ApiBlock.v))), (11, (i64 (a1.length : Int))), (12, (i64 v1_1))]) ∧ s = []) ∨ (t = (mk 38 [(1, (i64 a2)), (2, (i64 a3)), (7, (.osl 0 0 v1_0.length)), (10, (.sl (a1.map ApiBlock.v))), (11, (i64 (a1.length : Int))), (12, (i64 v1_1))]) ∧ s = [.row 7 (v1_0.map ApiBlock.v)]))) N ⟨[], 0, go_assoc h, .inl ⟨rfl, rfl, rfl⟩⟩ ?_
  intro m1 J1 hJ1 t s
  rintro ⟨v1_0, v1_1, h, hsh⟩
  cases m1 with
  | zero => exact absurd h (by simp [L_blocking_Active_1])
  | succ m1 =>
    rw [L_blocking_Active_1] at h
    rcases hsh with ⟨rfl, rfl, rfl⟩ | ⟨rfl, rfl⟩
    · refine gx mo [.pc p68_6, .pc p68_16, .jp J1, .blk 0, .pc p68_24] 38 [(1, (i64 a2)), (2, (i64 a3)), (7, .nils), (10, (.sl (a1.map ApiBlock.v))), (11, (i64 (a1.length : Int))), (12, (i64 v1_1)), (13, (.bool (decide (v1_1 < (a1.length : Int)))))] [] 5 [] ?_
      refine go_if h (fun hb10 h => ?_) (fun hb10 h => ?_)
      · rw [hb10]
        refine go_bind h (fun y11 hy11 h => ?_)
        refine go_if h (fun hb12 h => ?_) (fun hb12 h => ?_)
        · refine go_if h (fun hb13 h => ?_) (fun hb13 h => ?_)
          · refine gx mo [.pc p68_11, .blk 1, .pc p68_15, .jp J1, .blk 0, .pc p68_24] 38 [(1, (i64 a2)), (2, (i64 a3)), (7, .nils), (9, (.ref 0 0 0)), (10, (.sl (a1.map ApiBlock.v))), (11, (i64 (a1.length : Int))), (12, (i64 v1_1)), (31, (.bool (decide (a3 ≤ y11.To_))))] [.row 7 [(ApiBlock.v y11)]] 30 [tw 1 (E_ia [] ApiBlock.v .i64 hy11), twb 8 [.row 7 [(ApiBlock.v y11)]] (.bin .eql .other false (.c (i64 y11.Account_)) (.c (i64 a2))) (decide (y11.Account_ = a2)) true hb12, twb 14 [.row 7 [(ApiBlock.v y11)]] (.pick (.c (.bool true)) (.c (.bool (decide (y11.From_ ≤ a3)))) (.c (.bool false))) (decide (y11.From_ ≤ a3)) true hb13] ?_
            refine go_if h (fun hb14 h => ?_) (fun hb14 h => ?_)
            · rw [hb14]
              refine go_bind h (fun l15 hl15 h => ?_)
              refine gx mo [.jp J1, .blk 0, .pc p68_24] 38 [(1, (i64 a2)), (2, (i64 a3)), (7, (.osl 1 0 l15.length)), (10, (.sl (a1.map ApiBlock.v))), (11, (i64 (a1.length : Int))), (12, (i64 (IntKind.wrap .i64 (v1_1 + 1))))] [.row 7 [(ApiBlock.v y11)], .row 7 (l15.map ApiBlock.v)] 13 [tw 4 (s := [.row 7 [(ApiBlock.v y11)]]) (s' := [.row 7 [(ApiBlock.v y11)], .row 7 (l15.map ApiBlock.v)]) (q := (.app 7 64 (.c .nils) (.c (.sl [(ApiBlock.v y11)])))) (v := (.osl 1 0 l15.length)) (e_app0 (f := ApiBlock.v) (ys := ([y11] : List ApiBlock)) (.inl rfl) (fun _ => rfl) (fun _ => rfl) rfl hl15)] ?_
              refine go_pick [1] [] [(1, 0), (2, 0), (7, 0), (10, 0), (11, 0), (12, 0)] (t' := (mk 38 [(1, (i64 a2)), (2, (i64 a3)), (7, (.osl 0 0 l15.length)), (10, (.sl (a1.map ApiBlock.v))), (11, (i64 (a1.length : Int))), (12, (i64 (IntKind.wrap .i64 (v1_1 + 1))))])) (s' := [.row 7 (l15.map ApiBlock.v)]) (by kernel_rfl) ⟨clo_map (fun _ => rfl) _, trivial⟩ rfl ?_
              exact go_back rfl (hJ1 m1 _ _ (Nat.lt_succ_self m1) ⟨l15, IntKind.wrap .i64 (v1_1 + 1), h, .inr (⟨rfl, rfl⟩)⟩)
            · rw [hb14]
              refine gx mo [.jp J1, .blk 0, .pc p68_24] 38 [(1, (i64 a2)), (2, (i64 a3)), (7, .nils), (10, (.sl (a1.map ApiBlock.v))), (11, (i64 (a1.length : Int))), (12, (i64 (IntKind.wrap .i64 (v1_1 + 1))))] [.row 7 [(ApiBlock.v y11)]] 7 [] ?_
              refine go_pick [] [] [(1, 0), (2, 0), (7, 0), (10, 0), (11, 0), (12, 0)] (t' := (mk 38 [(1, (i64 a2)), (2, (i64 a3)), (7, .nils), (10, (.sl (a1.map ApiBlock.v))), (11, (i64 (a1.length : Int))), (12, (i64 (IntKind.wrap .i64 (v1_1 + 1))))])) (s' := []) (by kernel_rfl) trivial rfl ?_
              exact go_back rfl (hJ1 m1 _ _ (Nat.lt_succ_self m1) ⟨[], IntKind.wrap .i64 (v1_1 + 1), h, .inl ⟨rfl, rfl, rfl⟩⟩)
          · refine gx mo [.jp J1, .blk 0, .pc p68_24] 38 [(1, (i64 a2)), (2, (i64 a3)), (7, .nils), (10, (.sl (a1.map ApiBlock.v))), (11, (i64 (a1.length : Int))), (12, (i64 (IntKind.wrap .i64 (v1_1 + 1))))] [.row 7 [(ApiBlock.v y11)]] 37 [tw 1 (E_ia [] ApiBlock.v .i64 hy11), twb 8 [.row 7 [(ApiBlock.v y11)]] (.bin .eql .other false (.c (i64 y11.Account_)) (.c (i64 a2))) (decide (y11.Account_ = a2)) true hb12, twb 14 [.row 7 [(ApiBlock.v y11)]] (.pick (.c (.bool true)) (.c (.bool (decide (y11.From_ ≤ a3)))) (.c (.bool false))) (decide (y11.From_ ≤ a3)) false hb13] ?_
            refine go_pick [] [] [(1, 0), (2, 0), (7, 0), (10, 0), (11, 0), (12, 0)] (t' := (mk 38 [(1, (i64 a2)), (2, (i64 a3)), (7, .nils), (10, (.sl (a1.map ApiBlock.v))), (11, (i64 (a1.length : Int))), (12, (i64 (IntKind.wrap .i64 (v1_1 + 1))))])) (s' := []) (by kernel_rfl) trivial rfl ?_
            exact go_back rfl (hJ1 m1 _ _ (Nat.lt_succ_self m1) ⟨[], IntKind.wrap .i64 (v1_1 + 1), h, .inl ⟨rfl, rfl, rfl⟩⟩)
        · refine gx mo [.jp J1, .blk 0, .pc p68_24] 38 [(1, (i64 a2)), (2, (i64 a3)), (7, .nils), (10, (.sl (a1.map ApiBlock.v))), (11, (i64 (a1.length : Int))), (12, (i64 (IntKind.wrap .i64 (v1_1 + 1))))] [.row 7 [(ApiBlock.v y11)]] 37 [tw 1 (E_ia [] ApiBlock.v .i64 hy11), twb 8 [.row 7 [(ApiBlock.v y11)]] (.bin .eql .other false (.c (i64 y11.Account_)) (.c (i64 a2))) (decide (y11.Account_ = a2)) false hb12] ?_
          refine go_pick [] [] [(1, 0), (2, 0), (7, 0), (10, 0), (11, 0), (12, 0)] (t' := (mk 38 [(1, (i64 a2)), (2, (i64 a3)), (7, .nils), (10, (.sl (a1.map ApiBlock.v))), (11, (i64 (a1.length : Int))), (12, (i64 (IntKind.wrap .i64 (v1_1 + 1))))])) (s' := []) (by kernel_rfl) trivial rfl ?_
          exact go_back rfl (hJ1 m1 _ _ (Nat.lt_succ_self m1) ⟨[], IntKind.wrap .i64 (v1_1 + 1), h, .inl ⟨rfl, rfl, rfl⟩⟩)
      · rw [hb10]
        refine gx mo [.pc p68_24] 38 [(7, .nils)] [] 2 [] ?_
        exact kont1_0 [] ⟨rfl, h⟩
    · refine gx mo [.pc p68_6, .pc p68_16, .jp J1, .blk 0, .pc p68_24] 38 [(1, (i64 a2)), (2, (i64 a3)), (7, (.osl 0 0 v1_0.length)), (10, (.sl (a1.map ApiBlock.v))), (11, (i64 (a1.length : Int))), (12, (i64 v1_1)), (13, (.bool (decide (v1_1 < (a1.length : Int)))))] [.row 7 (v1_0.map ApiBlock.v)] 5 [] ?_
      refine go_if h (fun hb10 h => ?_) (fun hb10 h => ?_)
      · rw [hb10]
        refine go_bind h (fun y11 hy11 h => ?_)
        refine go_if h (fun hb12 h => ?_) (fun hb12 h => ?_)
        · refine go_if h (fun hb13 h => ?_) (fun hb13 h => ?_)
          · refine gx mo [.pc p68_11, .blk 1, .pc p68_15, .jp J1, .blk 0, .pc p68_24] 38 [(1, (i64 a2)), (2, (i64 a3)), (7, (.osl 0 0 v1_0.length)), (9, (.ref 1 0 0)), (10, (.sl (a1.map ApiBlock.v))), (11, (i64 (a1.length : Int))), (12, (i64 v1_1)), (31, (.bool (decide (a3 ≤ y11.To_))))] [.row 7 (v1_0.map ApiBlock.v), .row 7 [(ApiBlock.v y11)]] 30 [tw 1 (E_ia [.row 7 (v1_0.map ApiBlock.v)] ApiBlock.v .i64 hy11), twb 8 [.row 7 (v1_0.map ApiBlock.v), .row 7 [(ApiBlock.v y11)]] (.bin .eql .other false (.c (i64 y11.Account_)) (.c (i64 a2))) (decide (y11.Account_ = a2)) true hb12, twb 14 [.row 7 (v1_0.map ApiBlock.v), .row 7 [(ApiBlock.v y11)]] (.pick (.c (.bool true)) (.c (.bool (decide (y11.From_ ≤ a3)))) (.c (.bool false))) (decide (y11.From_ ≤ a3)) true hb13] ?_
            refine go_if h (fun hb14 h => ?_) (fun hb14 h => ?_)
            · rw [hb14]
              refine go_bind h (fun l15 hl15 h => ?_)
              refine gx mo [.jp J1, .blk 0, .pc p68_24] 38 [(1, (i64 a2)), (2, (i64 a3)), (7, (.osl 2 0 l15.length)), (10, (.sl (a1.map ApiBlock.v))), (11, (i64 (a1.length : Int))), (12, (i64 (IntKind.wrap .i64 (v1_1 + 1))))] [.dead, .row 7 [(ApiBlock.v y11)], .row 7 (l15.map ApiBlock.v)] 13 [tw 4 (s := [.row 7 (v1_0.map ApiBlock.v), .row 7 [(ApiBlock.v y11)]]) (s' := [.dead, .row 7 [(ApiBlock.v y11)], .row 7 (l15.map ApiBlock.v)]) (q := (.app 7 64 (.c (.osl 0 0 v1_0.length)) (.c (.sl [(ApiBlock.v y11)])))) (v := (.osl 2 0 l15.length)) (e_app (f := ApiBlock.v) (ys := ([y11] : List ApiBlock)) rfl (fun _ => rfl) (fun _ => rfl) rfl hl15 rfl)] ?_
              refine go_pick [2] [] [(1, 0), (2, 0), (7, 0), (10, 0), (11, 0), (12, 0)] (t' := (mk 38 [(1, (i64 a2)), (2, (i64 a3)), (7, (.osl 0 0 l15.length)), (10, (.sl (a1.map ApiBlock.v))), (11, (i64 (a1.length : Int))), (12, (i64 (IntKind.wrap .i64 (v1_1 + 1))))])) (s' := [.row 7 (l15.map ApiBlock.v)]) (by kernel_rfl) ⟨clo_map (fun _ => rfl) _, trivial⟩ rfl ?_
              exact go_back rfl (hJ1 m1 _ _ (Nat.lt_succ_self m1) ⟨l15, IntKind.wrap .i64 (v1_1 + 1), h, .inr (⟨rfl, rfl⟩)⟩)
            · rw [hb14]
              refine gx mo [.jp J1, .blk 0, .pc p68_24] 38 [(1, (i64 a2)), (2, (i64 a3)), (7, (.osl 0 0 v1_0.length)), (10, (.sl (a1.map ApiBlock.v))), (11, (i64 (a1.length : Int))), (12, (i64 (IntKind.wrap .i64 (v1_1 + 1))))] [.row 7 (v1_0.map ApiBlock.v), .row 7 [(ApiBlock.v y11)]] 7 [] ?_
              refine go_pick [0] [] [(1, 0), (2, 0), (7, 0), (10, 0), (11, 0), (12, 0)] (t' := (mk 38 [(1, (i64 a2)), (2, (i64 a3)), (7, (.osl 0 0 v1_0.length)), (10, (.sl (a1.map ApiBlock.v))), (11, (i64 (a1.length : Int))), (12, (i64 (IntKind.wrap .i64 (v1_1 + 1))))])) (s' := [.row 7 (v1_0.map ApiBlock.v)]) (by kernel_rfl) ⟨clo_map (fun _ => rfl) _, trivial⟩ rfl ?_
              exact go_back rfl (hJ1 m1 _ _ (Nat.lt_succ_self m1) ⟨v1_0, IntKind.wrap .i64 (v1_1 + 1), h, .inr (⟨rfl, rfl⟩)⟩)
          · refine gx mo [.jp J1, .blk 0, .pc p68_24] 38 [(1, (i64 a2)), (2, (i64 a3)), (7, (.osl 0 0 v1_0.length)), (10, (.sl (a1.map ApiBlock.v))), (11, (i64 (a1.length : Int))), (12, (i64 (IntKind.wrap .i64 (v1_1 + 1))))] [.row 7 (v1_0.map ApiBlock.v), .row 7 [(ApiBlock.v y11)]] 37 [tw 1 (E_ia [.row 7 (v1_0.map ApiBlock.v)] ApiBlock.v .i64 hy11), twb 8 [.row 7 (v1_0.map ApiBlock.v), .row 7 [(ApiBlock.v y11)]] (.bin .eql .other false (.c (i64 y11.Account_)) (.c (i64 a2))) (decide (y11.Account_ = a2)) true hb12, twb 14 [.row 7 (v1_0.map ApiBlock.v), .row 7 [(ApiBlock.v y11)]] (.pick (.c (.bool true)) (.c (.bool (decide (y11.From_ ≤ a3)))) (.c (.bool false))) (decide (y11.From_ ≤ a3)) false hb13] ?_
            refine go_pick [0] [] [(1, 0), (2, 0), (7, 0), (10, 0), (11, 0), (12, 0)] (t' := (mk 38 [(1, (i64 a2)), (2, (i64 a3)), (7, (.osl 0 0 v1_0.length)), (10, (.sl (a1.map ApiBlock.v))), (11, (i64 (a1.length : Int))), (12, (i64 (IntKind.wrap .i64 (v1_1 + 1))))])) (s' := [.row 7 (v1_0.map ApiBlock.v)]) (by kernel_rfl) ⟨clo_map (fun _ => rfl) _, trivial⟩ rfl ?_
            exact go_back rfl (hJ1 m1 _ _ (Nat.lt_succ_self m1) ⟨v1_0, IntKind.wrap .i64 (v1_1 + 1), h, .inr (⟨rfl, rfl⟩)⟩)
        · refine gx mo [.jp J1, .blk 0, .pc p68_24] 38 [(1, (i64 a2)), (2, (i64 a3)), (7, (.osl 0 0 v1_0.length)), (10, (.sl (a1.map ApiBlock.v))), (11, (i64 (a1.length : Int))), (12, (i64 (IntKind.wrap .i64 (v1_1 + 1))))] [.row 7 (v1_0.map ApiBlock.v), .row 7 [(ApiBlock.v y11)]] 37 [tw 1 (E_ia [.row 7 (v1_0.map ApiBlock.v)] ApiBlock.v .i64 hy11), twb 8 [.row 7 (v1_0.map ApiBlock.v), .row 7 [(ApiBlock.v y11)]] (.bin .eql .other false (.c (i64 y11.Account_)) (.c (i64 a2))) (decide (y11.Account_ = a2)) false hb12] ?_
          refine go_pick [0] [] [(1, 0), (2, 0), (7, 0), (10, 0), (11, 0), (12, 0)] (t' := (mk 38 [(1, (i64 a2)), (2, (i64 a3)), (7, (.osl 0 0 v1_0.length)), (10, (.sl (a1.map ApiBlock.v))), (11, (i64 (a1.length : Int))), (12, (i64 (IntKind.wrap .i64 (v1_1 + 1))))])) (s' := [.row 7 (v1_0.map ApiBlock.v)]) (by kernel_rfl) ⟨clo_map (fun _ => rfl) _, trivial⟩ rfl ?_
          exact go_back rfl (hJ1 m1 _ _ (Nat.lt_succ_self m1) ⟨v1_0, IntKind.wrap .i64 (v1_1 + 1), h, .inr (⟨rfl, rfl⟩)⟩)
      · rw [hb10]
        refine gx mo [.pc p68_24] 38 [(7, (.osl 0 0 v1_0.length))] [.row 7 (v1_0.map ApiBlock.v)] 2 [] ?_
        exact kont1_1 v1_0 h
/-! corebank/blocking.Reserved -/
def p46_25 : PC := .ret
def p46_26 : PC := (.seq (.reg (om 33 7 :: om 6 33 :: [])) p46_25)
def p46_17 : PC := (.reg (oo 32 (.bin .add .other true (.t 17) (.c (.int .i64 1))) :: om 17 32 :: []))
def p46_13 : PC := (.seq (.reg (om 27 11 :: [])) (.cond (.t 27) (.reg (om 28 7 :: oo 29 (.fa 0 (.t 10)) :: oo 30 (.ld1 (.t 29)) :: oo 31 (.bin .add .other false (.t 28) (.t 30)) :: om 7 31 :: [])) .skip))
def o46_8_1 : List PO := ⟨some 23, .call 69 [.t 22], none⟩ :: oo 24 (.ta 121 (.agg [.int .i64 0]) true (.t 23)) :: om 21 24 :: oo 25 (.ext 0 (.t 21)) :: oo 26 (.ext 1 (.t 21)) :: oo 10 (.new (.agg [.int .i64 0])) :: on_ (.st 1 (.t 10) (.t 25)) :: om 11 26 :: []
def p46_18 : PC := (.seq (.block 1 (.seq (.reg (oo 19 (.ia 7 (.t 15) (.t 17)) :: oo 20 (.ldA 7 (.t 19)) :: oo 9 (.new (.agg [.int .i64 0, .int .i64 0, .int .i64 0, .int .i64 0, .int .i64 0, .int .i64 0, .str []])) :: on_ (.st 7 (.t 9) (.t 20)) :: [])) (.seq (.reg (oo 22 (.ldA 7 (.t 9)) :: o46_8_1)) p46_13))) p46_17)
def p46_6 : PC := (.cond (.t 18) .skip (.exit 0))
def p46_21 : PC := (.loop (.seq (.reg (oo 18 (.bin .lss .other false (.t 17) (.t 16)) :: [])) (.seq p46_6 p46_18)))
def p46_29 : PC := (.seq (.reg (oo 6 (.mv (.c (.int .i64 0))) :: [])) (.seq (.reg (oo 7 (.mv (.c (.int .i64 0))) :: [])) (.seq (.seq (.reg (om 12 0 :: om 13 1 :: om 14 2 :: ⟨some 15, .call 68 [.t 12, .t 13, .t 14], none⟩ :: oo 16 (.len .slice (.t 15)) :: oo 17 (.mv (.c (.int .i64 0))) :: [])) (.block 0 p46_21)) p46_26)))
theorem fn46 : FnOk Tryz.prog 46 p46_29 34 [.t 6] := ⟨false, Tryz.f46, _, Tryz.func46, by decide, rfl, by kernel_rfl, rfl, by kernel_rfl⟩
def L_blocking_Reserved_1 (N : Nat) (r4 : (List ApiBlock)) : Nat → Int → Int → Option (Int)
  | 0, _, _ => none
  | m1 + 1, v1_0, v1_1 =>
    bif decide (v1_1 < (r4.length : Int)) then
    ((getI r4 v1_1).bind fun y12 =>
    bif decide (y12.Kind_ = 1) then
    ((L_blocking_Reserved_1 N r4 m1) v1_0 (IntKind.wrap .i64 (v1_1 + 1)))
    else
    (bif decide (y12.Kind_ = 2) then
    ((L_blocking_Reserved_1 N r4 m1) v1_0 (IntKind.wrap .i64 (v1_1 + 1)))
    else
    (bif decide (y12.Kind_ = 3) then
    ((L_blocking_Reserved_1 N r4 m1) v1_0 (IntKind.wrap .i64 (v1_1 + 1)))
    else
    (bif decide (y12.Kind_ = 4) then
    ((L_blocking_Reserved_1 N r4 m1) (IntKind.wrap .i64 (v1_0 + y12.Amount_)) (IntKind.wrap .i64 (v1_1 + 1)))
    else
    ((L_blocking_Reserved_1 N r4 m1) v1_0 (IntKind.wrap .i64 (v1_1 + 1)))))))
    else
    (some v1_0)
def K_blocking_Reserved_1 (N : Nat)  : (Int) → Option (Int)
  | x1_0 =>
    some x1_0
def F_blocking_Reserved  (N : Nat) (a1 : List ApiBlock) (a2 : Int) (a3 : Int) : Option (Int) :=
      (F_blocking_Active N a1 a2 a3).bind fun r4 =>
    (L_blocking_Reserved_1 N r4 N 0 0).bind (K_blocking_Reserved_1 N)
theorem P_blocking_Reserved  {N : Nat} {a1 : List ApiBlock} {a2 : Int} {a3 : Int} {r : Int} (h : F_blocking_Reserved N a1 a2 a3 = some r) : Pure Tryz.prog (Gl.at 0) 46 [(.sl (a1.map ApiBlock.v)), (i64 a2), (i64 a3)] (i64 r) := by
  refine pure_run fn46 ?_
  rw [F_blocking_Reserved] at h
  replace h := bs h
  change GG [.t 6] _ [.pc p46_29] (mk 34 [(0, (.sl (a1.map ApiBlock.v))), (1, (i64 a2)), (2, (i64 a3))]) []
  refine go_bind h (fun r4 hr4 h => ?_)
  refine gx mo [.pc p46_21, .blk 0, .pc p46_26] 34 [(7, (i64 0)), (15, (.sl (r4.map ApiBlock.v))), (16, (i64 (r4.length : Int))), (17, (i64 0))] [] 19 [tcc 5 [] (P_blocking_Active hr4) (fs (fs (fs fl_nil))), tw 6 (E_len [] r4 ApiBlock.v)] ?_
  refine go_cut (X := Int) (fun x => (K_blocking_Reserved_1 N x).bind some = some r) ([.pc p46_26]) (fun x => (mk 34 [(7, (i64 x))])) (fun x => []) ?_ fun kont1_0 => ?_
  · rintro x1_0 h
    rw [K_blocking_Reserved_1] at h
    refine gx mo [.pc p46_25] 34 [(6, (i64 x1_0))] [] 5 [] ?_
    obtain rfl := Option.some.inj h
    exact gf (i64 x1_0) (.same rfl)
  refine go_loop' (fun m t s => ∃ (v1_0 : Int) (v1_1 : Int), (L_blocking_Reserved_1 N r4 m v1_0 v1_1).bind (fun q => (K_blocking_Reserved_1 N q).bind some) = some r ∧ t = (mk 34 [(7, (i64 v1_0)), (15, (.sl (r4.map ApiBlock.v))), (16, (i64 (r4.length : Int))), (17, (i64 v1_1))]) ∧ s = []) N ⟨0, 0, go_assoc h, rfl, rfl⟩ ?_
  intro m1 J1 hJ1 t s
  rintro ⟨v1_0, v1_1, h, rfl, rfl⟩
  cases m1 with
  | zero => exact absurd h (by simp [L_blocking_Reserved_1])
  | succ m1 =>
    rw [L_blocking_Reserved_1] at h
    refine gx mo [.pc p46_6, .pc p46_18, .jp J1, .blk 0, .pc p46_26] 34 [(7, (i64 v1_0)), (15, (.sl (r4.map ApiBlock.v))), (16, (i64 (r4.length : Int))), (17, (i64 v1_1)), (18, (.bool (decide (v1_1 < (r4.length : Int)))))] [] 5 [] ?_
    refine go_if h (fun hb11 h => ?_) (fun hb11 h => ?_)
    · rw [hb11]
      refine go_bind h (fun y12 hy12 h => ?_)
      refine gx mo [.ops o46_8_1, .pc p46_13, .blk 1, .pc p46_17, .jp J1, .blk 0, .pc p46_26] 34 [(7, (i64 v1_0)), (15, (.sl (r4.map ApiBlock.v))), (16, (i64 (r4.length : Int))), (17, (i64 v1_1)), (22, (ApiBlock.v y12))] [.row 7 [(ApiBlock.v y12)]] 14 [tw 1 (E_ia [] ApiBlock.v .i64 hy12)] ?_
      refine go_inl (pc := p69_33) rfl fn69 ?_
      refine gx mo [.pc p69_25, .blk 0, .pc p69_31] 25 [(1, (.ref 1 0 0)), (4, (i64 y12.Kind_)), (5, (.bool (decide (y12.Kind_ = 1))))] [.row 7 [(ApiBlock.v y12)], .row 7 [(ApiBlock.v y12)]] 17 [] ?_
      refine go_if h (fun hb13 h => ?_) (fun hb13 h => ?_)
      · rw [hb13]
        refine gx mo [.pc p69_4, .blk 0, .pc p69_31] 25 [(2, (.ifc 136 (.agg [])))] [.row 7 [(ApiBlock.v y12)], .row 7 [(ApiBlock.v y12)]] 7 [] ?_
        refine go_inret (.ifc 136 (.agg [])) (by kernel_rfl) (noMark_ofB rfl) rfl ?_
        refine gx mo [.jp J1, .blk 0, .pc p46_26] 34 [(7, (i64 v1_0)), (15, (.sl (r4.map ApiBlock.v))), (16, (i64 (r4.length : Int))), (17, (i64 (IntKind.wrap .i64 (v1_1 + 1))))] [.row 7 [(ApiBlock.v y12)], .row 7 [(ApiBlock.v y12)], .row 1 [(.agg [(i64 0)])]] 19 [] ?_
        refine go_pick [] [] [(7, 0), (15, 0), (16, 0), (17, 0)] (t' := (mk 34 [(7, (i64 v1_0)), (15, (.sl (r4.map ApiBlock.v))), (16, (i64 (r4.length : Int))), (17, (i64 (IntKind.wrap .i64 (v1_1 + 1))))])) (s' := []) (by kernel_rfl) trivial rfl ?_
        exact go_back rfl (hJ1 m1 _ _ (Nat.lt_succ_self m1) ⟨v1_0, IntKind.wrap .i64 (v1_1 + 1), h, rfl, rfl⟩)
      · rw [hb13]
        refine gx mo [.pc p69_23, .blk 0, .pc p69_31] 25 [(1, (.ref 1 0 0)), (4, (i64 y12.Kind_)), (9, (.bool (decide (y12.Kind_ = 2))))] [.row 7 [(ApiBlock.v y12)], .row 7 [(ApiBlock.v y12)]] 6 [] ?_
        refine go_if h (fun hb14 h => ?_) (fun hb14 h => ?_)
        · rw [hb14]
          refine gx mo [.pc p69_8, .blk 0, .pc p69_31] 25 [(2, (.ifc 137 (.agg [])))] [.row 7 [(ApiBlock.v y12)], .row 7 [(ApiBlock.v y12)]] 7 [] ?_
          refine go_inret (.ifc 137 (.agg [])) (by kernel_rfl) (noMark_ofB rfl) rfl ?_
          refine gx mo [.jp J1, .blk 0, .pc p46_26] 34 [(7, (i64 v1_0)), (15, (.sl (r4.map ApiBlock.v))), (16, (i64 (r4.length : Int))), (17, (i64 (IntKind.wrap .i64 (v1_1 + 1))))] [.row 7 [(ApiBlock.v y12)], .row 7 [(ApiBlock.v y12)], .row 1 [(.agg [(i64 0)])]] 19 [] ?_
          refine go_pick [] [] [(7, 0), (15, 0), (16, 0), (17, 0)] (t' := (mk 34 [(7, (i64 v1_0)), (15, (.sl (r4.map ApiBlock.v))), (16, (i64 (r4.length : Int))), (17, (i64 (IntKind.wrap .i64 (v1_1 + 1))))])) (s' := []) (by kernel_rfl) trivial rfl ?_
          exact go_back rfl (hJ1 m1 _ _ (Nat.lt_succ_self m1) ⟨v1_0, IntKind.wrap .i64 (v1_1 + 1), h, rfl, rfl⟩)
        · rw [hb14]
          refine gx mo [.pc p69_21, .blk 0, .pc p69_31] 25 [(1, (.ref 1 0 0)), (4, (i64 y12.Kind_)), (13, (.bool (decide (y12.Kind_ = 3))))] [.row 7 [(ApiBlock.v y12)], .row 7 [(ApiBlock.v y12)]] 6 [] ?_
          refine go_if h (fun hb15 h => ?_) (fun hb15 h => ?_)
          · rw [hb15]
            refine gx mo [.pc p69_12, .blk 0, .pc p69_31] 25 [(2, (.ifc 138 (.agg [])))] [.row 7 [(ApiBlock.v y12)], .row 7 [(ApiBlock.v y12)]] 7 [] ?_
            refine go_inret (.ifc 138 (.agg [])) (by kernel_rfl) (noMark_ofB rfl) rfl ?_
            refine gx mo [.jp J1, .blk 0, .pc p46_26] 34 [(7, (i64 v1_0)), (15, (.sl (r4.map ApiBlock.v))), (16, (i64 (r4.length : Int))), (17, (i64 (IntKind.wrap .i64 (v1_1 + 1))))] [.row 7 [(ApiBlock.v y12)], .row 7 [(ApiBlock.v y12)], .row 1 [(.agg [(i64 0)])]] 19 [] ?_
            refine go_pick [] [] [(7, 0), (15, 0), (16, 0), (17, 0)] (t' := (mk 34 [(7, (i64 v1_0)), (15, (.sl (r4.map ApiBlock.v))), (16, (i64 (r4.length : Int))), (17, (i64 (IntKind.wrap .i64 (v1_1 + 1))))])) (s' := []) (by kernel_rfl) trivial rfl ?_
            exact go_back rfl (hJ1 m1 _ _ (Nat.lt_succ_self m1) ⟨v1_0, IntKind.wrap .i64 (v1_1 + 1), h, rfl, rfl⟩)
          · rw [hb15]
            refine gx mo [.pc p69_19, .blk 0, .pc p69_31] 25 [(1, (.ref 1 0 0)), (17, (.bool (decide (y12.Kind_ = 4))))] [.row 7 [(ApiBlock.v y12)], .row 7 [(ApiBlock.v y12)]] 6 [] ?_
            refine go_if h (fun hb16 h => ?_) (fun hb16 h => ?_)
            · rw [hb16]
              refine gx mo [.pc p69_16, .blk 0, .pc p69_31] 25 [(2, (.ifc 121 (.agg [(i64 y12.Amount_)])))] [.row 7 [(ApiBlock.v y12)], .row 7 [(ApiBlock.v y12)]] 9 [] ?_
              refine go_inret (.ifc 121 (.agg [(i64 y12.Amount_)])) (by kernel_rfl) (noMark_ofB rfl) rfl ?_
              refine gx mo [.jp J1, .blk 0, .pc p46_26] 34 [(7, (i64 (IntKind.wrap .i64 (v1_0 + y12.Amount_)))), (15, (.sl (r4.map ApiBlock.v))), (16, (i64 (r4.length : Int))), (17, (i64 (IntKind.wrap .i64 (v1_1 + 1))))] [.row 7 [(ApiBlock.v y12)], .row 7 [(ApiBlock.v y12)], .row 1 [(.agg [(i64 y12.Amount_)])]] 25 [] ?_
              refine go_pick [] [] [(7, 0), (15, 0), (16, 0), (17, 0)] (t' := (mk 34 [(7, (i64 (IntKind.wrap .i64 (v1_0 + y12.Amount_)))), (15, (.sl (r4.map ApiBlock.v))), (16, (i64 (r4.length : Int))), (17, (i64 (IntKind.wrap .i64 (v1_1 + 1))))])) (s' := []) (by kernel_rfl) trivial rfl ?_
              exact go_back rfl (hJ1 m1 _ _ (Nat.lt_succ_self m1) ⟨IntKind.wrap .i64 (v1_0 + y12.Amount_), IntKind.wrap .i64 (v1_1 + 1), h, rfl, rfl⟩)
            · rw [hb16]
              refine gx mo [.pc p69_30] 25 [(2, (.ifc 139 (.agg [])))] [.row 7 [(ApiBlock.v y12)], .row 7 [(ApiBlock.v y12)]] 9 [] ?_
              refine go_inret (.ifc 139 (.agg [])) (by kernel_rfl) (noMark_ofB rfl) rfl ?_
              refine gx mo [.jp J1, .blk 0, .pc p46_26] 34 [(7, (i64 v1_0)), (15, (.sl (r4.map ApiBlock.v))), (16, (i64 (r4.length : Int))), (17, (i64 (IntKind.wrap .i64 (v1_1 + 1))))] [.row 7 [(ApiBlock.v y12)], .row 7 [(ApiBlock.v y12)], .row 1 [(.agg [(i64 0)])]] 19 [] ?_
              refine go_pick [] [] [(7, 0), (15, 0), (16, 0), (17, 0)] (t' := (mk 34 [(7, (i64 v1_0)), (15, (.sl (r4.map ApiBlock.v))), (16, (i64 (r4.length : Int))), (17, (i64 (IntKind.wrap .i64 (v1_1 + 1))))])) (s' := []) (by kernel_rfl) trivial rfl ?_
              exact go_back rfl (hJ1 m1 _ _ (Nat.lt_succ_self m1) ⟨v1_0, IntKind.wrap .i64 (v1_1 + 1), h, rfl, rfl⟩)
    · rw [hb11]
      refine gx mo [.pc p46_26] 34 [(7, (i64 v1_0))] [] 2 [] ?_
      exact kont1_0 v1_0 h
/-! corebank/limit.Available -/
def p12_10 : PC := .ret
def p12_11 : PC := (.seq (.drawn (oo 20 (.fa 19 (.t 3)) :: oo 21 (.ld1 (.t 20)) :: om 22 1 :: ⟨some 23, .call 26 [.t 21, .t 22], none⟩ :: om 24 8 :: oo 25 (.bin .sub .other false (.t 23) (.t 24)) :: oo 26 (.fa 20 (.t 3)) :: oo 27 (.ld1 (.t 26)) :: om 28 1 :: om 29 2 :: ⟨some 30, .call 45 [.t 27, .t 28, .t 29], none⟩ :: oo 31 (.bin .sub .other false (.t 25) (.t 30)) :: oo 32 (.fa 21 (.t 3)) :: oo 33 (.ld1 (.t 32)) :: om 34 1 :: om 35 2 :: ⟨some 36, .call 46 [.t 33, .t 34, .t 35], none⟩ :: oo 37 (.bin .sub .other false (.t 31) (.t 36)) :: om 6 37 :: oo 7 (.mv (.c (.int .i64 0))) :: []) [[], [0], [], [1, 2], [], [3, 4], [], [6], [], [], [7, 8, 9, 3], [5, 10], [], [12], [], [], [13, 14, 15, 10], [11, 16], [17, 16, 0, 1, 2, 3, 4, 5, 6, 7, 8, 9, 10, 11, 12, 13, 14, 15, 16, 17], [18, 0, 1, 2, 3, 4, 5, 6, 7, 8, 9, 10, 11, 12, 13, 14, 15, 16, 17, 18]]) p12_10)
def p12_4 : PC := .ret
def p12_7 : PC := (.cond (.t 18) (.seq (.reg (om 19 9 :: oo 6 (.mv (.c (.int .i64 0))) :: om 7 19 :: [])) p12_4) .skip)
def p12_14 : PC := (.seq (.reg (oo 3 (.box (.t 0)) :: oo 6 (.mv (.c (.int .i64 0))) :: oo 7 (.mv (.c (.int .i64 0))) :: [])) (.seq (.reg (oo 11 (.ldA 22 (.t 3)) :: om 12 1 :: om 13 2 :: ⟨some 14, .call 10 [.t 11, .t 12, .t 13], none⟩ :: om 10 14 :: oo 15 (.ext 0 (.t 10)) :: oo 16 (.ext 1 (.t 10)) :: om 8 15 :: om 9 16 :: [])) (.seq (.seq (.reg (om 17 9 :: oo 18 (.bin .neq .other true (.t 17) (.c (.int .i64 0))) :: [])) p12_7) p12_11)))
theorem fn12 : FnOk Tryz.prog 12 p12_14 38 [.t 6, .t 7] := ⟨false, Tryz.f12, _, Tryz.func12, by decide, rfl, by kernel_rfl, rfl, by kernel_rfl⟩
def F_limit_Available  (N : Nat) (a1 : ApiBooks) (a2 : Int) (a3 : Int) : Option (Int × Int) :=
      (F_limit_Floor N a1 a2 a3).bind fun r4 =>
    bif !decide (r4.2 = 0) then
    (some (0, r4.2))
    else
    ((F_balance_Of N a1.Journal_ a2).bind fun r6 =>
    (F_hold_Total N a1.Holds_ a2 a3).bind fun r7 =>
    (F_blocking_Reserved N a1.Blocks_ a2 a3).bind fun r8 =>
    some (IntKind.wrap .i64 ((IntKind.wrap .i64 ((IntKind.wrap .i64 (r6 - r4.1)) - r7)) - r8), 0))
theorem P_limit_Available  {N : Nat} {a1 : ApiBooks} {a2 : Int} {a3 : Int} {r : Int × Int} (h : F_limit_Available N a1 a2 a3 = some r) : Pure Tryz.prog (Gl.at 0) 12 [(ApiBooks.v a1), (i64 a2), (i64 a3)] (.tup [(i64 r.1), (i64 r.2)]) := by
  refine pure_run fn12 ?_
  rw [F_limit_Available] at h
  replace h := bs h
  change GG [.t 6, .t 7] _ [.pc p12_14] (mk 38 [(0, (ApiBooks.v a1)), (1, (i64 a2)), (2, (i64 a3))]) []
  refine go_bind h (fun r4 hr4 h => ?_)
  refine gx mo [.pc p12_7, .pc p12_11] 38 [(1, (i64 a2)), (2, (i64 a3)), (3, (.ref 0 0 0)), (8, (i64 r4.1)), (9, (i64 r4.2)), (18, (.bool (!decide (r4.2 = 0))))] [.row 22 [(ApiBooks.v a1)]] 24 [tc 6 [.row 22 [(ApiBooks.v a1)]] (P_limit_Floor hr4) (fg (fs (fs fl_nil)))] ?_
  refine go_if h (fun hb5 h => ?_) (fun hb5 h => ?_)
  · rw [hb5]
    refine gx mo [.pc p12_4, .pc p12_11] 38 [(6, (i64 0)), (7, (i64 r4.2))] [.row 22 [(ApiBooks.v a1)]] 7 [] ?_
    obtain rfl := Option.some.inj h
    exact gf (.tup [(i64 0), (i64 r4.2)]) (f_tupl (fs (fs fl_nil)))
  · rw [hb5]
    refine go_bind h (fun r6 hr6 h => ?_)
    refine go_bind h (fun r7 hr7 h => ?_)
    refine go_bind h (fun r8 hr8 h => ?_)
    refine gx mo [.pc p12_10] 38 [(6, (i64 (IntKind.wrap .i64 ((IntKind.wrap .i64 ((IntKind.wrap .i64 (r6 - r4.1)) - r7)) - r8)))), (7, (i64 0))] [.row 22 [(ApiBooks.v a1)]] 4 [tgc 4 [.row 22 [(ApiBooks.v a1)]] (P_balance_Of hr6) (fs (fs fl_nil)), tgc 11 [.row 22 [(ApiBooks.v a1)]] (P_hold_Total hr7) (fs (fs (fs fl_nil))), tgc 17 [.row 22 [(ApiBooks.v a1)]] (P_blocking_Reserved hr8) (fs (fs (fs fl_nil)))] ?_
    obtain rfl := Option.some.inj h
    exact gf (.tup [(i64 (IntKind.wrap .i64 ((IntKind.wrap .i64 ((IntKind.wrap .i64 (r6 - r4.1)) - r7)) - r8))), (i64 0)]) (f_tupl (fs (fs fl_nil)))
end
end Go.TL
