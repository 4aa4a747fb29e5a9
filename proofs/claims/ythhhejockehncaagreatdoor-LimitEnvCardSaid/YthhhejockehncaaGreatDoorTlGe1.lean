/- The program's functions as Lean's own, with proofs. -/
import Derived.Test.YthhhejockehncaaGreatDoorTlGe0
set_option maxRecDepth 20000
set_option linter.all false
set_option linter.unusedVariables false
namespace Go.TL
open Go Go.Proofs
noncomputable section
open Go.RowKit Go.Lib
/-! corebank/corebankref24.Active -/
def p35_3 : PC := .ret
def p35_6 : PC := (.seq (.reg (oo 3 (.box (.t 0)) :: oo 6 (.mv (.c (.bool false))) :: [])) (.seq (.reg (oo 10 (.ldA 22 (.t 3)) :: om 11 1 :: ⟨some 12, .call 33 [.t 10, .t 11], none⟩ :: om 9 12 :: oo 13 (.ext 0 (.t 9)) :: oo 14 (.ext 1 (.t 9)) :: oo 7 (.new (.agg [.int .i64 0, .int .i64 0, .int .i64 0, .int .i64 0, .str [], .str [], .str []])) :: on_ (.st 7 (.t 7) (.t 13)) :: om 8 14 :: [])) (.seq (.reg (om 15 8 :: om 16 15 :: ⟨some 17, .op (.fa 1 (.t 7)), some (16, true)⟩ :: ⟨some 18, .op (.ld1 (.t 17)), some (16, true)⟩ :: ⟨some 19, .op (.mv (.t 2)), some (16, true)⟩ :: ⟨some 20, .op (.bin .leq .other false (.t 18) (.t 19)), some (16, true)⟩ :: oo 21 (.pick (.t 16) (.t 20) (.c (.bool false))) :: om 22 21 :: ⟨some 23, .op (.fa 2 (.t 7)), some (22, true)⟩ :: ⟨some 24, .op (.ld1 (.t 23)), some (22, true)⟩ :: ⟨some 25, .op (.bin .eql .other true (.t 24) (.c (.int .i64 0))), some (22, true)⟩ :: ⟨some 26, .op (.mv (.t 25)), some (22, true)⟩ :: ⟨some 27, .op (.fa 2 (.t 7)), some (26, false)⟩ :: ⟨some 28, .op (.ld1 (.t 27)), some (26, false)⟩ :: ⟨some 29, .op (.mv (.t 2)), some (26, false)⟩ :: ⟨some 30, .op (.bin .gtr .other false (.t 28) (.t 29)), some (26, false)⟩ :: ⟨some 31, .op (.pick (.t 26) (.c (.bool true)) (.t 30)), some (22, true)⟩ :: oo 32 (.pick (.t 22) (.t 31) (.c (.bool false))) :: om 6 32 :: [])) p35_3)))
theorem fn35 : FnOk Tryz.prog 35 p35_6 33 [.t 6] := ⟨false, Tryz.f35, _, Tryz.func35, by decide, rfl, by kernel_rfl, rfl, by kernel_rfl⟩
def F_r24_Active  (N : Nat) (a1 : ApiBooks) (a2 : Int) (a3 : Int) : Option (Bool) :=
      (F_r24_Find N a1 a2).bind fun r4 =>
    bif r4.2 then
    (bif decide (r4.1.Opened_ ≤ a3) then
    (bif decide (r4.1.Closed_ = 0) then
    (some true)
    else
    (some (decide (a3 < r4.1.Closed_))))
    else
    (some false))
    else
    (some false)
theorem P_r24_Active  {N : Nat} {a1 : ApiBooks} {a2 : Int} {a3 : Int} {r : Bool} (h : F_r24_Active N a1 a2 a3 = some r) : Pure Tryz.prog (Gl.at 0) 35 [(ApiBooks.v a1), (i64 a2), (i64 a3)] (.bool r) := by
  refine pure_run fn35 ?_
  rw [F_r24_Active] at h
  replace h := bs h
  change GG [.t 6] _ [.pc p35_6] (mk 33 [(0, (ApiBooks.v a1)), (1, (i64 a2)), (2, (i64 a3))]) []
  refine go_bind h (fun r4 hr4 h => ?_)
  refine go_if h (fun hb5 h => ?_) (fun hb5 h => ?_)
  · refine go_if h (fun hb6 h => ?_) (fun hb6 h => ?_)
    · refine go_if h (fun hb7 h => ?_) (fun hb7 h => ?_)
      · refine gx mo [.pc p35_3] 33 [(6, (.bool true))] [.row 22 [(ApiBooks.v a1)], .row 7 [(ApiAccount.v r4.1)]] 39 [tc 4 [.row 22 [(ApiBooks.v a1)]] (P_r24_Find hr4) (fg (fs fl_nil)), twb 11 [.row 22 [(ApiBooks.v a1)], .row 7 [(ApiAccount.v r4.1)]] (.mv (.c (.bool r4.2))) (r4.2) true hb5, twb 17 [.row 22 [(ApiBooks.v a1)], .row 7 [(ApiAccount.v r4.1)]] (.pick (.c (.bool true)) (.c (.bool (decide (r4.1.Opened_ ≤ a3)))) (.c (.bool false))) (decide (r4.1.Opened_ ≤ a3)) true hb6, twb 21 [.row 22 [(ApiBooks.v a1)], .row 7 [(ApiAccount.v r4.1)]] (.bin .eql .other true (.c (i64 r4.1.Closed_)) (.c (i64 0))) (decide (r4.1.Closed_ = 0)) true hb7] ?_
        obtain rfl := Option.some.inj h
        exact gf (.bool true) (.same rfl)
      · refine gx mo [.pc p35_3] 33 [(6, (.bool (decide (a3 < r4.1.Closed_))))] [.row 22 [(ApiBooks.v a1)], .row 7 [(ApiAccount.v r4.1)]] 39 [tc 4 [.row 22 [(ApiBooks.v a1)]] (P_r24_Find hr4) (fg (fs fl_nil)), twb 11 [.row 22 [(ApiBooks.v a1)], .row 7 [(ApiAccount.v r4.1)]] (.mv (.c (.bool r4.2))) (r4.2) true hb5, twb 17 [.row 22 [(ApiBooks.v a1)], .row 7 [(ApiAccount.v r4.1)]] (.pick (.c (.bool true)) (.c (.bool (decide (r4.1.Opened_ ≤ a3)))) (.c (.bool false))) (decide (r4.1.Opened_ ≤ a3)) true hb6, twb 21 [.row 22 [(ApiBooks.v a1)], .row 7 [(ApiAccount.v r4.1)]] (.bin .eql .other true (.c (i64 r4.1.Closed_)) (.c (i64 0))) (decide (r4.1.Closed_ = 0)) false hb7] ?_
        obtain rfl := Option.some.inj h
        exact gf (.bool (decide (a3 < r4.1.Closed_))) (.same rfl)
    · refine gx mo [.pc p35_3] 33 [(6, (.bool false))] [.row 22 [(ApiBooks.v a1)], .row 7 [(ApiAccount.v r4.1)]] 39 [tc 4 [.row 22 [(ApiBooks.v a1)]] (P_r24_Find hr4) (fg (fs fl_nil)), twb 11 [.row 22 [(ApiBooks.v a1)], .row 7 [(ApiAccount.v r4.1)]] (.mv (.c (.bool r4.2))) (r4.2) true hb5, twb 17 [.row 22 [(ApiBooks.v a1)], .row 7 [(ApiAccount.v r4.1)]] (.pick (.c (.bool true)) (.c (.bool (decide (r4.1.Opened_ ≤ a3)))) (.c (.bool false))) (decide (r4.1.Opened_ ≤ a3)) false hb6] ?_
      obtain rfl := Option.some.inj h
      exact gf (.bool false) (.same rfl)
  · refine gx mo [.pc p35_3] 33 [(6, (.bool false))] [.row 22 [(ApiBooks.v a1)], .row 7 [(ApiAccount.v r4.1)]] 39 [tc 4 [.row 22 [(ApiBooks.v a1)]] (P_r24_Find hr4) (fg (fs fl_nil)), twb 11 [.row 22 [(ApiBooks.v a1)], .row 7 [(ApiAccount.v r4.1)]] (.mv (.c (.bool r4.2))) (r4.2) false hb5] ?_
    obtain rfl := Option.some.inj h
    exact gf (.bool false) (.same rfl)
/-! corebank/corebankref04.Leap -/
def p95_2 : PC := .ret
def p95_4 : PC := (.seq (.reg (oo 2 (.mv (.c (.bool false))) :: [])) (.seq (.reg (om 3 0 :: oo 4 (.bin .rem .other true (.t 3) (.c (.int .i64 4))) :: oo 5 (.bin .eql .other true (.t 4) (.c (.int .i64 0))) :: om 6 5 :: ⟨some 7, .op (.mv (.t 0)), some (6, true)⟩ :: ⟨some 8, .op (.bin .rem .other true (.t 7) (.c (.int .i64 100))), some (6, true)⟩ :: ⟨some 9, .op (.bin .neq .other true (.t 8) (.c (.int .i64 0))), some (6, true)⟩ :: ⟨some 10, .op (.mv (.t 9)), some (6, true)⟩ :: ⟨some 11, .op (.mv (.t 0)), some (10, false)⟩ :: ⟨some 12, .op (.bin .rem .other true (.t 11) (.c (.int .i64 400))), some (10, false)⟩ :: ⟨some 13, .op (.bin .eql .other true (.t 12) (.c (.int .i64 0))), some (10, false)⟩ :: ⟨some 14, .op (.pick (.t 10) (.c (.bool true)) (.t 13)), some (6, true)⟩ :: oo 15 (.pick (.t 6) (.t 14) (.c (.bool false))) :: om 2 15 :: [])) p95_2))
theorem fn95 : FnOk Tryz.prog 95 p95_4 16 [.t 2] := ⟨false, Tryz.f95, _, Tryz.func95, by decide, rfl, by kernel_rfl, rfl, by kernel_rfl⟩
def F_r04_Leap  (N : Nat) (a1 : Int) : Option (Bool) :=
      bif decide ((Int.tmod a1 4) = 0) then
    (bif !decide ((Int.tmod a1 100) = 0) then
    (some true)
    else
    (some (decide ((Int.tmod a1 400) = 0))))
    else
    (some false)
theorem P_r04_Leap  {N : Nat} {a1 : Int} {r : Bool} (h : F_r04_Leap N a1 = some r) : Pure Tryz.prog (Gl.at 0) 95 [(i64 a1)] (.bool r) := by
  refine pure_run fn95 ?_
  rw [F_r04_Leap] at h
  replace h := bs h
  change GG [.t 2] _ [.pc p95_4] (mk 16 [(0, (i64 a1))]) []
  refine go_if h (fun hb2 h => ?_) (fun hb2 h => ?_)
  · refine go_if h (fun hb3 h => ?_) (fun hb3 h => ?_)
    · refine gx mo [.pc p95_2] 16 [(2, (.bool true))] [] 21 [twb 3 [] (.bin .eql .other true (.c (i64 (Int.tmod a1 4))) (.c (i64 0))) (decide ((Int.tmod a1 4) = 0)) true hb2, twb 7 [] (.bin .neq .other true (.c (i64 (Int.tmod a1 100))) (.c (i64 0))) (!decide ((Int.tmod a1 100) = 0)) true hb3] ?_
      obtain rfl := Option.some.inj h
      exact gf (.bool true) (.same rfl)
    · refine gx mo [.pc p95_2] 16 [(2, (.bool (decide ((Int.tmod a1 400) = 0))))] [] 21 [twb 3 [] (.bin .eql .other true (.c (i64 (Int.tmod a1 4))) (.c (i64 0))) (decide ((Int.tmod a1 4) = 0)) true hb2, twb 7 [] (.bin .neq .other true (.c (i64 (Int.tmod a1 100))) (.c (i64 0))) (!decide ((Int.tmod a1 100) = 0)) false hb3] ?_
      obtain rfl := Option.some.inj h
      exact gf (.bool (decide ((Int.tmod a1 400) = 0))) (.same rfl)
  · refine gx mo [.pc p95_2] 16 [(2, (.bool false))] [] 21 [twb 3 [] (.bin .eql .other true (.c (i64 (Int.tmod a1 4))) (.c (i64 0))) (decide ((Int.tmod a1 4) = 0)) false hb2] ?_
    obtain rfl := Option.some.inj h
    exact gf (.bool false) (.same rfl)
/-! corebank/corebankref04.yearLength -/
def p85_9 : PC := .ret
def p85_10 : PC := (.seq (.reg (oo 2 (.mv (.c (.int .i64 365))) :: [])) p85_9)
def p85_3 : PC := .ret
def p85_6 : PC := (.cond (.t 4) (.seq (.reg (oo 2 (.mv (.c (.int .i64 366))) :: [])) p85_3) .skip)
def p85_12 : PC := (.seq (.reg (oo 2 (.mv (.c (.int .i64 0))) :: [])) (.seq (.seq (.reg (om 3 0 :: ⟨some 4, .call 95 [.t 3], none⟩ :: [])) p85_6) p85_10))
theorem fn85 : FnOk Tryz.prog 85 p85_12 5 [.t 2] := ⟨false, Tryz.f85, _, Tryz.func85, by decide, rfl, by kernel_rfl, rfl, by kernel_rfl⟩
def F_r04_yearLength  (N : Nat) (a1 : Int) : Option (Int) :=
      (F_r04_Leap N a1).bind fun r2 =>
    bif r2 then
    (some 366)
    else
    (some 365)
theorem P_r04_yearLength  {N : Nat} {a1 : Int} {r : Int} (h : F_r04_yearLength N a1 = some r) : Pure Tryz.prog (Gl.at 0) 85 [(i64 a1)] (i64 r) := by
  refine pure_run fn85 ?_
  rw [F_r04_yearLength] at h
  replace h := bs h
  change GG [.t 2] _ [.pc p85_12] (mk 5 [(0, (i64 a1))]) []
  refine go_bind h (fun r2 hr2 h => ?_)
  refine gx mo [.pc p85_6, .pc p85_10] 5 [(4, (.bool r2))] [] 10 [tc 2 [] (P_r04_Leap hr2) (fs fl_nil)] ?_
  refine go_if h (fun hb3 h => ?_) (fun hb3 h => ?_)
  · rw [hb3]
    refine gx mo [.pc p85_3, .pc p85_10] 5 [(2, (i64 366))] [] 5 [] ?_
    obtain rfl := Option.some.inj h
    exact gf (i64 366) (.same rfl)
  · rw [hb3]
    refine gx mo [.pc p85_9] 5 [(2, (i64 365))] [] 6 [] ?_
    obtain rfl := Option.some.inj h
    exact gf (i64 365) (.same rfl)
/-! corebank/corebankref04.Length -/
def p86_68 : PC := .ret
def p86_69 : PC := (.seq (.reg (oo 4 (.mv (.c (.int .i64 0))) :: [])) p86_68)
def p86_55 : PC := .ret
def p86_56 : PC := (.seq (.reg (oo 4 (.mv (.c (.int .i64 28))) :: [])) p86_55)
def p86_49 : PC := .ret
def p86_52 : PC := (.cond (.t 22) (.seq (.reg (oo 4 (.mv (.c (.int .i64 29))) :: [])) p86_49) .skip)
def p86_59 : PC := (.cond (.t 19) (.seq (.seq (.reg (om 21 0 :: ⟨some 22, .call 95 [.t 21], none⟩ :: [])) p86_52) p86_56) .skip)
def p86_44 : PC := .ret
def p86_61 : PC := (.cond (.t 14) (.seq (.reg (oo 4 (.mv (.c (.int .i64 30))) :: [])) p86_44) (.seq (.reg (oo 20 (.bin .eql .other true (.t 5) (.c (.int .i64 2))) :: om 19 20 :: [])) p86_59))
def p86_37 : PC := (.cond (.t 14) .skip (.reg (oo 18 (.bin .eql .other true (.t 5) (.c (.int .i64 11))) :: om 14 18 :: [])))
def p86_39 : PC := (.cond (.t 14) .skip (.seq (.reg (oo 17 (.bin .eql .other true (.t 5) (.c (.int .i64 9))) :: om 14 17 :: [])) p86_37))
def p86_41 : PC := (.cond (.t 14) .skip (.seq (.reg (oo 16 (.bin .eql .other true (.t 5) (.c (.int .i64 6))) :: om 14 16 :: [])) p86_39))
def p86_28 : PC := .ret
def p86_63 : PC := (.cond (.t 6) (.seq (.reg (oo 4 (.mv (.c (.int .i64 31))) :: [])) p86_28) (.seq (.seq (.reg (oo 15 (.bin .eql .other true (.t 5) (.c (.int .i64 4))) :: om 14 15 :: [])) p86_41) p86_61))
def p86_15 : PC := (.cond (.t 6) .skip (.reg (oo 13 (.bin .eql .other true (.t 5) (.c (.int .i64 12))) :: om 6 13 :: [])))
def p86_17 : PC := (.cond (.t 6) .skip (.seq (.reg (oo 12 (.bin .eql .other true (.t 5) (.c (.int .i64 10))) :: om 6 12 :: [])) p86_15))
def p86_19 : PC := (.cond (.t 6) .skip (.seq (.reg (oo 11 (.bin .eql .other true (.t 5) (.c (.int .i64 8))) :: om 6 11 :: [])) p86_17))
def p86_21 : PC := (.cond (.t 6) .skip (.seq (.reg (oo 10 (.bin .eql .other true (.t 5) (.c (.int .i64 7))) :: om 6 10 :: [])) p86_19))
def p86_23 : PC := (.cond (.t 6) .skip (.seq (.reg (oo 9 (.bin .eql .other true (.t 5) (.c (.int .i64 5))) :: om 6 9 :: [])) p86_21))
def p86_25 : PC := (.cond (.t 6) .skip (.seq (.reg (oo 8 (.bin .eql .other true (.t 5) (.c (.int .i64 3))) :: om 6 8 :: [])) p86_23))
def p86_71 : PC := (.seq (.reg (oo 4 (.mv (.c (.int .i64 0))) :: [])) (.seq (.seq (.reg (om 5 1 :: [])) (.block 0 (.seq (.seq (.reg (oo 7 (.bin .eql .other true (.t 5) (.c (.int .i64 1))) :: om 6 7 :: [])) p86_25) p86_63))) p86_69))
theorem fn86 : FnOk Tryz.prog 86 p86_71 23 [.t 4] := ⟨false, Tryz.f86, _, Tryz.func86, by decide, rfl, by kernel_rfl, rfl, by kernel_rfl⟩
def F_r04_Length  (N : Nat) (a1 : Int) (a2 : Int) : Option (Int) :=
      bif decide (a2 = 1) then
    (some 31)
    else
    (bif decide (a2 = 3) then
    (some 31)
    else
    (bif decide (a2 = 5) then
    (some 31)
    else
    (bif decide (a2 = 7) then
    (some 31)
    else
    (bif decide (a2 = 8) then
    (some 31)
    else
    (bif decide (a2 = 10) then
    (some 31)
    else
    (bif decide (a2 = 12) then
    (some 31)
    else
    (bif decide (a2 = 4) then
    (some 30)
    else
    (bif decide (a2 = 6) then
    (some 30)
    else
    (bif decide (a2 = 9) then
    (some 30)
    else
    (bif decide (a2 = 11) then
    (some 30)
    else
    (bif decide (a2 = 2) then
    ((F_r04_Leap N a1).bind fun r15 =>
    bif r15 then
    (some 29)
    else
    (some 28))
    else
    (some 0))))))))))))
theorem P_r04_Length  {N : Nat} {a1 : Int} {a2 : Int} {r : Int} (h : F_r04_Length N a1 a2 = some r) : Pure Tryz.prog (Gl.at 0) 86 [(i64 a1), (i64 a2)] (i64 r) := by
  refine pure_run fn86 ?_
  rw [F_r04_Length] at h
  replace h := bs h
  change GG [.t 4] _ [.pc p86_71] (mk 23 [(0, (i64 a1)), (1, (i64 a2))]) []
  refine gx mo [.pc p86_25, .pc p86_63, .blk 0, .pc p86_69] 23 [(0, (i64 a1)), (5, (i64 a2)), (6, (.bool (decide (a2 = 1))))] [] 16 [] ?_
  refine go_if h (fun hb3 h => ?_) (fun hb3 h => ?_)
  · rw [hb3]
    refine gx mo [.pc p86_28, .blk 0, .pc p86_69] 23 [(4, (i64 31))] [] 7 [] ?_
    obtain rfl := Option.some.inj h
    exact gf (i64 31) (.same rfl)
  · rw [hb3]
    refine gx mo [.pc p86_23, .pc p86_63, .blk 0, .pc p86_69] 23 [(0, (i64 a1)), (5, (i64 a2)), (6, (.bool (decide (a2 = 3))))] [] 6 [] ?_
    refine go_if h (fun hb4 h => ?_) (fun hb4 h => ?_)
    · rw [hb4]
      refine gx mo [.pc p86_28, .blk 0, .pc p86_69] 23 [(4, (i64 31))] [] 7 [] ?_
      obtain rfl := Option.some.inj h
      exact gf (i64 31) (.same rfl)
    · rw [hb4]
      refine gx mo [.pc p86_21, .pc p86_63, .blk 0, .pc p86_69] 23 [(0, (i64 a1)), (5, (i64 a2)), (6, (.bool (decide (a2 = 5))))] [] 6 [] ?_
      refine go_if h (fun hb5 h => ?_) (fun hb5 h => ?_)
      · rw [hb5]
        refine gx mo [.pc p86_28, .blk 0, .pc p86_69] 23 [(4, (i64 31))] [] 7 [] ?_
        obtain rfl := Option.some.inj h
        exact gf (i64 31) (.same rfl)
      · rw [hb5]
        refine gx mo [.pc p86_19, .pc p86_63, .blk 0, .pc p86_69] 23 [(0, (i64 a1)), (5, (i64 a2)), (6, (.bool (decide (a2 = 7))))] [] 6 [] ?_
        refine go_if h (fun hb6 h => ?_) (fun hb6 h => ?_)
        · rw [hb6]
          refine gx mo [.pc p86_28, .blk 0, .pc p86_69] 23 [(4, (i64 31))] [] 7 [] ?_
          obtain rfl := Option.some.inj h
          exact gf (i64 31) (.same rfl)
        · rw [hb6]
          refine gx mo [.pc p86_17, .pc p86_63, .blk 0, .pc p86_69] 23 [(0, (i64 a1)), (5, (i64 a2)), (6, (.bool (decide (a2 = 8))))] [] 6 [] ?_
          refine go_if h (fun hb7 h => ?_) (fun hb7 h => ?_)
          · rw [hb7]
            refine gx mo [.pc p86_28, .blk 0, .pc p86_69] 23 [(4, (i64 31))] [] 7 [] ?_
            obtain rfl := Option.some.inj h
            exact gf (i64 31) (.same rfl)
          · rw [hb7]
            refine gx mo [.pc p86_15, .pc p86_63, .blk 0, .pc p86_69] 23 [(0, (i64 a1)), (5, (i64 a2)), (6, (.bool (decide (a2 = 10))))] [] 6 [] ?_
            refine go_if h (fun hb8 h => ?_) (fun hb8 h => ?_)
            · rw [hb8]
              refine gx mo [.pc p86_28, .blk 0, .pc p86_69] 23 [(4, (i64 31))] [] 7 [] ?_
              obtain rfl := Option.some.inj h
              exact gf (i64 31) (.same rfl)
            · rw [hb8]
              refine gx mo [.pc p86_63, .blk 0, .pc p86_69] 23 [(0, (i64 a1)), (5, (i64 a2)), (6, (.bool (decide (a2 = 12))))] [] 5 [] ?_
              refine go_if h (fun hb9 h => ?_) (fun hb9 h => ?_)
              · rw [hb9]
                refine gx mo [.pc p86_28, .blk 0, .pc p86_69] 23 [(4, (i64 31))] [] 5 [] ?_
                obtain rfl := Option.some.inj h
                exact gf (i64 31) (.same rfl)
              · rw [hb9]
                refine gx mo [.pc p86_41, .pc p86_61, .blk 0, .pc p86_69] 23 [(0, (i64 a1)), (5, (i64 a2)), (14, (.bool (decide (a2 = 4))))] [] 7 [] ?_
                refine go_if h (fun hb10 h => ?_) (fun hb10 h => ?_)
                · rw [hb10]
                  refine gx mo [.pc p86_44, .blk 0, .pc p86_69] 23 [(4, (i64 30))] [] 7 [] ?_
                  obtain rfl := Option.some.inj h
                  exact gf (i64 30) (.same rfl)
                · rw [hb10]
                  refine gx mo [.pc p86_39, .pc p86_61, .blk 0, .pc p86_69] 23 [(0, (i64 a1)), (5, (i64 a2)), (14, (.bool (decide (a2 = 6))))] [] 6 [] ?_
                  refine go_if h (fun hb11 h => ?_) (fun hb11 h => ?_)
                  · rw [hb11]
                    refine gx mo [.pc p86_44, .blk 0, .pc p86_69] 23 [(4, (i64 30))] [] 7 [] ?_
                    obtain rfl := Option.some.inj h
                    exact gf (i64 30) (.same rfl)
                  · rw [hb11]
                    refine gx mo [.pc p86_37, .pc p86_61, .blk 0, .pc p86_69] 23 [(0, (i64 a1)), (5, (i64 a2)), (14, (.bool (decide (a2 = 9))))] [] 6 [] ?_
                    refine go_if h (fun hb12 h => ?_) (fun hb12 h => ?_)
                    · rw [hb12]
                      refine gx mo [.pc p86_44, .blk 0, .pc p86_69] 23 [(4, (i64 30))] [] 7 [] ?_
                      obtain rfl := Option.some.inj h
                      exact gf (i64 30) (.same rfl)
                    · rw [hb12]
                      refine gx mo [.pc p86_61, .blk 0, .pc p86_69] 23 [(0, (i64 a1)), (5, (i64 a2)), (14, (.bool (decide (a2 = 11))))] [] 5 [] ?_
                      refine go_if h (fun hb13 h => ?_) (fun hb13 h => ?_)
                      · rw [hb13]
                        refine gx mo [.pc p86_44, .blk 0, .pc p86_69] 23 [(4, (i64 30))] [] 5 [] ?_
                        obtain rfl := Option.some.inj h
                        exact gf (i64 30) (.same rfl)
                      · rw [hb13]
                        refine gx mo [.pc p86_59, .blk 0, .pc p86_69] 23 [(0, (i64 a1)), (19, (.bool (decide (a2 = 2))))] [] 6 [] ?_
                        refine go_if h (fun hb14 h => ?_) (fun hb14 h => ?_)
                        · rw [hb14]
                          refine go_bind h (fun r15 hr15 h => ?_)
                          refine gx mo [.pc p86_52, .pc p86_56, .blk 0, .pc p86_69] 23 [(22, (.bool r15))] [] 7 [tc 2 [] (P_r04_Leap hr15) (fs fl_nil)] ?_
                          refine go_if h (fun hb16 h => ?_) (fun hb16 h => ?_)
                          · rw [hb16]
                            refine gx mo [.pc p86_49, .pc p86_56, .blk 0, .pc p86_69] 23 [(4, (i64 29))] [] 5 [] ?_
                            obtain rfl := Option.some.inj h
                            exact gf (i64 29) (.same rfl)
                          · rw [hb16]
                            refine gx mo [.pc p86_55, .blk 0, .pc p86_69] 23 [(4, (i64 28))] [] 6 [] ?_
                            obtain rfl := Option.some.inj h
                            exact gf (i64 28) (.same rfl)
                        · rw [hb14]
                          refine gx mo [.pc p86_68] 23 [(4, (i64 0))] [] 7 [] ?_
                          obtain rfl := Option.some.inj h
                          exact gf (i64 0) (.same rfl)
/-! corebank/corebankref04.Civil -/
def p62_34 : PC := .ret
def p62_35 : PC := (.seq (.reg (om 32 5 :: om 33 6 :: om 34 0 :: oo 35 (.bin .add .other true (.t 34) (.c (.int .i64 1))) :: om 2 32 :: om 3 33 :: om 4 35 :: [])) p62_34)
def p62_29 : PC := (.block 3 (.seq (.reg (om 25 0 :: om 26 5 :: om 27 6 :: ⟨some 28, .call 86 [.t 26, .t 27], none⟩ :: oo 29 (.bin .sub .other false (.t 25) (.t 28)) :: om 0 29 :: [])) (.reg (om 30 6 :: oo 31 (.bin .add .other true (.t 30) (.c (.int .i64 1))) :: om 6 31 :: []))))
def p62_24 : PC := (.cond (.t 24) .skip (.exit 2))
def p62_31 : PC := (.loop (.seq (.seq (.reg (om 20 0 :: om 21 5 :: om 22 6 :: ⟨some 23, .call 86 [.t 21, .t 22], none⟩ :: oo 24 (.bin .geq .other false (.t 20) (.t 23)) :: [])) p62_24) p62_29))
def p62_36 : PC := (.seq (.block 2 p62_31) p62_35)
def p62_17 : PC := (.block 1 (.seq (.reg (om 14 0 :: om 15 5 :: ⟨some 16, .call 85 [.t 15], none⟩ :: oo 17 (.bin .sub .other false (.t 14) (.t 16)) :: om 0 17 :: [])) (.reg (om 18 5 :: oo 19 (.bin .add .other true (.t 18) (.c (.int .i64 1))) :: om 5 19 :: []))))
def p62_12 : PC := (.cond (.t 13) .skip (.exit 0))
def p62_19 : PC := (.loop (.seq (.seq (.reg (om 10 0 :: om 11 5 :: ⟨some 12, .call 85 [.t 11], none⟩ :: oo 13 (.bin .geq .other false (.t 10) (.t 12)) :: [])) p62_12) p62_17))
def p62_38 : PC := (.seq (.reg (oo 5 (.mv (.c (.int .i64 2000))) :: oo 6 (.mv (.c (.int .i64 1))) :: [])) (.seq (.block 0 p62_19) p62_36))
def p62_3 : PC := .ret
def p62_6 : PC := (.cond (.t 9) (.seq (.reg (oo 2 (.mv (.c (.int .i64 0))) :: oo 3 (.mv (.c (.int .i64 0))) :: oo 4 (.mv (.c (.int .i64 0))) :: [])) p62_3) .skip)
def p62_40 : PC := (.seq (.reg (oo 2 (.mv (.c (.int .i64 0))) :: oo 3 (.mv (.c (.int .i64 0))) :: oo 4 (.mv (.c (.int .i64 0))) :: [])) (.seq (.seq (.reg (om 7 0 :: ⟨some 8, .call 34 [.t 7], none⟩ :: oo 9 (.un .not (.t 8)) :: [])) p62_6) p62_38))
theorem fn62 : FnOk Tryz.prog 62 p62_40 36 [.t 2, .t 3, .t 4] := ⟨false, Tryz.f62, _, Tryz.func62, by decide, rfl, by kernel_rfl, rfl, by kernel_rfl⟩
def L_r04_Civil_2 (N : Nat) (x1_1 : Int) : Nat → Int → Int → Option (Int × Int)
  | 0, _, _ => none
  | m2 + 1, v2_0, v2_1 =>
    (F_r04_Length N x1_1 v2_1).bind fun r10 =>
    bif decide (r10 ≤ v2_0) then
    ((F_r04_Length N x1_1 v2_1).bind fun r12 =>
    (L_r04_Civil_2 N x1_1 m2) (IntKind.wrap .i64 (v2_0 - r12)) (IntKind.wrap .i64 (v2_1 + 1)))
    else
    (some (v2_0, v2_1))
def K_r04_Civil_2 (N : Nat) (x1_1 : Int) : (Int × Int) → Option (Int × Int × Int)
  | (x2_0, x2_1) =>
    some (x1_1, x2_1, IntKind.wrap .i64 (x2_0 + 1))
def L_r04_Civil_1 (N : Nat)  : Nat → Int → Int → Option (Int × Int)
  | 0, _, _ => none
  | m1 + 1, v1_0, v1_1 =>
    (F_r04_yearLength N v1_1).bind fun r13 =>
    bif decide (r13 ≤ v1_0) then
    ((F_r04_yearLength N v1_1).bind fun r15 =>
    (L_r04_Civil_1 N m1) (IntKind.wrap .i64 (v1_0 - r15)) (IntKind.wrap .i64 (v1_1 + 1)))
    else
    (some (v1_0, v1_1))
def K_r04_Civil_1 (N : Nat)  : (Int × Int) → Option (Int × Int × Int)
  | (x1_0, x1_1) =>
    (L_r04_Civil_2 N x1_1 N x1_0 1).bind (K_r04_Civil_2 N x1_1)
def F_r04_Civil  (N : Nat) (a1 : Int) : Option (Int × Int × Int) :=
      (F_r04_Valid N a1).bind fun r2 =>
    bif !r2 then
    (some (0, 0, 0))
    else
    ((L_r04_Civil_1 N N a1 2000).bind (K_r04_Civil_1 N))
theorem P_r04_Civil  {N : Nat} {a1 : Int} {r : Int × Int × Int} (h : F_r04_Civil N a1 = some r) : Pure Tryz.prog (Gl.at 0) 62 [(i64 a1)] (.tup [(i64 r.1), (i64 r.2.1), (i64 r.2.2)]) := by
  refine pure_run fn62 ?_
  rw [F_r04_Civil] at h
  replace h := bs h
  change GG [.t 2, .t 3, .t 4] _ [.pc p62_40] (mk 36 [(0, (i64 a1))]) []
  refine go_bind h (fun r2 hr2 h => ?_)
  refine gx mo [.pc p62_6, .pc p62_38] 36 [(0, (i64 a1)), (9, (.bool (!r2)))] [] 13 [tc 4 [] (P_r04_Valid hr2) (fs fl_nil)] ?_
  refine go_if h (fun hb3 h => ?_) (fun hb3 h => ?_)
  · rw [hb3]
    refine gx mo [.pc p62_3, .pc p62_38] 36 [(2, (i64 0)), (3, (i64 0)), (4, (i64 0))] [] 7 [] ?_
    obtain rfl := Option.some.inj h
    exact gf (.tup [(i64 0), (i64 0), (i64 0)]) (f_tupl (fs (fs (fs fl_nil))))
  · rw [hb3]
    refine gx mo [.pc p62_19, .blk 0, .pc p62_36] 36 [(0, (i64 a1)), (5, (i64 2000)), (6, (i64 1))] [] 9 [] ?_
    refine go_cut (X := Int × Int) (fun x => (K_r04_Civil_1 N x).bind some = some r) ([.pc p62_36]) (fun x => (mk 36 [(0, (i64 x.1)), (5, (i64 x.2)), (6, (i64 1))])) (fun x => []) ?_ fun kont1_0 => ?_
    · rintro ⟨x1_0, x1_1⟩ h
      rw [K_r04_Civil_1] at h
      refine gx mo [.pc p62_31, .blk 2, .pc p62_35] 36 [(0, (i64 x1_0)), (5, (i64 x1_1)), (6, (i64 1))] [] 2 [] ?_
      refine go_cut (X := Int × Int) (fun x => (K_r04_Civil_2 N x1_1 x).bind some = some r) ([.pc p62_35]) (fun x => (mk 36 [(0, (i64 x.1)), (5, (i64 x1_1)), (6, (i64 x.2))])) (fun x => []) ?_ fun kont2_0 => ?_
      · rintro ⟨x2_0, x2_1⟩ h
        rw [K_r04_Civil_2] at h
        refine gx mo [.pc p62_34] 36 [(2, (i64 x1_1)), (3, (i64 x2_1)), (4, (i64 (IntKind.wrap .i64 (x2_0 + 1))))] [] 10 [] ?_
        obtain rfl := Option.some.inj h
        exact gf (.tup [(i64 x1_1), (i64 x2_1), (i64 (IntKind.wrap .i64 (x2_0 + 1)))]) (f_tupl (fs (fs (fs fl_nil))))
      refine go_loop' (fun m t s => ∃ (v2_0 : Int) (v2_1 : Int), (L_r04_Civil_2 N x1_1 m v2_0 v2_1).bind (fun q => (K_r04_Civil_2 N x1_1 q).bind some) = some r ∧ t = (mk 36 [(0, (i64 v2_0)), (5, (i64 x1_1)), (6, (i64 v2_1))]) ∧ s = []) N ⟨x1_0, 1, go_assoc h, rfl, rfl⟩ ?_
      intro m2 J2 hJ2 t s
      rintro ⟨v2_0, v2_1, h, rfl, rfl⟩
      cases m2 with
      | zero => exact absurd h (by simp [L_r04_Civil_2])
      | succ m2 =>
        rw [L_r04_Civil_2] at h
        refine go_bind h (fun r10 hr10 h => ?_)
        refine gx mo [.pc p62_24, .pc p62_29, .jp J2, .blk 2, .pc p62_35] 36 [(0, (i64 v2_0)), (5, (i64 x1_1)), (6, (i64 v2_1)), (24, (.bool (decide (r10 ≤ v2_0))))] [] 9 [tc 3 [] (P_r04_Length hr10) (fs (fs fl_nil))] ?_
        refine go_if h (fun hb11 h => ?_) (fun hb11 h => ?_)
        · rw [hb11]
          refine go_bind h (fun r12 hr12 h => ?_)
          refine gx mo [.jp J2, .blk 2, .pc p62_35] 36 [(0, (i64 (IntKind.wrap .i64 (v2_0 - r12)))), (5, (i64 x1_1)), (6, (i64 (IntKind.wrap .i64 (v2_1 + 1))))] [] 18 [tc 4 [] (P_r04_Length hr12) (fs (fs fl_nil))] ?_
          exact go_back rfl (hJ2 m2 _ _ (Nat.lt_succ_self m2) ⟨IntKind.wrap .i64 (v2_0 - r12), IntKind.wrap .i64 (v2_1 + 1), h, rfl, rfl⟩)
        · rw [hb11]
          refine gx mo [.pc p62_35] 36 [(0, (i64 v2_0)), (5, (i64 x1_1)), (6, (i64 v2_1))] [] 2 [] ?_
          exact kont2_0 (v2_0, v2_1) h
    refine go_loop' (fun m t s => ∃ (v1_0 : Int) (v1_1 : Int), (L_r04_Civil_1 N m v1_0 v1_1).bind (fun q => (K_r04_Civil_1 N q).bind some) = some r ∧ t = (mk 36 [(0, (i64 v1_0)), (5, (i64 v1_1)), (6, (i64 1))]) ∧ s = []) N ⟨a1, 2000, go_assoc h, rfl, rfl⟩ ?_
    intro m1 J1 hJ1 t s
    rintro ⟨v1_0, v1_1, h, rfl, rfl⟩
    cases m1 with
    | zero => exact absurd h (by simp [L_r04_Civil_1])
    | succ m1 =>
      rw [L_r04_Civil_1] at h
      refine go_bind h (fun r13 hr13 h => ?_)
      refine gx mo [.pc p62_12, .pc p62_17, .jp J1, .blk 0, .pc p62_36] 36 [(0, (i64 v1_0)), (5, (i64 v1_1)), (6, (i64 1)), (13, (.bool (decide (r13 ≤ v1_0))))] [] 8 [tc 2 [] (P_r04_yearLength hr13) (fs fl_nil)] ?_
      refine go_if h (fun hb14 h => ?_) (fun hb14 h => ?_)
      · rw [hb14]
        refine go_bind h (fun r15 hr15 h => ?_)
        refine gx mo [.jp J1, .blk 0, .pc p62_36] 36 [(0, (i64 (IntKind.wrap .i64 (v1_0 - r15)))), (5, (i64 (IntKind.wrap .i64 (v1_1 + 1)))), (6, (i64 1))] [] 17 [tc 3 [] (P_r04_yearLength hr15) (fs fl_nil)] ?_
        exact go_back rfl (hJ1 m1 _ _ (Nat.lt_succ_self m1) ⟨IntKind.wrap .i64 (v1_0 - r15), IntKind.wrap .i64 (v1_1 + 1), h, rfl, rfl⟩)
      · rw [hb14]
        refine gx mo [.pc p62_36] 36 [(0, (i64 v1_0)), (5, (i64 v1_1)), (6, (i64 1))] [] 2 [] ?_
        exact kont1_0 (v1_0, v1_1) h
/-! corebank/corebankref25.First -/
def p36_3 : PC := .ret
def p36_6 : PC := (.seq (.reg (oo 2 (.mv (.c (.int .i64 0))) :: [])) (.seq (.reg (om 7 0 :: ⟨some 8, .call 62 [.t 7], none⟩ :: om 6 8 :: oo 9 (.ext 0 (.t 6)) :: oo 10 (.ext 1 (.t 6)) :: oo 11 (.ext 2 (.t 6)) :: om 3 9 :: om 4 10 :: om 5 11 :: [])) (.seq (.reg (om 12 0 :: om 13 5 :: oo 14 (.bin .sub .other false (.t 12) (.t 13)) :: oo 15 (.bin .add .other true (.t 14) (.c (.int .i64 1))) :: om 2 15 :: [])) p36_3)))
theorem fn36 : FnOk Tryz.prog 36 p36_6 16 [.t 2] := ⟨false, Tryz.f36, _, Tryz.func36, by decide, rfl, by kernel_rfl, rfl, by kernel_rfl⟩
def F_r25_First  (N : Nat) (a1 : Int) : Option (Int) :=
      (F_r04_Civil N a1).bind fun r2 =>
    some (IntKind.wrap .i64 ((IntKind.wrap .i64 (a1 - r2.2.2)) + 1))
theorem P_r25_First  {N : Nat} {a1 : Int} {r : Int} (h : F_r25_First N a1 = some r) : Pure Tryz.prog (Gl.at 0) 36 [(i64 a1)] (i64 r) := by
  refine pure_run fn36 ?_
  rw [F_r25_First] at h
  replace h := bs h
  change GG [.t 2] _ [.pc p36_6] (mk 16 [(0, (i64 a1))]) []
  refine go_bind h (fun r2 hr2 h => ?_)
  refine gx mo [.pc p36_3] 16 [(2, (i64 (IntKind.wrap .i64 ((IntKind.wrap .i64 (a1 - r2.2.2)) + 1))))] [] 24 [tc 2 [] (P_r04_Civil hr2) (fs fl_nil)] ?_
  obtain rfl := Option.some.inj h
  exact gf (i64 (IntKind.wrap .i64 ((IntKind.wrap .i64 (a1 - r2.2.2)) + 1))) (.same rfl)
/-! corebank/corebankref21.Turnover -/
def p37_48 : PC := .ret
def p37_49 : PC := (.seq (.reg (om 81 10 :: om 82 11 :: om 8 81 :: om 9 82 :: [])) p37_48)
def p37_41 : PC := (.reg (om 19 12 :: oo 20 (.bin .add .other true (.t 19) (.c (.int .i64 1))) :: om 12 20 :: []))
def p37_33 : PC := (.reg (om 45 13 :: oo 46 (.bin .add .other true (.t 45) (.c (.int .i64 1))) :: om 13 46 :: []))
def p37_28 : PC := (.cond (.t 76) (.reg (om 77 11 :: oo 78 (.fa 1 (.t 14)) :: oo 79 (.ld1 (.t 78)) :: oo 80 (.bin .sub .other false (.t 77) (.t 79)) :: om 11 80 :: [])) .skip)
def o37_25_3 : List PO := oo 71 (.bin .eql .other false (.t 69) (.t 70)) :: om 72 71 :: ⟨some 73, .op (.fa 1 (.t 14)), some (72, true)⟩ :: ⟨some 74, .op (.ld1 (.t 73)), some (72, true)⟩ :: ⟨some 75, .op (.bin .lss .other true (.t 74) (.c (.int .i64 0))), some (72, true)⟩ :: oo 76 (.pick (.t 72) (.t 75) (.c (.bool false))) :: []
def p37_29 : PC := (.seq (.reg (oo 68 (.fa 0 (.t 14)) :: oo 69 (.ld1 (.t 68)) :: om 70 1 :: o37_25_3)) p37_28)
def p37_23 : PC := (.cond (.t 63) (.reg (om 64 10 :: oo 65 (.fa 1 (.t 14)) :: oo 66 (.ld1 (.t 65)) :: oo 67 (.bin .add .other false (.t 64) (.t 66)) :: om 10 67 :: [])) .skip)
def p37_34 : PC := (.seq (.block 3 (.seq (.reg (om 47 0 :: om 48 12 :: oo 49 (.ia 10 (.t 47) (.t 48)) :: oo 50 (.fa 8 (.t 49)) :: oo 51 (.ld1 (.t 50)) :: om 52 13 :: oo 53 (.ia 3 (.t 51) (.t 52)) :: oo 54 (.ldA 3 (.t 53)) :: oo 14 (.new (.agg [.int .i64 0, .int .i64 0, .str []])) :: on_ (.st 3 (.t 14) (.t 54)) :: [])) (.seq (.seq (.reg (oo 55 (.fa 0 (.t 14)) :: oo 56 (.ld1 (.t 55)) :: om 57 1 :: oo 58 (.bin .eql .other false (.t 56) (.t 57)) :: om 59 58 :: ⟨some 60, .op (.fa 1 (.t 14)), some (59, true)⟩ :: ⟨some 61, .op (.ld1 (.t 60)), some (59, true)⟩ :: ⟨some 62, .op (.bin .gtr .other true (.t 61) (.c (.int .i64 0))), some (59, true)⟩ :: oo 63 (.pick (.t 59) (.t 62) (.c (.bool false))) :: [])) p37_23) p37_29))) p37_33)
def p37_17 : PC := (.cond (.t 44) .skip (.exit 2))
def p37_36 : PC := (.loop (.seq (.seq (.reg (om 37 13 :: om 38 0 :: om 39 12 :: oo 40 (.ia 10 (.t 38) (.t 39)) :: oo 41 (.fa 8 (.t 40)) :: oo 42 (.ld1 (.t 41)) :: oo 43 (.len .slice (.t 42)) :: oo 44 (.bin .lss .other false (.t 37) (.t 43)) :: [])) p37_17) p37_34))
def p37_38 : PC := (.seq (.reg (oo 13 (.mv (.c (.int .i64 0))) :: [])) (.block 2 p37_36))
def p37_11 : PC := (.cond (.t 36) (.exit 1) .skip)
def p37_42 : PC := (.seq (.block 1 (.seq (.seq (.reg (om 21 0 :: om 22 12 :: oo 23 (.ia 10 (.t 21) (.t 22)) :: oo 24 (.fa 1 (.t 23)) :: oo 25 (.ld1 (.t 24)) :: om 26 2 :: oo 27 (.bin .lss .other false (.t 25) (.t 26)) :: om 28 27 :: ⟨some 29, .op (.mv (.t 0)), some (28, false)⟩ :: ⟨some 30, .op (.mv (.t 12)), some (28, false)⟩ :: ⟨some 31, .op (.ia 10 (.t 29) (.t 30)), some (28, false)⟩ :: ⟨some 32, .op (.fa 1 (.t 31)), some (28, false)⟩ :: ⟨some 33, .op (.ld1 (.t 32)), some (28, false)⟩ :: ⟨some 34, .op (.mv (.t 3)), some (28, false)⟩ :: ⟨some 35, .op (.bin .gtr .other false (.t 33) (.t 34)), some (28, false)⟩ :: oo 36 (.pick (.t 28) (.c (.bool true)) (.t 35)) :: [])) p37_11) p37_38)) p37_41)
def p37_6 : PC := (.cond (.t 18) .skip (.exit 0))
def p37_44 : PC := (.loop (.seq (.seq (.reg (om 15 12 :: om 16 0 :: oo 17 (.len .slice (.t 16)) :: oo 18 (.bin .lss .other false (.t 15) (.t 17)) :: [])) p37_6) p37_42))
def p37_52 : PC := (.seq (.reg (oo 8 (.mv (.c (.int .i64 0))) :: oo 9 (.mv (.c (.int .i64 0))) :: [])) (.seq (.reg (oo 10 (.mv (.c (.int .i64 0))) :: oo 11 (.mv (.c (.int .i64 0))) :: [])) (.seq (.seq (.reg (oo 12 (.mv (.c (.int .i64 0))) :: [])) (.block 0 p37_44)) p37_49)))
theorem fn37 : FnOk Tryz.prog 37 p37_52 83 [.t 8, .t 9] := ⟨false, Tryz.f37, _, Tryz.func37, by decide, rfl, by kernel_rfl, rfl, by kernel_rfl⟩
def L_r21_Turnover_2 (N : Nat) (a1 : List ApiEntry) (a2 : Int) (v1_2 : Int) : Nat → Int → Int → Int → Option (Int × Int)
  | 0, _, _, _ => none
  | m2 + 1, v2_0, v2_1, v2_2 =>
    (getI a1 v1_2).bind fun y51 =>
    bif decide (v2_2 < (y51.Legs_.length : Int)) then
    ((getI a1 v1_2).bind fun y53 =>
    (getI y53.Legs_ v2_2).bind fun y54 =>
    bif decide (y54.Account_ = a2) then
    (bif decide (0 < y54.Amount_) then
    (bif decide (y54.Account_ = a2) then
    (bif decide (y54.Amount_ < 0) then
    ((L_r21_Turnover_2 N a1 a2 v1_2 m2) (IntKind.wrap .i64 (v2_0 + y54.Amount_)) (IntKind.wrap .i64 (v2_1 - y54.Amount_)) (IntKind.wrap .i64 (v2_2 + 1)))
    else
    ((L_r21_Turnover_2 N a1 a2 v1_2 m2) (IntKind.wrap .i64 (v2_0 + y54.Amount_)) v2_1 (IntKind.wrap .i64 (v2_2 + 1))))
    else
    ((L_r21_Turnover_2 N a1 a2 v1_2 m2) (IntKind.wrap .i64 (v2_0 + y54.Amount_)) v2_1 (IntKind.wrap .i64 (v2_2 + 1))))
    else
    (bif decide (y54.Account_ = a2) then
    (bif decide (y54.Amount_ < 0) then
    ((L_r21_Turnover_2 N a1 a2 v1_2 m2) v2_0 (IntKind.wrap .i64 (v2_1 - y54.Amount_)) (IntKind.wrap .i64 (v2_2 + 1)))
    else
    ((L_r21_Turnover_2 N a1 a2 v1_2 m2) v2_0 v2_1 (IntKind.wrap .i64 (v2_2 + 1))))
    else
    ((L_r21_Turnover_2 N a1 a2 v1_2 m2) v2_0 v2_1 (IntKind.wrap .i64 (v2_2 + 1)))))
    else
    (bif decide (y54.Account_ = a2) then
    (bif decide (y54.Amount_ < 0) then
    ((L_r21_Turnover_2 N a1 a2 v1_2 m2) v2_0 (IntKind.wrap .i64 (v2_1 - y54.Amount_)) (IntKind.wrap .i64 (v2_2 + 1)))
    else
    ((L_r21_Turnover_2 N a1 a2 v1_2 m2) v2_0 v2_1 (IntKind.wrap .i64 (v2_2 + 1))))
    else
    ((L_r21_Turnover_2 N a1 a2 v1_2 m2) v2_0 v2_1 (IntKind.wrap .i64 (v2_2 + 1)))))
    else
    (some (v2_0, v2_1))
def K_r21_Turnover_2 (N : Nat) (v1_2 : Int) (rl1 : Int → Int → Int → Option (Int × Int)) : (Int × Int) → Option (Int × Int)
  | (x2_0, x2_1) =>
    rl1 x2_0 x2_1 (IntKind.wrap .i64 (v1_2 + 1))
def L_r21_Turnover_1 (N : Nat) (a1 : List ApiEntry) (a2 : Int) (a3 : Int) (a4 : Int) : Nat → Int → Int → Int → Option (Int × Int)
  | 0, _, _, _ => none
  | m1 + 1, v1_0, v1_1, v1_2 =>
    bif decide (v1_2 < (a1.length : Int)) then
    ((getI a1 v1_2).bind fun y35 =>
    bif decide (y35.Booked_ < a3) then
    ((L_r21_Turnover_1 N a1 a2 a3 a4 m1) v1_0 v1_1 (IntKind.wrap .i64 (v1_2 + 1)))
    else
    ((getI a1 v1_2).bind fun y37 =>
    bif decide (a4 < y37.Booked_) then
    ((L_r21_Turnover_1 N a1 a2 a3 a4 m1) v1_0 v1_1 (IntKind.wrap .i64 (v1_2 + 1)))
    else
    ((L_r21_Turnover_2 N a1 a2 v1_2 N v1_0 v1_1 0).bind (K_r21_Turnover_2 N v1_2 (L_r21_Turnover_1 N a1 a2 a3 a4 m1)))))
    else
    (some (v1_0, v1_1))
def K_r21_Turnover_1 (N : Nat)  : (Int × Int) → Option (Int × Int)
  | (x1_0, x1_1) =>
    some (x1_0, x1_1)
def F_r21_Turnover  (N : Nat) (a1 : List ApiEntry) (a2 : Int) (a3 : Int) (a4 : Int) : Option (Int × Int) :=
      (L_r21_Turnover_1 N a1 a2 a3 a4 N 0 0 0).bind (K_r21_Turnover_1 N)
theorem P_r21_Turnover  {N : Nat} {a1 : List ApiEntry} {a2 : Int} {a3 : Int} {a4 : Int} {r : Int × Int} (h : F_r21_Turnover N a1 a2 a3 a4 = some r) : Pure Tryz.prog (Gl.at 0) 37 [(.sl (a1.map ApiEntry.v)), (i64 a2), (i64 a3), (i64 a4)] (.tup [(i64 r.1), (i64 r.2)]) := by
  refine pure_run fn37 ?_
  rw [F_r21_Turnover] at h
  replace h := bs h
  change GG [.t 8, .t 9] _ [.pc p37_52] (mk 83 [(0, (.sl (a1.map ApiEntry.v))), (1, (i64 a2)), (2, (i64 a3)), (3, (i64 a4))]) []
  refine gx mo [.pc p37_44, .blk 0, .pc p37_49] 83 [(0, (.sl (a1.map ApiEntry.v))), (1, (i64 a2)), (2, (i64 a3)), (3, (i64 a4)), (10, (i64 0)), (11, (i64 0)), (12, (i64 0))] [] 16 [] ?_
  refine go_cut (X := Int × Int) (fun x => (K_r21_Turnover_1 N x).bind some = some r) ([.pc p37_49]) (fun x => (mk 83 [(10, (i64 x.1)), (11, (i64 x.2))])) (fun x => []) ?_ fun kont1_0 => ?_
  · rintro ⟨x1_0, x1_1⟩ h
    rw [K_r21_Turnover_1] at h
    refine gx mo [.pc p37_48] 83 [(8, (i64 x1_0)), (9, (i64 x1_1))] [] 7 [] ?_
    obtain rfl := Option.some.inj h
    exact gf (.tup [(i64 x1_0), (i64 x1_1)]) (f_tupl (fs (fs fl_nil)))
  refine go_loop' (fun m t s => ∃ (v1_0 : Int) (v1_1 : Int) (v1_2 : Int), (L_r21_Turnover_1 N a1 a2 a3 a4 m v1_0 v1_1 v1_2).bind (fun q => (K_r21_Turnover_1 N q).bind some) = some r ∧ t = (mk 83 [(0, (.sl (a1.map ApiEntry.v))), (1, (i64 a2)), (2, (i64 a3)), (3, (i64 a4)), (10, (i64 v1_0)), (11, (i64 v1_1)), (12, (i64 v1_2))]) ∧ s = []) N ⟨0, 0, 0, go_assoc h, rfl, rfl⟩ ?_
  intro m1 J1 hJ1 t s
  rintro ⟨v1_0, v1_1, v1_2, h, rfl, rfl⟩
  cases m1 with
  | zero => exact absurd h (by simp [L_r21_Turnover_1])
  | succ m1 =>
    rw [L_r21_Turnover_1] at h
    refine gx mo [.pc p37_6, .pc p37_42, .jp J1, .blk 0, .pc p37_49] 83 [(0, (.sl (a1.map ApiEntry.v))), (1, (i64 a2)), (2, (i64 a3)), (3, (i64 a4)), (10, (i64 v1_0)), (11, (i64 v1_1)), (12, (i64 v1_2)), (18, (.bool (decide (v1_2 < (a1.length : Int)))))] [] 8 [tw 2 (E_len [] a1 ApiEntry.v)] ?_
    refine go_if h (fun hb34 h => ?_) (fun hb34 h => ?_)
    · rw [hb34]
      refine go_bind h (fun y35 hy35 h => ?_)
      refine go_if h (fun hb36 h => ?_) (fun hb36 h => ?_)
      · refine gx mo [.jp J1, .blk 0, .pc p37_49] 83 [(0, (.sl (a1.map ApiEntry.v))), (1, (i64 a2)), (2, (i64 a3)), (3, (i64 a4)), (10, (i64 v1_0)), (11, (i64 v1_1)), (12, (i64 (IntKind.wrap .i64 (v1_2 + 1))))] [] 31 [tw 3 (E_ia [] ApiEntry.v .i64 hy35), twb 7 [] (.bin .lss .other false (.c (i64 y35.Booked_)) (.c (i64 a3))) (decide (y35.Booked_ < a3)) true hb36] ?_
        exact go_back rfl (hJ1 m1 _ _ (Nat.lt_succ_self m1) ⟨v1_0, v1_1, IntKind.wrap .i64 (v1_2 + 1), h, rfl, rfl⟩)
      · refine go_bind h (fun y37 hy37 h => ?_)
        refine gx mo [.pc p37_11, .pc p37_38, .blk 1, .pc p37_41, .jp J1, .blk 0, .pc p37_49] 83 [(0, (.sl (a1.map ApiEntry.v))), (1, (i64 a2)), (2, (i64 a3)), (3, (i64 a4)), (10, (i64 v1_0)), (11, (i64 v1_1)), (12, (i64 v1_2)), (36, (.bool (decide (a4 < y37.Booked_))))] [] 24 [tw 3 (E_ia [] ApiEntry.v .i64 hy35), twb 7 [] (.bin .lss .other false (.c (i64 y35.Booked_)) (.c (i64 a3))) (decide (y35.Booked_ < a3)) false hb36, tw 11 (E_ia [] ApiEntry.v .i64 hy37)] ?_
        refine go_if h (fun hb38 h => ?_) (fun hb38 h => ?_)
        · rw [hb38]
          refine gx mo [.jp J1, .blk 0, .pc p37_49] 83 [(0, (.sl (a1.map ApiEntry.v))), (1, (i64 a2)), (2, (i64 a3)), (3, (i64 a4)), (10, (i64 v1_0)), (11, (i64 v1_1)), (12, (i64 (IntKind.wrap .i64 (v1_2 + 1))))] [] 7 [] ?_
          exact go_back rfl (hJ1 m1 _ _ (Nat.lt_succ_self m1) ⟨v1_0, v1_1, IntKind.wrap .i64 (v1_2 + 1), h, rfl, rfl⟩)
        · rw [hb38]
          refine gx mo [.pc p37_36, .blk 2, .blk 1, .pc p37_41, .jp J1, .blk 0, .pc p37_49] 83 [(0, (.sl (a1.map ApiEntry.v))), (1, (i64 a2)), (2, (i64 a3)), (3, (i64 a4)), (10, (i64 v1_0)), (11, (i64 v1_1)), (12, (i64 v1_2)), (13, (i64 0))] [] 7 [] ?_
          refine go_cut (X := Int × Int) (fun x => (K_r21_Turnover_2 N v1_2 (L_r21_Turnover_1 N a1 a2 a3 a4 m1) x).bind (fun q => (K_r21_Turnover_1 N q).bind some) = some r) ([.blk 1, .pc p37_41, .jp J1, .blk 0, .pc p37_49]) (fun x => (mk 83 [(0, (.sl (a1.map ApiEntry.v))), (1, (i64 a2)), (2, (i64 a3)), (3, (i64 a4)), (10, (i64 x.1)), (11, (i64 x.2)), (12, (i64 v1_2))])) (fun x => []) ?_ fun kont2_0 => ?_
          · rintro ⟨x2_0, x2_1⟩ h
            rw [K_r21_Turnover_2] at h
            refine gx mo [.jp J1, .blk 0, .pc p37_49] 83 [(0, (.sl (a1.map ApiEntry.v))), (1, (i64 a2)), (2, (i64 a3)), (3, (i64 a4)), (10, (i64 x2_0)), (11, (i64 x2_1)), (12, (i64 (IntKind.wrap .i64 (v1_2 + 1))))] [] 6 [] ?_
            exact go_back rfl (hJ1 m1 _ _ (Nat.lt_succ_self m1) ⟨x2_0, x2_1, IntKind.wrap .i64 (v1_2 + 1), h, rfl, rfl⟩)
          refine go_loop' (fun m t s => ∃ (v2_0 : Int) (v2_1 : Int) (v2_2 : Int), (L_r21_Turnover_2 N a1 a2 v1_2 m v2_0 v2_1 v2_2).bind (fun q => (K_r21_Turnover_2 N v1_2 (L_r21_Turnover_1 N a1 a2 a3 a4 m1) q).bind (fun q => (K_r21_Turnover_1 N q).bind some)) = some r ∧ t = (mk 83 [(0, (.sl (a1.map ApiEntry.v))), (1, (i64 a2)), (2, (i64 a3)), (3, (i64 a4)), (10, (i64 v2_0)), (11, (i64 v2_1)), (12, (i64 v1_2)), (13, (i64 v2_2))]) ∧ s = []) N ⟨v1_0, v1_1, 0, go_assoc h, rfl, rfl⟩ ?_
          intro m2 J2 hJ2 t s
          rintro ⟨v2_0, v2_1, v2_2, h, rfl, rfl⟩
          cases m2 with
          | zero => exact absurd h (by simp [L_r21_Turnover_2])
          | succ m2 =>
            rw [L_r21_Turnover_2] at h
            refine go_bind h (fun y51 hy51 h => ?_)
            refine gx mo [.pc p37_17, .pc p37_34, .jp J2, .blk 2, .blk 1, .pc p37_41, .jp J1, .blk 0, .pc p37_49] 83 [(0, (.sl (a1.map ApiEntry.v))), (1, (i64 a2)), (2, (i64 a3)), (3, (i64 a4)), (10, (i64 v2_0)), (11, (i64 v2_1)), (12, (i64 v1_2)), (13, (i64 v2_2)), (44, (.bool (decide (v2_2 < (y51.Legs_.length : Int)))))] [] 12 [tw 3 (E_ia [] ApiEntry.v .i64 hy51), tw 6 (E_len [] y51.Legs_ ApiLeg.v)] ?_
            refine go_if h (fun hb52 h => ?_) (fun hb52 h => ?_)
            · rw [hb52]
              refine go_bind h (fun y53 hy53 h => ?_)
              refine go_bind h (fun y54 hy54 h => ?_)
              refine go_if h (fun hb55 h => ?_) (fun hb55 h => ?_)
              · refine gx mo [.pc p37_23, .pc p37_29, .blk 3, .pc p37_33, .jp J2, .blk 2, .blk 1, .pc p37_41, .jp J1, .blk 0, .pc p37_49] 83 [(0, (.sl (a1.map ApiEntry.v))), (1, (i64 a2)), (2, (i64 a3)), (3, (i64 a4)), (10, (i64 v2_0)), (11, (i64 v2_1)), (12, (i64 v1_2)), (13, (i64 v2_2)), (14, (.ref 0 0 0)), (63, (.bool (decide (0 < y54.Amount_))))] [.row 3 [(ApiLeg.v y54)]] 30 [tw 3 (E_ia [] ApiEntry.v .i64 hy53), tw 7 (E_ia [] ApiLeg.v .i64 hy54), twb 14 [.row 3 [(ApiLeg.v y54)]] (.bin .eql .other false (.c (i64 y54.Account_)) (.c (i64 a2))) (decide (y54.Account_ = a2)) true hb55] ?_
                refine go_if h (fun hb56 h => ?_) (fun hb56 h => ?_)
                · rw [hb56]
                  refine gx mo [.ops o37_25_3, .pc p37_28, .blk 3, .pc p37_33, .jp J2, .blk 2, .blk 1, .pc p37_41, .jp J1, .blk 0, .pc p37_49] 83 [(0, (.sl (a1.map ApiEntry.v))), (1, (i64 a2)), (2, (i64 a3)), (3, (i64 a4)), (10, (i64 (IntKind.wrap .i64 (v2_0 + y54.Amount_)))), (11, (i64 v2_1)), (12, (i64 v1_2)), (13, (i64 v2_2)), (14, (.ref 0 0 0)), (69, (i64 y54.Account_)), (70, (i64 a2))] [.row 3 [(ApiLeg.v y54)]] 13 [] ?_
                  refine go_if h (fun hb57 h => ?_) (fun hb57 h => ?_)
                  · refine gx mo [.pc p37_28, .blk 3, .pc p37_33, .jp J2, .blk 2, .blk 1, .pc p37_41, .jp J1, .blk 0, .pc p37_49] 83 [(0, (.sl (a1.map ApiEntry.v))), (1, (i64 a2)), (2, (i64 a3)), (3, (i64 a4)), (10, (i64 (IntKind.wrap .i64 (v2_0 + y54.Amount_)))), (11, (i64 v2_1)), (12, (i64 v1_2)), (13, (i64 v2_2)), (14, (.ref 0 0 0)), (76, (.bool (decide (y54.Amount_ < 0))))] [.row 3 [(ApiLeg.v y54)]] 7 [twb 0 [.row 3 [(ApiLeg.v y54)]] (.bin .eql .other false (.c (i64 y54.Account_)) (.c (i64 a2))) (decide (y54.Account_ = a2)) true hb57] ?_
                    refine go_if h (fun hb58 h => ?_) (fun hb58 h => ?_)
                    · rw [hb58]
                      refine gx mo [.jp J2, .blk 2, .blk 1, .pc p37_41, .jp J1, .blk 0, .pc p37_49] 83 [(0, (.sl (a1.map ApiEntry.v))), (1, (i64 a2)), (2, (i64 a3)), (3, (i64 a4)), (10, (i64 (IntKind.wrap .i64 (v2_0 + y54.Amount_)))), (11, (i64 (IntKind.wrap .i64 (v2_1 - y54.Amount_)))), (12, (i64 v1_2)), (13, (i64 (IntKind.wrap .i64 (v2_2 + 1))))] [.row 3 [(ApiLeg.v y54)]] 14 [] ?_
                      refine go_pick [] [] [(0, 0), (1, 0), (2, 0), (3, 0), (10, 0), (11, 0), (12, 0), (13, 0)] (t' := (mk 83 [(0, (.sl (a1.map ApiEntry.v))), (1, (i64 a2)), (2, (i64 a3)), (3, (i64 a4)), (10, (i64 (IntKind.wrap .i64 (v2_0 + y54.Amount_)))), (11, (i64 (IntKind.wrap .i64 (v2_1 - y54.Amount_)))), (12, (i64 v1_2)), (13, (i64 (IntKind.wrap .i64 (v2_2 + 1))))])) (s' := []) (by kernel_rfl) trivial rfl ?_
                      exact go_back rfl (hJ2 m2 _ _ (Nat.lt_succ_self m2) ⟨IntKind.wrap .i64 (v2_0 + y54.Amount_), IntKind.wrap .i64 (v2_1 - y54.Amount_), IntKind.wrap .i64 (v2_2 + 1), h, rfl, rfl⟩)
                    · rw [hb58]
                      refine gx mo [.jp J2, .blk 2, .blk 1, .pc p37_41, .jp J1, .blk 0, .pc p37_49] 83 [(0, (.sl (a1.map ApiEntry.v))), (1, (i64 a2)), (2, (i64 a3)), (3, (i64 a4)), (10, (i64 (IntKind.wrap .i64 (v2_0 + y54.Amount_)))), (11, (i64 v2_1)), (12, (i64 v1_2)), (13, (i64 (IntKind.wrap .i64 (v2_2 + 1))))] [.row 3 [(ApiLeg.v y54)]] 8 [] ?_
                      refine go_pick [] [] [(0, 0), (1, 0), (2, 0), (3, 0), (10, 0), (11, 0), (12, 0), (13, 0)] (t' := (mk 83 [(0, (.sl (a1.map ApiEntry.v))), (1, (i64 a2)), (2, (i64 a3)), (3, (i64 a4)), (10, (i64 (IntKind.wrap .i64 (v2_0 + y54.Amount_)))), (11, (i64 v2_1)), (12, (i64 v1_2)), (13, (i64 (IntKind.wrap .i64 (v2_2 + 1))))])) (s' := []) (by kernel_rfl) trivial rfl ?_
                      exact go_back rfl (hJ2 m2 _ _ (Nat.lt_succ_self m2) ⟨IntKind.wrap .i64 (v2_0 + y54.Amount_), v2_1, IntKind.wrap .i64 (v2_2 + 1), h, rfl, rfl⟩)
                  · refine gx mo [.jp J2, .blk 2, .blk 1, .pc p37_41, .jp J1, .blk 0, .pc p37_49] 83 [(0, (.sl (a1.map ApiEntry.v))), (1, (i64 a2)), (2, (i64 a3)), (3, (i64 a4)), (10, (i64 (IntKind.wrap .i64 (v2_0 + y54.Amount_)))), (11, (i64 v2_1)), (12, (i64 v1_2)), (13, (i64 (IntKind.wrap .i64 (v2_2 + 1))))] [.row 3 [(ApiLeg.v y54)]] 15 [twb 0 [.row 3 [(ApiLeg.v y54)]] (.bin .eql .other false (.c (i64 y54.Account_)) (.c (i64 a2))) (decide (y54.Account_ = a2)) false hb57] ?_
                    refine go_pick [] [] [(0, 0), (1, 0), (2, 0), (3, 0), (10, 0), (11, 0), (12, 0), (13, 0)] (t' := (mk 83 [(0, (.sl (a1.map ApiEntry.v))), (1, (i64 a2)), (2, (i64 a3)), (3, (i64 a4)), (10, (i64 (IntKind.wrap .i64 (v2_0 + y54.Amount_)))), (11, (i64 v2_1)), (12, (i64 v1_2)), (13, (i64 (IntKind.wrap .i64 (v2_2 + 1))))])) (s' := []) (by kernel_rfl) trivial rfl ?_
                    exact go_back rfl (hJ2 m2 _ _ (Nat.lt_succ_self m2) ⟨IntKind.wrap .i64 (v2_0 + y54.Amount_), v2_1, IntKind.wrap .i64 (v2_2 + 1), h, rfl, rfl⟩)
                · rw [hb56]
                  refine go_if h (fun hb59 h => ?_) (fun hb59 h => ?_)
                  · refine gx mo [.pc p37_28, .blk 3, .pc p37_33, .jp J2, .blk 2, .blk 1, .pc p37_41, .jp J1, .blk 0, .pc p37_49] 83 [(0, (.sl (a1.map ApiEntry.v))), (1, (i64 a2)), (2, (i64 a3)), (3, (i64 a4)), (10, (i64 v2_0)), (11, (i64 v2_1)), (12, (i64 v1_2)), (13, (i64 v2_2)), (14, (.ref 0 0 0)), (76, (.bool (decide (y54.Amount_ < 0))))] [.row 3 [(ApiLeg.v y54)]] 14 [twb 4 [.row 3 [(ApiLeg.v y54)]] (.bin .eql .other false (.c (i64 y54.Account_)) (.c (i64 a2))) (decide (y54.Account_ = a2)) true hb59] ?_
                    refine go_if h (fun hb60 h => ?_) (fun hb60 h => ?_)
                    · rw [hb60]
                      refine gx mo [.jp J2, .blk 2, .blk 1, .pc p37_41, .jp J1, .blk 0, .pc p37_49] 83 [(0, (.sl (a1.map ApiEntry.v))), (1, (i64 a2)), (2, (i64 a3)), (3, (i64 a4)), (10, (i64 v2_0)), (11, (i64 (IntKind.wrap .i64 (v2_1 - y54.Amount_)))), (12, (i64 v1_2)), (13, (i64 (IntKind.wrap .i64 (v2_2 + 1))))] [.row 3 [(ApiLeg.v y54)]] 14 [] ?_
                      refine go_pick [] [] [(0, 0), (1, 0), (2, 0), (3, 0), (10, 0), (11, 0), (12, 0), (13, 0)] (t' := (mk 83 [(0, (.sl (a1.map ApiEntry.v))), (1, (i64 a2)), (2, (i64 a3)), (3, (i64 a4)), (10, (i64 v2_0)), (11, (i64 (IntKind.wrap .i64 (v2_1 - y54.Amount_)))), (12, (i64 v1_2)), (13, (i64 (IntKind.wrap .i64 (v2_2 + 1))))])) (s' := []) (by kernel_rfl) trivial rfl ?_
                      exact go_back rfl (hJ2 m2 _ _ (Nat.lt_succ_self m2) ⟨v2_0, IntKind.wrap .i64 (v2_1 - y54.Amount_), IntKind.wrap .i64 (v2_2 + 1), h, rfl, rfl⟩)
                    · rw [hb60]
                      refine gx mo [.jp J2, .blk 2, .blk 1, .pc p37_41, .jp J1, .blk 0, .pc p37_49] 83 [(0, (.sl (a1.map ApiEntry.v))), (1, (i64 a2)), (2, (i64 a3)), (3, (i64 a4)), (10, (i64 v2_0)), (11, (i64 v2_1)), (12, (i64 v1_2)), (13, (i64 (IntKind.wrap .i64 (v2_2 + 1))))] [.row 3 [(ApiLeg.v y54)]] 8 [] ?_
                      refine go_pick [] [] [(0, 0), (1, 0), (2, 0), (3, 0), (10, 0), (11, 0), (12, 0), (13, 0)] (t' := (mk 83 [(0, (.sl (a1.map ApiEntry.v))), (1, (i64 a2)), (2, (i64 a3)), (3, (i64 a4)), (10, (i64 v2_0)), (11, (i64 v2_1)), (12, (i64 v1_2)), (13, (i64 (IntKind.wrap .i64 (v2_2 + 1))))])) (s' := []) (by kernel_rfl) trivial rfl ?_
                      exact go_back rfl (hJ2 m2 _ _ (Nat.lt_succ_self m2) ⟨v2_0, v2_1, IntKind.wrap .i64 (v2_2 + 1), h, rfl, rfl⟩)
                  · refine gx mo [.jp J2, .blk 2, .blk 1, .pc p37_41, .jp J1, .blk 0, .pc p37_49] 83 [(0, (.sl (a1.map ApiEntry.v))), (1, (i64 a2)), (2, (i64 a3)), (3, (i64 a4)), (10, (i64 v2_0)), (11, (i64 v2_1)), (12, (i64 v1_2)), (13, (i64 (IntKind.wrap .i64 (v2_2 + 1))))] [.row 3 [(ApiLeg.v y54)]] 22 [twb 4 [.row 3 [(ApiLeg.v y54)]] (.bin .eql .other false (.c (i64 y54.Account_)) (.c (i64 a2))) (decide (y54.Account_ = a2)) false hb59] ?_
                    refine go_pick [] [] [(0, 0), (1, 0), (2, 0), (3, 0), (10, 0), (11, 0), (12, 0), (13, 0)] (t' := (mk 83 [(0, (.sl (a1.map ApiEntry.v))), (1, (i64 a2)), (2, (i64 a3)), (3, (i64 a4)), (10, (i64 v2_0)), (11, (i64 v2_1)), (12, (i64 v1_2)), (13, (i64 (IntKind.wrap .i64 (v2_2 + 1))))])) (s' := []) (by kernel_rfl) trivial rfl ?_
                    exact go_back rfl (hJ2 m2 _ _ (Nat.lt_succ_self m2) ⟨v2_0, v2_1, IntKind.wrap .i64 (v2_2 + 1), h, rfl, rfl⟩)
              · refine go_if h (fun hb61 h => ?_) (fun hb61 h => ?_)
                · refine gx mo [.pc p37_28, .blk 3, .pc p37_33, .jp J2, .blk 2, .blk 1, .pc p37_41, .jp J1, .blk 0, .pc p37_49] 83 [(0, (.sl (a1.map ApiEntry.v))), (1, (i64 a2)), (2, (i64 a3)), (3, (i64 a4)), (10, (i64 v2_0)), (11, (i64 v2_1)), (12, (i64 v1_2)), (13, (i64 v2_2)), (14, (.ref 0 0 0)), (76, (.bool (decide (y54.Amount_ < 0))))] [.row 3 [(ApiLeg.v y54)]] 44 [tw 3 (E_ia [] ApiEntry.v .i64 hy53), tw 7 (E_ia [] ApiLeg.v .i64 hy54), twb 14 [.row 3 [(ApiLeg.v y54)]] (.bin .eql .other false (.c (i64 y54.Account_)) (.c (i64 a2))) (decide (y54.Account_ = a2)) false hb55, twb 24 [.row 3 [(ApiLeg.v y54)]] (.bin .eql .other false (.c (i64 y54.Account_)) (.c (i64 a2))) (decide (y54.Account_ = a2)) true hb61] ?_
                  refine go_if h (fun hb62 h => ?_) (fun hb62 h => ?_)
                  · rw [hb62]
                    refine gx mo [.jp J2, .blk 2, .blk 1, .pc p37_41, .jp J1, .blk 0, .pc p37_49] 83 [(0, (.sl (a1.map ApiEntry.v))), (1, (i64 a2)), (2, (i64 a3)), (3, (i64 a4)), (10, (i64 v2_0)), (11, (i64 (IntKind.wrap .i64 (v2_1 - y54.Amount_)))), (12, (i64 v1_2)), (13, (i64 (IntKind.wrap .i64 (v2_2 + 1))))] [.row 3 [(ApiLeg.v y54)]] 14 [] ?_
                    refine go_pick [] [] [(0, 0), (1, 0), (2, 0), (3, 0), (10, 0), (11, 0), (12, 0), (13, 0)] (t' := (mk 83 [(0, (.sl (a1.map ApiEntry.v))), (1, (i64 a2)), (2, (i64 a3)), (3, (i64 a4)), (10, (i64 v2_0)), (11, (i64 (IntKind.wrap .i64 (v2_1 - y54.Amount_)))), (12, (i64 v1_2)), (13, (i64 (IntKind.wrap .i64 (v2_2 + 1))))])) (s' := []) (by kernel_rfl) trivial rfl ?_
                    exact go_back rfl (hJ2 m2 _ _ (Nat.lt_succ_self m2) ⟨v2_0, IntKind.wrap .i64 (v2_1 - y54.Amount_), IntKind.wrap .i64 (v2_2 + 1), h, rfl, rfl⟩)
                  · rw [hb62]
                    refine gx mo [.jp J2, .blk 2, .blk 1, .pc p37_41, .jp J1, .blk 0, .pc p37_49] 83 [(0, (.sl (a1.map ApiEntry.v))), (1, (i64 a2)), (2, (i64 a3)), (3, (i64 a4)), (10, (i64 v2_0)), (11, (i64 v2_1)), (12, (i64 v1_2)), (13, (i64 (IntKind.wrap .i64 (v2_2 + 1))))] [.row 3 [(ApiLeg.v y54)]] 8 [] ?_
                    refine go_pick [] [] [(0, 0), (1, 0), (2, 0), (3, 0), (10, 0), (11, 0), (12, 0), (13, 0)] (t' := (mk 83 [(0, (.sl (a1.map ApiEntry.v))), (1, (i64 a2)), (2, (i64 a3)), (3, (i64 a4)), (10, (i64 v2_0)), (11, (i64 v2_1)), (12, (i64 v1_2)), (13, (i64 (IntKind.wrap .i64 (v2_2 + 1))))])) (s' := []) (by kernel_rfl) trivial rfl ?_
                    exact go_back rfl (hJ2 m2 _ _ (Nat.lt_succ_self m2) ⟨v2_0, v2_1, IntKind.wrap .i64 (v2_2 + 1), h, rfl, rfl⟩)
                · refine gx mo [.jp J2, .blk 2, .blk 1, .pc p37_41, .jp J1, .blk 0, .pc p37_49] 83 [(0, (.sl (a1.map ApiEntry.v))), (1, (i64 a2)), (2, (i64 a3)), (3, (i64 a4)), (10, (i64 v2_0)), (11, (i64 v2_1)), (12, (i64 v1_2)), (13, (i64 (IntKind.wrap .i64 (v2_2 + 1))))] [.row 3 [(ApiLeg.v y54)]] 52 [tw 3 (E_ia [] ApiEntry.v .i64 hy53), tw 7 (E_ia [] ApiLeg.v .i64 hy54), twb 14 [.row 3 [(ApiLeg.v y54)]] (.bin .eql .other false (.c (i64 y54.Account_)) (.c (i64 a2))) (decide (y54.Account_ = a2)) false hb55, twb 24 [.row 3 [(ApiLeg.v y54)]] (.bin .eql .other false (.c (i64 y54.Account_)) (.c (i64 a2))) (decide (y54.Account_ = a2)) false hb61] ?_
                  refine go_pick [] [] [(0, 0), (1, 0), (2, 0), (3, 0), (10, 0), (11, 0), (12, 0), (13, 0)] (t' := (mk 83 [(0, (.sl (a1.map ApiEntry.v))), (1, (i64 a2)), (2, (i64 a3)), (3, (i64 a4)), (10, (i64 v2_0)), (11, (i64 v2_1)), (12, (i64 v1_2)), (13, (i64 (IntKind.wrap .i64 (v2_2 + 1))))])) (s' := []) (by kernel_rfl) trivial rfl ?_
                  exact go_back rfl (hJ2 m2 _ _ (Nat.lt_succ_self m2) ⟨v2_0, v2_1, IntKind.wrap .i64 (v2_2 + 1), h, rfl, rfl⟩)
            · rw [hb52]
              refine gx mo [.blk 1, .pc p37_41, .jp J1, .blk 0, .pc p37_49] 83 [(0, (.sl (a1.map ApiEntry.v))), (1, (i64 a2)), (2, (i64 a3)), (3, (i64 a4)), (10, (i64 v2_0)), (11, (i64 v2_1)), (12, (i64 v1_2))] [] 2 [] ?_
              exact kont2_0 (v2_0, v2_1) h
    · rw [hb34]
      refine gx mo [.pc p37_49] 83 [(10, (i64 v1_0)), (11, (i64 v1_1))] [] 2 [] ?_
      exact kont1_0 (v1_0, v1_1) h
/-! corebank/corebankref21.moved -/
def p63_21 : PC := .ret
def p63_22 : PC := (.seq (.reg (om 30 5 :: om 4 30 :: [])) p63_21)
def p63_14 : PC := (.reg (om 12 6 :: oo 13 (.bin .add .other true (.t 12) (.c (.int .i64 1))) :: om 6 13 :: []))
def p63_11 : PC := (.cond (.t 21) (.reg (om 22 5 :: oo 23 (.fa 8 (.t 2)) :: oo 24 (.ld1 (.t 23)) :: om 25 6 :: oo 26 (.ia 3 (.t 24) (.t 25)) :: oo 27 (.fa 1 (.t 26)) :: oo 28 (.ld1 (.t 27)) :: oo 29 (.bin .sub .other false (.t 22) (.t 28)) :: om 5 29 :: [])) .skip)
def p63_15 : PC := (.seq (.block 1 (.seq (.reg (oo 14 (.fa 8 (.t 2)) :: oo 15 (.ld1 (.t 14)) :: om 16 6 :: oo 17 (.ia 3 (.t 15) (.t 16)) :: oo 18 (.fa 0 (.t 17)) :: oo 19 (.ld1 (.t 18)) :: om 20 1 :: oo 21 (.bin .eql .other false (.t 19) (.t 20)) :: [])) p63_11)) p63_14)
def p63_6 : PC := (.cond (.t 11) .skip (.exit 0))
def p63_17 : PC := (.loop (.seq (.seq (.reg (om 7 6 :: oo 8 (.fa 8 (.t 2)) :: oo 9 (.ld1 (.t 8)) :: oo 10 (.len .slice (.t 9)) :: oo 11 (.bin .lss .other false (.t 7) (.t 10)) :: [])) p63_6) p63_15))
def p63_25 : PC := (.seq (.reg (oo 2 (.box (.t 0)) :: oo 4 (.mv (.c (.int .i64 0))) :: [])) (.seq (.reg (oo 5 (.mv (.c (.int .i64 0))) :: [])) (.seq (.seq (.reg (oo 6 (.mv (.c (.int .i64 0))) :: [])) (.block 0 p63_17)) p63_22)))
theorem fn63 : FnOk Tryz.prog 63 p63_25 31 [.t 4] := ⟨false, Tryz.f63, _, Tryz.func63, by decide, rfl, by kernel_rfl, rfl, by kernel_rfl⟩
def L_r21_moved_1 (N : Nat) (a1 : ApiEntry) (a2 : Int) : Nat → Int → Int → Option (Int)
  | 0, _, _ => none
  | m1 + 1, v1_0, v1_1 =>
    bif decide (v1_1 < (a1.Legs_.length : Int)) then
    ((getI a1.Legs_ v1_1).bind fun y8 =>
    bif decide (y8.Account_ = a2) then
    ((getI a1.Legs_ v1_1).bind fun y10 =>
    (L_r21_moved_1 N a1 a2 m1) (IntKind.wrap .i64 (v1_0 - y10.Amount_)) (IntKind.wrap .i64 (v1_1 + 1)))
    else
    ((L_r21_moved_1 N a1 a2 m1) v1_0 (IntKind.wrap .i64 (v1_1 + 1))))
    else
    (some v1_0)
def K_r21_moved_1 (N : Nat)  : (Int) → Option (Int)
  | x1_0 =>
    some x1_0
def F_r21_moved  (N : Nat) (a1 : ApiEntry) (a2 : Int) : Option (Int) :=
      (L_r21_moved_1 N a1 a2 N 0 0).bind (K_r21_moved_1 N)
theorem P_r21_moved  {N : Nat} {a1 : ApiEntry} {a2 : Int} {r : Int} (h : F_r21_moved N a1 a2 = some r) : Pure Tryz.prog (Gl.at 0) 63 [(ApiEntry.v a1), (i64 a2)] (i64 r) := by
  refine pure_run fn63 ?_
  rw [F_r21_moved] at h
  replace h := bs h
  change GG [.t 4] _ [.pc p63_25] (mk 31 [(0, (ApiEntry.v a1)), (1, (i64 a2))]) []
  refine gx mo [.pc p63_17, .blk 0, .pc p63_22] 31 [(1, (i64 a2)), (2, (.ref 0 0 0)), (5, (i64 0)), (6, (i64 0))] [.row 10 [(ApiEntry.v a1)]] 15 [] ?_
  refine go_cut (X := Int) (fun x => (K_r21_moved_1 N x).bind some = some r) ([.pc p63_22]) (fun x => (mk 31 [(5, (i64 x))])) (fun x => []) ?_ fun kont1_0 => ?_
  · rintro x1_0 h
    rw [K_r21_moved_1] at h
    refine gx mo [.pc p63_21] 31 [(4, (i64 x1_0))] [] 5 [] ?_
    obtain rfl := Option.some.inj h
    exact gf (i64 x1_0) (.same rfl)
  refine go_loop' (fun m t s => ∃ (v1_0 : Int) (v1_1 : Int), (L_r21_moved_1 N a1 a2 m v1_0 v1_1).bind (fun q => (K_r21_moved_1 N q).bind some) = some r ∧ t = (mk 31 [(1, (i64 a2)), (2, (.ref 0 0 0)), (5, (i64 v1_0)), (6, (i64 v1_1))]) ∧ s = [.row 10 [(ApiEntry.v a1)]]) N ⟨0, 0, go_assoc h, rfl, rfl⟩ ?_
  intro m1 J1 hJ1 t s
  rintro ⟨v1_0, v1_1, h, rfl, rfl⟩
  cases m1 with
  | zero => exact absurd h (by simp [L_r21_moved_1])
  | succ m1 =>
    rw [L_r21_moved_1] at h
    refine gx mo [.pc p63_6, .pc p63_15, .jp J1, .blk 0, .pc p63_22] 31 [(1, (i64 a2)), (2, (.ref 0 0 0)), (5, (i64 v1_0)), (6, (i64 v1_1)), (11, (.bool (decide (v1_1 < (a1.Legs_.length : Int)))))] [.row 10 [(ApiEntry.v a1)]] 9 [tw 3 (E_len [.row 10 [(ApiEntry.v a1)]] a1.Legs_ ApiLeg.v)] ?_
    refine go_if h (fun hb7 h => ?_) (fun hb7 h => ?_)
    · rw [hb7]
      refine go_bind h (fun y8 hy8 h => ?_)
      refine gx mo [.pc p63_11, .blk 1, .pc p63_14, .jp J1, .blk 0, .pc p63_22] 31 [(1, (i64 a2)), (2, (.ref 0 0 0)), (5, (i64 v1_0)), (6, (i64 v1_1)), (21, (.bool (decide (y8.Account_ = a2))))] [.row 10 [(ApiEntry.v a1)]] 15 [tw 4 (E_ia [.row 10 [(ApiEntry.v a1)]] ApiLeg.v .i64 hy8)] ?_
      refine go_if h (fun hb9 h => ?_) (fun hb9 h => ?_)
      · rw [hb9]
        refine go_bind h (fun y10 hy10 h => ?_)
        refine gx mo [.jp J1, .blk 0, .pc p63_22] 31 [(1, (i64 a2)), (2, (.ref 0 0 0)), (5, (i64 (IntKind.wrap .i64 (v1_0 - y10.Amount_)))), (6, (i64 (IntKind.wrap .i64 (v1_1 + 1))))] [.row 10 [(ApiEntry.v a1)]] 18 [tw 5 (E_ia [.row 10 [(ApiEntry.v a1)]] ApiLeg.v .i64 hy10)] ?_
        exact go_back rfl (hJ1 m1 _ _ (Nat.lt_succ_self m1) ⟨IntKind.wrap .i64 (v1_0 - y10.Amount_), IntKind.wrap .i64 (v1_1 + 1), h, rfl, rfl⟩)
      · rw [hb9]
        refine gx mo [.jp J1, .blk 0, .pc p63_22] 31 [(1, (i64 a2)), (2, (.ref 0 0 0)), (5, (i64 v1_0)), (6, (i64 (IntKind.wrap .i64 (v1_1 + 1))))] [.row 10 [(ApiEntry.v a1)]] 8 [] ?_
        exact go_back rfl (hJ1 m1 _ _ (Nat.lt_succ_self m1) ⟨v1_0, IntKind.wrap .i64 (v1_1 + 1), h, rfl, rfl⟩)
    · rw [hb7]
      refine gx mo [.pc p63_22] 31 [(5, (i64 v1_0))] [.row 10 [(ApiEntry.v a1)]] 2 [] ?_
      refine go_pick [] [] [(5, 0)] (t' := (mk 31 [(5, (i64 v1_0))])) (s' := []) (by kernel_rfl) trivial rfl ?_
      exact kont1_0 v1_0 h
/-! corebank/corebankref21.Daily -/
def p39_39 : PC := .ret
def p39_40 : PC := (.seq (.reg (om 76 9 :: om 8 76 :: [])) p39_39)
def p39_32 : PC := (.reg (om 39 10 :: oo 40 (.bin .add .other true (.t 39) (.c (.int .i64 1))) :: om 10 40 :: []))
def p39_25 : PC := (.seq (.block 3 (.reg (om 63 9 :: om 64 12 :: om 65 2 :: oo 66 (.bin .sub .other false (.t 64) (.t 65)) :: om 67 9 :: om 68 12 :: om 69 2 :: oo 70 (.bin .sub .other false (.t 68) (.t 69)) :: oo 71 (.ia 1 (.t 67) (.t 70)) :: oo 72 (.ld1 (.t 71)) :: om 73 11 :: oo 74 (.bin .add .other false (.t 72) (.t 73)) :: oo 75 (.ia 1 (.t 63) (.t 66)) :: on_ (.st 1 (.t 75) (.t 74)) :: []))) (.reg (om 61 12 :: oo 62 (.bin .add .other true (.t 61) (.c (.int .i64 1))) :: om 12 62 :: [])))
def p39_20 : PC := (.cond (.t 60) .skip (.exit 2))
def p39_27 : PC := (.loop (.seq (.seq (.reg (om 54 12 :: om 55 3 :: oo 56 (.bin .leq .other false (.t 54) (.t 55)) :: om 57 56 :: ⟨some 58, .op (.mv (.t 11)), some (57, true)⟩ :: ⟨some 59, .op (.bin .neq .other true (.t 58) (.c (.int .i64 0))), some (57, true)⟩ :: oo 60 (.pick (.t 57) (.t 59) (.c (.bool false))) :: [])) p39_20) p39_25))
def p39_33 : PC := (.seq (.block 1 (.seq (.reg (om 41 0 :: om 42 10 :: oo 43 (.ia 10 (.t 41) (.t 42)) :: oo 44 (.ldA 10 (.t 43)) :: om 45 1 :: ⟨some 46, .call 63 [.t 44, .t 45], none⟩ :: om 11 46 :: [])) (.seq (.reg (om 47 2 :: om 48 0 :: om 49 10 :: oo 50 (.ia 10 (.t 48) (.t 49)) :: oo 51 (.fa 2 (.t 50)) :: oo 52 (.ld1 (.t 51)) :: oo 53 (.max [.t 47, .t 52]) :: om 12 53 :: [])) (.block 2 p39_27)))) p39_32)
def p39_13 : PC := (.cond (.t 38) .skip (.exit 0))
def p39_35 : PC := (.loop (.seq (.seq (.reg (om 35 10 :: om 36 0 :: oo 37 (.len .slice (.t 36)) :: oo 38 (.bin .lss .other false (.t 35) (.t 37)) :: [])) p39_13) p39_33))
def p39_42 : PC := (.seq (.reg (om 30 3 :: om 31 2 :: oo 32 (.bin .sub .other false (.t 30) (.t 31)) :: oo 33 (.bin .add .other true (.t 32) (.c (.int .i64 1))) :: oo 34 (.make (.int .i64 0) 8 (.t 33) (.t 33)) :: om 9 34 :: [])) (.seq (.seq (.reg (oo 10 (.mv (.c (.int .i64 0))) :: [])) (.block 0 p39_35)) p39_40))
def p39_3 : PC := .ret
def p39_6 : PC := (.cond (.t 29) (.seq (.reg (oo 8 (.mv (.c .nils)) :: [])) p39_3) .skip)
def p39_44 : PC := (.seq (.reg (oo 8 (.mv (.c .nils)) :: [])) (.seq (.seq (.reg (om 13 2 :: oo 14 (.bin .lss .other true (.t 13) (.c (.int .i64 0))) :: om 15 14 :: ⟨some 16, .op (.mv (.t 3)), some (15, false)⟩ :: ⟨some 17, .op (.bin .gtr .other true (.t 16) (.c (.int .i64 73048))), some (15, false)⟩ :: oo 18 (.pick (.t 15) (.c (.bool true)) (.t 17)) :: om 19 18 :: ⟨some 20, .op (.mv (.t 2)), some (19, false)⟩ :: ⟨some 21, .op (.mv (.t 3)), some (19, false)⟩ :: ⟨some 22, .op (.bin .gtr .other false (.t 20) (.t 21)), some (19, false)⟩ :: oo 23 (.pick (.t 19) (.c (.bool true)) (.t 22)) :: om 24 23 :: ⟨some 25, .op (.mv (.t 3)), some (24, false)⟩ :: ⟨some 26, .op (.mv (.t 2)), some (24, false)⟩ :: ⟨some 27, .op (.bin .sub .other false (.t 25) (.t 26)), some (24, false)⟩ :: ⟨some 28, .op (.bin .geq .other true (.t 27) (.c (.int .i64 4000))), some (24, false)⟩ :: oo 29 (.pick (.t 24) (.c (.bool true)) (.t 28)) :: [])) p39_6) p39_42))
theorem fn39 : FnOk Tryz.prog 39 p39_44 77 [.t 8] := ⟨false, Tryz.f39, _, Tryz.func39, by decide, rfl, by kernel_rfl, rfl, by kernel_rfl⟩
def L_r21_Daily_2 (N : Nat) (a3 : Int) (a4 : Int) (r44 : Int) : Nat → Int → (List Int) → Option ((List Int))
  | 0, _, _ => none
  | m2 + 1, v2_0, v2_1 =>
    bif decide (v2_0 ≤ a4) then
    (bif !decide (r44 = 0) then
    ((getI v2_1 (IntKind.wrap .i64 (v2_0 - a3))).bind fun y56 =>
    (getI v2_1 (IntKind.wrap .i64 (v2_0 - a3))).bind fun y57 =>
    (L_r21_Daily_2 N a3 a4 r44 m2) (IntKind.wrap .i64 (v2_0 + 1)) (setI v2_1 (IntKind.wrap .i64 (v2_0 - a3)) (IntKind.wrap .i64 (y56 + r44))))
    else
    (some v2_1))
    else
    (some v2_1)
def K_r21_Daily_2 (N : Nat) (v1_0 : Int) (rl1 : Int → (List Int) → Option ((List Int))) : ((List Int)) → Option ((List Int))
  | x2_0 =>
    rl1 (IntKind.wrap .i64 (v1_0 + 1)) x2_0
def L_r21_Daily_1 (N : Nat) (a1 : List ApiEntry) (a2 : Int) (a3 : Int) (a4 : Int) : Nat → Int → (List Int) → Option ((List Int))
  | 0, _, _ => none
  | m1 + 1, v1_0, v1_1 =>
    bif decide (v1_0 < (a1.length : Int)) then
    ((getI a1 v1_0).bind fun y43 =>
    (F_r21_moved N y43 a2).bind fun r44 =>
    (getI a1 v1_0).bind fun y45 =>
    (L_r21_Daily_2 N a3 a4 r44 N (if a3 < y45.Value_ then y45.Value_ else a3) v1_1).bind (K_r21_Daily_2 N v1_0 (L_r21_Daily_1 N a1 a2 a3 a4 m1)))
    else
    (some v1_1)
def K_r21_Daily_1 (N : Nat)  : ((List Int)) → Option ((List Int))
  | x1_0 =>
    some x1_0
def F_r21_Daily  (N : Nat) (a1 : List ApiEntry) (a2 : Int) (a3 : Int) (a4 : Int) : Option ((List Int)) :=
      bif decide (a3 < 0) then
    (some [])
    else
    (bif decide (73048 < a4) then
    (some [])
    else
    (bif decide (a4 < a3) then
    (some [])
    else
    (bif decide (4000 ≤ (IntKind.wrap .i64 (a4 - a3))) then
    (some [])
    else
    ((makeI 8 (IntKind.wrap .i64 ((IntKind.wrap .i64 (a4 - a3)) + 1)) 0).bind fun l9 =>
    (L_r21_Daily_1 N a1 a2 a3 a4 N 0 l9).bind (K_r21_Daily_1 N)))))
theorem P_r21_Daily  {N : Nat} {a1 : List ApiEntry} {a2 : Int} {a3 : Int} {a4 : Int} {r : (List Int)} (h : F_r21_Daily N a1 a2 a3 a4 = some r) : Pure Tryz.prog (Gl.at 0) 39 [(.sl (a1.map ApiEntry.v)), (i64 a2), (i64 a3), (i64 a4)] (.sl (r.map i64)) := by
  refine pure_run fn39 ?_
  rw [F_r21_Daily] at h
  replace h := bs h
  change GG [.t 8] _ [.pc p39_44] (mk 77 [(0, (.sl (a1.map ApiEntry.v))), (1, (i64 a2)), (2, (i64 a3)), (3, (i64 a4))]) []
  refine go_if h (fun hb5 h => ?_) (fun hb5 h => ?_)
  · refine gx mo [.pc p39_3, .pc p39_42] 77 [(8, .nils)] [] 30 [twb 2 [] (.bin .lss .other true (.c (i64 a3)) (.c (i64 0))) (decide (a3 < 0)) true hb5] ?_
    obtain rfl := Option.some.inj h
    exact gf .nils .nil0
  · refine go_if h (fun hb6 h => ?_) (fun hb6 h => ?_)
    · refine gx mo [.pc p39_3, .pc p39_42] 77 [(8, .nils)] [] 30 [twb 2 [] (.bin .lss .other true (.c (i64 a3)) (.c (i64 0))) (decide (a3 < 0)) false hb5, twb 6 [] (.pick (.c (.bool false)) (.c (.bool true)) (.c (.bool (decide (73048 < a4))))) (decide (73048 < a4)) true hb6] ?_
      obtain rfl := Option.some.inj h
      exact gf .nils .nil0
    · refine go_if h (fun hb7 h => ?_) (fun hb7 h => ?_)
      · refine gx mo [.pc p39_3, .pc p39_42] 77 [(8, .nils)] [] 30 [twb 2 [] (.bin .lss .other true (.c (i64 a3)) (.c (i64 0))) (decide (a3 < 0)) false hb5, twb 6 [] (.pick (.c (.bool false)) (.c (.bool true)) (.c (.bool (decide (73048 < a4))))) (decide (73048 < a4)) false hb6, twb 11 [] (.pick (.c (.bool false)) (.c (.bool true)) (.c (.bool (decide (a4 < a3))))) (decide (a4 < a3)) true hb7] ?_
        obtain rfl := Option.some.inj h
        exact gf .nils .nil0
      · refine gx mo [.pc p39_6, .pc p39_42] 77 [(0, (.sl (a1.map ApiEntry.v))), (1, (i64 a2)), (2, (i64 a3)), (3, (i64 a4)), (29, (.bool (decide (4000 ≤ (IntKind.wrap .i64 (a4 - a3))))))] [] 25 [twb 2 [] (.bin .lss .other true (.c (i64 a3)) (.c (i64 0))) (decide (a3 < 0)) false hb5, twb 6 [] (.pick (.c (.bool false)) (.c (.bool true)) (.c (.bool (decide (73048 < a4))))) (decide (73048 < a4)) false hb6, twb 11 [] (.pick (.c (.bool false)) (.c (.bool true)) (.c (.bool (decide (a4 < a3))))) (decide (a4 < a3)) false hb7] ?_
        refine go_if h (fun hb8 h => ?_) (fun hb8 h => ?_)
        · rw [hb8]
          refine gx mo [.pc p39_3, .pc p39_42] 77 [(8, .nils)] [] 5 [] ?_
          obtain rfl := Option.some.inj h
          exact gf .nils .nil0
        · rw [hb8]
          refine go_bind h (fun l9 hl9 h => ?_)
          refine gx mo [.pc p39_35, .blk 0, .pc p39_40] 77 [(0, (.sl (a1.map ApiEntry.v))), (1, (i64 a2)), (2, (i64 a3)), (3, (i64 a4)), (9, (.osl 0 0 l9.length)), (10, (i64 0))] [.row 1 (l9.map i64)] 17 [tw 5 (s := []) (s' := [.row 1 (l9.map i64)]) (q := (.make (i64 0) 8 (.c (i64 (IntKind.wrap .i64 ((IntKind.wrap .i64 (a4 - a3)) + 1)))) (.c (i64 (IntKind.wrap .i64 ((IntKind.wrap .i64 (a4 - a3)) + 1)))))) (v := (.osl 0 0 l9.length)) (e_make rfl hl9)] ?_
          refine go_cut (X := (List Int)) (fun x => (K_r21_Daily_1 N x).bind some = some r) ([.pc p39_40]) (fun x => (mk 77 [(9, (.osl 0 0 x.length))])) (fun x => [.row 1 (x.map i64)]) ?_ fun kont1_0 => ?_
          · rintro x1_0 h
            rw [K_r21_Daily_1] at h
            refine gx mo [.pc p39_39] 77 [(8, (.osl 0 0 x1_0.length))] [.row 1 (x1_0.map i64)] 5 [] ?_
            obtain rfl := Option.some.inj h
            exact gf (.osl 0 0 x1_0.length) (f_osl (c := 0) rfl (fun _ => rfl) (fun _ => rfl) rfl)
          refine go_loop' (fun m t s => ∃ (v1_0 : Int) (v1_1 : List Int), (L_r21_Daily_1 N a1 a2 a3 a4 m v1_0 v1_1).bind (fun q => (K_r21_Daily_1 N q).bind some) = some r ∧ t = (mk 77 [(0, (.sl (a1.map ApiEntry.v))), (1, (i64 a2)), (2, (i64 a3)), (3, (i64 a4)), (9, (.osl 0 0 v1_1.length)), (10, (i64 v1_0))]) ∧ s = [.row 1 (v1_1.map i64)]) N ⟨0, l9, go_assoc h, rfl, rfl⟩ ?_
          intro m1 J1 hJ1 t s
          rintro ⟨v1_0, v1_1, h, rfl, rfl⟩
          cases m1 with
          | zero => exact absurd h (by simp [L_r21_Daily_1])
          | succ m1 =>
            rw [L_r21_Daily_1] at h
            refine gx mo [.pc p39_13, .pc p39_33, .jp J1, .blk 0, .pc p39_40] 77 [(0, (.sl (a1.map ApiEntry.v))), (1, (i64 a2)), (2, (i64 a3)), (3, (i64 a4)), (9, (.osl 0 0 v1_1.length)), (10, (i64 v1_0)), (38, (.bool (decide (v1_0 < (a1.length : Int)))))] [.row 1 (v1_1.map i64)] 8 [tw 2 (E_len [.row 1 (v1_1.map i64)] a1 ApiEntry.v)] ?_
            refine go_if h (fun hb42 h => ?_) (fun hb42 h => ?_)
            · rw [hb42]
              refine go_bind h (fun y43 hy43 h => ?_)
              refine go_bind h (fun r44 hr44 h => ?_)
              refine go_bind h (fun y45 hy45 h => ?_)
              refine gx mo [.pc p39_27, .blk 2, .blk 1, .pc p39_32, .jp J1, .blk 0, .pc p39_40] 77 [(0, (.sl (a1.map ApiEntry.v))), (1, (i64 a2)), (2, (i64 a3)), (3, (i64 a4)), (9, (.osl 0 0 v1_1.length)), (10, (i64 v1_0)), (11, (i64 r44)), (12, (i64 (if a3 < y45.Value_ then y45.Value_ else a3)))] [.row 1 (v1_1.map i64)] 26 [tw 3 (E_ia [.row 1 (v1_1.map i64)] ApiEntry.v .i64 hy43), tc 6 [.row 1 (v1_1.map i64)] (P_r21_moved hr44) (fg (fs fl_nil)), tw 11 (E_ia [.row 1 (v1_1.map i64)] ApiEntry.v .i64 hy45)] ?_
              refine go_cut (X := (List Int)) (fun x => (K_r21_Daily_2 N v1_0 (L_r21_Daily_1 N a1 a2 a3 a4 m1) x).bind (fun q => (K_r21_Daily_1 N q).bind some) = some r) ([.blk 1, .pc p39_32, .jp J1, .blk 0, .pc p39_40]) (fun x => (mk 77 [(0, (.sl (a1.map ApiEntry.v))), (1, (i64 a2)), (2, (i64 a3)), (3, (i64 a4)), (9, (.osl 0 0 x.length)), (10, (i64 v1_0))])) (fun x => [.row 1 (x.map i64)]) ?_ fun kont2_0 => ?_
              · rintro x2_0 h
                rw [K_r21_Daily_2] at h
                refine gx mo [.jp J1, .blk 0, .pc p39_40] 77 [(0, (.sl (a1.map ApiEntry.v))), (1, (i64 a2)), (2, (i64 a3)), (3, (i64 a4)), (9, (.osl 0 0 x2_0.length)), (10, (i64 (IntKind.wrap .i64 (v1_0 + 1))))] [.row 1 (x2_0.map i64)] 6 [] ?_
                exact go_back rfl (hJ1 m1 _ _ (Nat.lt_succ_self m1) ⟨IntKind.wrap .i64 (v1_0 + 1), x2_0, h, rfl, rfl⟩)
              refine go_loop' (fun m t s => ∃ (v2_0 : Int) (v2_1 : List Int), (L_r21_Daily_2 N a3 a4 r44 m v2_0 v2_1).bind (fun q => (K_r21_Daily_2 N v1_0 (L_r21_Daily_1 N a1 a2 a3 a4 m1) q).bind (fun q => (K_r21_Daily_1 N q).bind some)) = some r ∧ t = (mk 77 [(0, (.sl (a1.map ApiEntry.v))), (1, (i64 a2)), (2, (i64 a3)), (3, (i64 a4)), (9, (.osl 0 0 v2_1.length)), (10, (i64 v1_0)), (11, (i64 r44)), (12, (i64 v2_0))]) ∧ s = [.row 1 (v2_1.map i64)]) N ⟨if a3 < y45.Value_ then y45.Value_ else a3, v1_1, go_assoc h, rfl, rfl⟩ ?_
              intro m2 J2 hJ2 t s
              rintro ⟨v2_0, v2_1, h, rfl, rfl⟩
              cases m2 with
              | zero => exact absurd h (by simp [L_r21_Daily_2])
              | succ m2 =>
                rw [L_r21_Daily_2] at h
                refine go_if h (fun hb54 h => ?_) (fun hb54 h => ?_)
                · refine gx mo [.pc p39_20, .pc p39_25, .jp J2, .blk 2, .blk 1, .pc p39_32, .jp J1, .blk 0, .pc p39_40] 77 [(0, (.sl (a1.map ApiEntry.v))), (1, (i64 a2)), (2, (i64 a3)), (3, (i64 a4)), (9, (.osl 0 0 v2_1.length)), (10, (i64 v1_0)), (11, (i64 r44)), (12, (i64 v2_0)), (60, (.bool (!decide (r44 = 0))))] [.row 1 (v2_1.map i64)] 11 [twb 2 [.row 1 (v2_1.map i64)] (.bin .leq .other false (.c (i64 v2_0)) (.c (i64 a4))) (decide (v2_0 ≤ a4)) true hb54] ?_
                  refine go_if h (fun hb55 h => ?_) (fun hb55 h => ?_)
                  · rw [hb55]
                    refine go_bind h (fun y56 hy56 h => ?_)
                    refine go_bind h (fun y57 hy57 h => ?_)
                    refine gx mo [.jp J2, .blk 2, .blk 1, .pc p39_32, .jp J1, .blk 0, .pc p39_40] 77 [(0, (.sl (a1.map ApiEntry.v))), (1, (i64 a2)), (2, (i64 a3)), (3, (i64 a4)), (9, (.osl 0 0 v2_1.length)), (10, (i64 v1_0)), (11, (i64 r44)), (12, (i64 (IntKind.wrap .i64 (v2_0 + 1))))] [.row 1 ((setI v2_1 (IntKind.wrap .i64 (v2_0 - a3)) (IntKind.wrap .i64 (y56 + r44))).map i64)] 26 [tw 9 (E_iao [.row 1 (v2_1.map i64)] i64 .i64 0 hy56 rfl), tw 10 (s := [.row 1 (v2_1.map i64)]) (s' := [.row 1 (v2_1.map i64)]) (q := (.ld1 (.c (.ref 0 (IntKind.wrap .i64 (v2_0 - a3)).toNat 0)))) (v := (i64 y56)) (e_ld1ref rfl hy56 rfl (Nat.le_of_ble_eq_true rfl)), tw 13 (E_iao [.row 1 (v2_1.map i64)] i64 .i64 0 hy57 rfl), tw 14 (s := [.row 1 (v2_1.map i64)]) (s' := [.row 1 ((setI v2_1 (IntKind.wrap .i64 (v2_0 - a3)) (IntKind.wrap .i64 (y56 + r44))).map i64)]) (q := (.st 1 (.c (.ref 0 (IntKind.wrap .i64 (v2_0 - a3)).toNat 0)) (.c (i64 (IntKind.wrap .i64 (y56 + r44)))))) (v := .any) (e_stref (y' := IntKind.wrap .i64 (y56 + r44)) rfl hy57 ⟨rfl, by decide, rfl⟩ rfl)] ?_
                    refine go_eqt (t' := (mk 77 [(0, (.sl (a1.map ApiEntry.v))), (1, (i64 a2)), (2, (i64 a3)), (3, (i64 a4)), (9, (.osl 0 0 (setI v2_1 (IntKind.wrap .i64 (v2_0 - a3)) (IntKind.wrap .i64 (y56 + r44))).length)), (10, (i64 v1_0)), (11, (i64 r44)), (12, (i64 (IntKind.wrap .i64 (v2_0 + 1))))])) (by simp only [len_setI]) ?_
                    exact go_back rfl (hJ2 m2 _ _ (Nat.lt_succ_self m2) ⟨IntKind.wrap .i64 (v2_0 + 1), (setI v2_1 (IntKind.wrap .i64 (v2_0 - a3)) (IntKind.wrap .i64 (y56 + r44))), h, rfl, rfl⟩)
                  · rw [hb55]
                    refine gx mo [.blk 1, .pc p39_32, .jp J1, .blk 0, .pc p39_40] 77 [(0, (.sl (a1.map ApiEntry.v))), (1, (i64 a2)), (2, (i64 a3)), (3, (i64 a4)), (9, (.osl 0 0 v2_1.length)), (10, (i64 v1_0))] [.row 1 (v2_1.map i64)] 2 [] ?_
                    exact kont2_0 v2_1 h
                · refine gx mo [.blk 1, .pc p39_32, .jp J1, .blk 0, .pc p39_40] 77 [(0, (.sl (a1.map ApiEntry.v))), (1, (i64 a2)), (2, (i64 a3)), (3, (i64 a4)), (9, (.osl 0 0 v2_1.length)), (10, (i64 v1_0))] [.row 1 (v2_1.map i64)] 13 [twb 2 [.row 1 (v2_1.map i64)] (.bin .leq .other false (.c (i64 v2_0)) (.c (i64 a4))) (decide (v2_0 ≤ a4)) false hb54] ?_
                  exact kont2_0 v2_1 h
            · rw [hb42]
              refine gx mo [.pc p39_40] 77 [(9, (.osl 0 0 v1_1.length))] [.row 1 (v1_1.map i64)] 2 [] ?_
              exact kont1_0 v1_1 h
/-! corebank/corebankref25.lowest -/
def p38_21 : PC := .ret
def p38_22 : PC := (.seq (.reg (om 25 3 :: om 2 25 :: [])) p38_21)
def p38_14 : PC := (.reg (om 9 4 :: oo 10 (.bin .add .other true (.t 9) (.c (.int .i64 1))) :: om 4 10 :: []))
def p38_11 : PC := (.cond (.t 20) (.reg (om 21 0 :: om 22 4 :: oo 23 (.ia 1 (.t 21) (.t 22)) :: oo 24 (.ld1 (.t 23)) :: om 3 24 :: [])) .skip)
def p38_15 : PC := (.seq (.block 1 (.seq (.reg (om 11 4 :: oo 12 (.bin .eql .other true (.t 11) (.c (.int .i64 0))) :: om 13 12 :: ⟨some 14, .op (.mv (.t 0)), some (13, false)⟩ :: ⟨some 15, .op (.mv (.t 4)), some (13, false)⟩ :: ⟨some 16, .op (.ia 1 (.t 14) (.t 15)), some (13, false)⟩ :: ⟨some 17, .op (.ld1 (.t 16)), some (13, false)⟩ :: ⟨some 18, .op (.mv (.t 3)), some (13, false)⟩ :: ⟨some 19, .op (.bin .lss .other false (.t 17) (.t 18)), some (13, false)⟩ :: oo 20 (.pick (.t 13) (.c (.bool true)) (.t 19)) :: [])) p38_11)) p38_14)
def p38_6 : PC := (.cond (.t 8) .skip (.exit 0))
def p38_17 : PC := (.loop (.seq (.seq (.reg (om 5 4 :: om 6 0 :: oo 7 (.len .slice (.t 6)) :: oo 8 (.bin .lss .other false (.t 5) (.t 7)) :: [])) p38_6) p38_15))
def p38_25 : PC := (.seq (.reg (oo 2 (.mv (.c (.int .i64 0))) :: [])) (.seq (.reg (oo 3 (.mv (.c (.int .i64 0))) :: [])) (.seq (.seq (.reg (oo 4 (.mv (.c (.int .i64 0))) :: [])) (.block 0 p38_17)) p38_22)))
theorem fn38 : FnOk Tryz.prog 38 p38_25 26 [.t 2] := ⟨false, Tryz.f38, _, Tryz.func38, by decide, rfl, by kernel_rfl, rfl, by kernel_rfl⟩
def L_r25_lowest_1 (N : Nat) (a1 : List Int) : Nat → Int → Int → Option (Int)
  | 0, _, _ => none
  | m1 + 1, v1_0, v1_1 =>
    bif decide (v1_1 < (a1.length : Int)) then
    (bif decide (v1_1 = 0) then
    ((getI a1 v1_1).bind fun y10 =>
    (L_r25_lowest_1 N a1 m1) y10 (IntKind.wrap .i64 (v1_1 + 1)))
    else
    ((getI a1 v1_1).bind fun y11 =>
    bif decide (y11 < v1_0) then
    ((getI a1 v1_1).bind fun y13 =>
    (L_r25_lowest_1 N a1 m1) y13 (IntKind.wrap .i64 (v1_1 + 1)))
    else
    ((L_r25_lowest_1 N a1 m1) v1_0 (IntKind.wrap .i64 (v1_1 + 1)))))
    else
    (some v1_0)
def K_r25_lowest_1 (N : Nat)  : (Int) → Option (Int)
  | x1_0 =>
    some x1_0
def F_r25_lowest  (N : Nat) (a1 : List Int) : Option (Int) :=
      (L_r25_lowest_1 N a1 N 0 0).bind (K_r25_lowest_1 N)
theorem P_r25_lowest  {N : Nat} {a1 : List Int} {r : Int} (h : F_r25_lowest N a1 = some r) : Pure Tryz.prog (Gl.at 0) 38 [(.sl (a1.map i64))] (i64 r) := by
  refine pure_run fn38 ?_
  rw [F_r25_lowest] at h
  replace h := bs h
  change GG [.t 2] _ [.pc p38_25] (mk 26 [(0, (.sl (a1.map i64)))]) []
  refine gx mo [.pc p38_17, .blk 0, .pc p38_22] 26 [(0, (.sl (a1.map i64))), (3, (i64 0)), (4, (i64 0))] [] 14 [] ?_
  refine go_cut (X := Int) (fun x => (K_r25_lowest_1 N x).bind some = some r) ([.pc p38_22]) (fun x => (mk 26 [(3, (i64 x))])) (fun x => []) ?_ fun kont1_0 => ?_
  · rintro x1_0 h
    rw [K_r25_lowest_1] at h
    refine gx mo [.pc p38_21] 26 [(2, (i64 x1_0))] [] 5 [] ?_
    obtain rfl := Option.some.inj h
    exact gf (i64 x1_0) (.same rfl)
  refine go_loop' (fun m t s => ∃ (v1_0 : Int) (v1_1 : Int), (L_r25_lowest_1 N a1 m v1_0 v1_1).bind (fun q => (K_r25_lowest_1 N q).bind some) = some r ∧ t = (mk 26 [(0, (.sl (a1.map i64))), (3, (i64 v1_0)), (4, (i64 v1_1))]) ∧ s = []) N ⟨0, 0, go_assoc h, rfl, rfl⟩ ?_
  intro m1 J1 hJ1 t s
  rintro ⟨v1_0, v1_1, h, rfl, rfl⟩
  cases m1 with
  | zero => exact absurd h (by simp [L_r25_lowest_1])
  | succ m1 =>
    rw [L_r25_lowest_1] at h
    refine gx mo [.pc p38_6, .pc p38_15, .jp J1, .blk 0, .pc p38_22] 26 [(0, (.sl (a1.map i64))), (3, (i64 v1_0)), (4, (i64 v1_1)), (8, (.bool (decide (v1_1 < (a1.length : Int)))))] [] 8 [tw 2 (E_len [] a1 i64)] ?_
    refine go_if h (fun hb8 h => ?_) (fun hb8 h => ?_)
    · rw [hb8]
      refine go_if h (fun hb9 h => ?_) (fun hb9 h => ?_)
      · refine go_bind h (fun y10 hy10 h => ?_)
        refine gx mo [.jp J1, .blk 0, .pc p38_22] 26 [(0, (.sl (a1.map i64))), (3, (i64 y10)), (4, (i64 (IntKind.wrap .i64 (v1_1 + 1))))] [] 31 [twb 2 [] (.bin .eql .other true (.c (i64 v1_1)) (.c (i64 0))) (decide (v1_1 = 0)) true hb9, tw 14 (E_ia [] i64 .i64 hy10)] ?_
        exact go_back rfl (hJ1 m1 _ _ (Nat.lt_succ_self m1) ⟨y10, IntKind.wrap .i64 (v1_1 + 1), h, rfl, rfl⟩)
      · refine go_bind h (fun y11 hy11 h => ?_)
        refine gx mo [.pc p38_11, .blk 1, .pc p38_14, .jp J1, .blk 0, .pc p38_22] 26 [(0, (.sl (a1.map i64))), (3, (i64 v1_0)), (4, (i64 v1_1)), (20, (.bool (decide (y11 < v1_0))))] [] 17 [twb 2 [] (.bin .eql .other true (.c (i64 v1_1)) (.c (i64 0))) (decide (v1_1 = 0)) false hb9, tw 6 (E_ia [] i64 .i64 hy11)] ?_
        refine go_if h (fun hb12 h => ?_) (fun hb12 h => ?_)
        · rw [hb12]
          refine go_bind h (fun y13 hy13 h => ?_)
          refine gx mo [.jp J1, .blk 0, .pc p38_22] 26 [(0, (.sl (a1.map i64))), (3, (i64 y13)), (4, (i64 (IntKind.wrap .i64 (v1_1 + 1))))] [] 14 [tw 3 (E_ia [] i64 .i64 hy13)] ?_
          exact go_back rfl (hJ1 m1 _ _ (Nat.lt_succ_self m1) ⟨y13, IntKind.wrap .i64 (v1_1 + 1), h, rfl, rfl⟩)
        · rw [hb12]
          refine gx mo [.jp J1, .blk 0, .pc p38_22] 26 [(0, (.sl (a1.map i64))), (3, (i64 v1_0)), (4, (i64 (IntKind.wrap .i64 (v1_1 + 1))))] [] 8 [] ?_
          exact go_back rfl (hJ1 m1 _ _ (Nat.lt_succ_self m1) ⟨v1_0, IntKind.wrap .i64 (v1_1 + 1), h, rfl, rfl⟩)
    · rw [hb8]
      refine gx mo [.pc p38_22] 26 [(3, (i64 v1_0))] [] 2 [] ?_
      exact kont1_0 v1_0 h
/-! corebank/corebankref21.Of -/
def p40_17 : PC := .ret
def p40_18 : PC := (.seq (.reg (om 21 5 :: om 4 21 :: [])) p40_17)
def p40_11 : PC := (.seq (.block 1 (.reg (om 13 5 :: om 14 0 :: om 15 6 :: oo 16 (.ia 10 (.t 14) (.t 15)) :: oo 17 (.ldA 10 (.t 16)) :: om 18 1 :: ⟨some 19, .call 63 [.t 17, .t 18], none⟩ :: oo 20 (.bin .add .other false (.t 13) (.t 19)) :: om 5 20 :: []))) (.reg (om 11 6 :: oo 12 (.bin .add .other true (.t 11) (.c (.int .i64 1))) :: om 6 12 :: [])))
def p40_6 : PC := (.cond (.t 10) .skip (.exit 0))
def p40_13 : PC := (.loop (.seq (.seq (.reg (om 7 6 :: om 8 0 :: oo 9 (.len .slice (.t 8)) :: oo 10 (.bin .lss .other false (.t 7) (.t 9)) :: [])) p40_6) p40_11))
def p40_21 : PC := (.seq (.reg (oo 4 (.mv (.c (.int .i64 0))) :: [])) (.seq (.reg (oo 5 (.mv (.c (.int .i64 0))) :: [])) (.seq (.seq (.reg (oo 6 (.mv (.c (.int .i64 0))) :: [])) (.block 0 p40_13)) p40_18)))
theorem fn40 : FnOk Tryz.prog 40 p40_21 22 [.t 4] := ⟨false, Tryz.f40, _, Tryz.func40, by decide, rfl, by kernel_rfl, rfl, by kernel_rfl⟩
def L_r21_Of_1 (N : Nat) (a1 : List ApiEntry) (a2 : Int) : Nat → Int → Int → Option (Int)
  | 0, _, _ => none
  | m1 + 1, v1_0, v1_1 =>
    bif decide (v1_1 < (a1.length : Int)) then
    ((getI a1 v1_1).bind fun y7 =>
    (F_r21_moved N y7 a2).bind fun r8 =>
    (L_r21_Of_1 N a1 a2 m1) (IntKind.wrap .i64 (v1_0 + r8)) (IntKind.wrap .i64 (v1_1 + 1)))
    else
    (some v1_0)
def K_r21_Of_1 (N : Nat)  : (Int) → Option (Int)
  | x1_0 =>
    some x1_0
def F_r21_Of  (N : Nat) (a1 : List ApiEntry) (a2 : Int) : Option (Int) :=
      (L_r21_Of_1 N a1 a2 N 0 0).bind (K_r21_Of_1 N)
theorem P_r21_Of  {N : Nat} {a1 : List ApiEntry} {a2 : Int} {r : Int} (h : F_r21_Of N a1 a2 = some r) : Pure Tryz.prog (Gl.at 0) 40 [(.sl (a1.map ApiEntry.v)), (i64 a2)] (i64 r) := by
  refine pure_run fn40 ?_
  rw [F_r21_Of] at h
  replace h := bs h
  change GG [.t 4] _ [.pc p40_21] (mk 22 [(0, (.sl (a1.map ApiEntry.v))), (1, (i64 a2))]) []
  refine gx mo [.pc p40_13, .blk 0, .pc p40_18] 22 [(0, (.sl (a1.map ApiEntry.v))), (1, (i64 a2)), (5, (i64 0)), (6, (i64 0))] [] 14 [] ?_
  refine go_cut (X := Int) (fun x => (K_r21_Of_1 N x).bind some = some r) ([.pc p40_18]) (fun x => (mk 22 [(5, (i64 x))])) (fun x => []) ?_ fun kont1_0 => ?_
  · rintro x1_0 h
    rw [K_r21_Of_1] at h
    refine gx mo [.pc p40_17] 22 [(4, (i64 x1_0))] [] 5 [] ?_
    obtain rfl := Option.some.inj h
    exact gf (i64 x1_0) (.same rfl)
  refine go_loop' (fun m t s => ∃ (v1_0 : Int) (v1_1 : Int), (L_r21_Of_1 N a1 a2 m v1_0 v1_1).bind (fun q => (K_r21_Of_1 N q).bind some) = some r ∧ t = (mk 22 [(0, (.sl (a1.map ApiEntry.v))), (1, (i64 a2)), (5, (i64 v1_0)), (6, (i64 v1_1))]) ∧ s = []) N ⟨0, 0, go_assoc h, rfl, rfl⟩ ?_
  intro m1 J1 hJ1 t s
  rintro ⟨v1_0, v1_1, h, rfl, rfl⟩
  cases m1 with
  | zero => exact absurd h (by simp [L_r21_Of_1])
  | succ m1 =>
    rw [L_r21_Of_1] at h
    refine gx mo [.pc p40_6, .pc p40_11, .jp J1, .blk 0, .pc p40_18] 22 [(0, (.sl (a1.map ApiEntry.v))), (1, (i64 a2)), (5, (i64 v1_0)), (6, (i64 v1_1)), (10, (.bool (decide (v1_1 < (a1.length : Int)))))] [] 8 [tw 2 (E_len [] a1 ApiEntry.v)] ?_
    refine go_if h (fun hb6 h => ?_) (fun hb6 h => ?_)
    · rw [hb6]
      refine go_bind h (fun y7 hy7 h => ?_)
      refine go_bind h (fun r8 hr8 h => ?_)
      refine gx mo [.jp J1, .blk 0, .pc p40_18] 22 [(0, (.sl (a1.map ApiEntry.v))), (1, (i64 a2)), (5, (i64 (IntKind.wrap .i64 (v1_0 + r8)))), (6, (i64 (IntKind.wrap .i64 (v1_1 + 1))))] [] 21 [tw 4 (E_ia [] ApiEntry.v .i64 hy7), tc 7 [] (P_r21_moved hr8) (fg (fs fl_nil))] ?_
      exact go_back rfl (hJ1 m1 _ _ (Nat.lt_succ_self m1) ⟨IntKind.wrap .i64 (v1_0 + r8), IntKind.wrap .i64 (v1_1 + 1), h, rfl, rfl⟩)
    · rw [hb6]
      refine gx mo [.pc p40_18] 22 [(5, (i64 v1_0))] [] 2 [] ?_
      exact kont1_0 v1_0 h
/-! corebank/corebankref13.within -/
def p64_2 : PC := .ret
def p64_4 : PC := (.seq (.reg (oo 4 (.mv (.c (.bool false))) :: [])) (.seq (.reg (om 5 0 :: om 6 1 :: oo 7 (.un .neg (.t 6)) :: oo 8 (.bin .geq .other false (.t 5) (.t 7)) :: om 9 8 :: ⟨some 10, .op (.mv (.t 0)), some (9, true)⟩ :: ⟨some 11, .op (.mv (.t 1)), some (9, true)⟩ :: ⟨some 12, .op (.bin .leq .other false (.t 10) (.t 11)), some (9, true)⟩ :: oo 13 (.pick (.t 9) (.t 12) (.c (.bool false))) :: om 4 13 :: [])) p64_2))
theorem fn64 : FnOk Tryz.prog 64 p64_4 14 [.t 4] := ⟨false, Tryz.f64, _, Tryz.func64, by decide, rfl, by kernel_rfl, rfl, by kernel_rfl⟩
def F_r13_within  (N : Nat) (a1 : Int) (a2 : Int) : Option (Bool) :=
      bif decide ((IntKind.wrap .i64 (0 - a2)) ≤ a1) then
    (some (decide (a1 ≤ a2)))
    else
    (some false)
theorem P_r13_within  {N : Nat} {a1 : Int} {a2 : Int} {r : Bool} (h : F_r13_within N a1 a2 = some r) : Pure Tryz.prog (Gl.at 0) 64 [(i64 a1), (i64 a2)] (.bool r) := by
  refine pure_run fn64 ?_
  rw [F_r13_within] at h
  replace h := bs h
  change GG [.t 4] _ [.pc p64_4] (mk 14 [(0, (i64 a1)), (1, (i64 a2))]) []
  refine go_if h (fun hb3 h => ?_) (fun hb3 h => ?_)
  · refine gx mo [.pc p64_2] 14 [(4, (.bool (decide (a1 ≤ a2))))] [] 17 [twb 4 [] (.bin .geq .other false (.c (i64 a1)) (.c (i64 (IntKind.wrap .i64 (0 - a2))))) (decide ((IntKind.wrap .i64 (0 - a2)) ≤ a1)) true hb3] ?_
    obtain rfl := Option.some.inj h
    exact gf (.bool (decide (a1 ≤ a2))) (.same rfl)
  · refine gx mo [.pc p64_2] 14 [(4, (.bool false))] [] 17 [twb 4 [] (.bin .geq .other false (.c (i64 a1)) (.c (i64 (IntKind.wrap .i64 (0 - a2))))) (decide ((IntKind.wrap .i64 (0 - a2)) ≤ a1)) false hb3] ?_
    obtain rfl := Option.some.inj h
    exact gf (.bool false) (.same rfl)
/-! corebank/corebankref13.Is -/
def p41_36 : PC := .ret
def p41_37 : PC := (.seq (.reg (oo 2 (.mv (.c (.bool false))) :: [])) p41_36)
def p41_20 : PC := .ret
def p41_23 : PC := (.cond (.t 22) (.seq (.reg (oo 24 (.fa 1 (.t 1)) :: oo 25 (.ld1 (.t 24)) :: oo 26 (.bin .eql .other true (.t 25) (.c (.int .i64 0))) :: om 27 26 :: ⟨some 28, .op (.fa 1 (.t 1)), some (27, false)⟩ :: ⟨some 29, .op (.ld1 (.t 28)), some (27, false)⟩ :: ⟨some 30, .op (.bin .eql .other true (.t 29) (.c (.int .i64 1))), some (27, false)⟩ :: oo 31 (.pick (.t 27) (.c (.bool true)) (.t 30)) :: om 2 31 :: [])) p41_20) .skip)
def p41_16 : PC := .ret
def p41_25 : PC := (.cond (.t 17) (.seq (.reg (oo 19 (.fa 1 (.t 1)) :: oo 20 (.ld1 (.t 19)) :: ⟨some 21, .call 34 [.t 20], none⟩ :: om 2 21 :: [])) p41_16) (.seq (.reg (oo 23 (.bin .eql .other true (.t 4) (.c (.int .i64 5))) :: om 22 23 :: [])) p41_23))
def p41_12 : PC := .ret
def p41_27 : PC := (.cond (.t 12) (.seq (.reg (oo 14 (.fa 1 (.t 1)) :: oo 15 (.ld1 (.t 14)) :: ⟨some 16, .call 64 [.t 15, .c (.int .i64 1000000000)], none⟩ :: om 2 16 :: [])) p41_12) (.seq (.reg (oo 18 (.bin .eql .other true (.t 4) (.c (.int .i64 4))) :: om 17 18 :: [])) p41_25))
def p41_8 : PC := .ret
def p41_29 : PC := (.cond (.t 7) (.seq (.reg (oo 9 (.fa 1 (.t 1)) :: oo 10 (.ld1 (.t 9)) :: ⟨some 11, .call 64 [.t 10, .c (.int .i64 1000000000000)], none⟩ :: om 2 11 :: [])) p41_8) (.seq (.reg (oo 13 (.bin .eql .other true (.t 4) (.c (.int .i64 3))) :: om 12 13 :: [])) p41_27))
def p41_4 : PC := .ret
def p41_31 : PC := (.cond (.t 5) (.seq (.reg (oo 2 (.mv (.c (.bool true))) :: [])) p41_4) (.seq (.reg (oo 8 (.bin .eql .other true (.t 4) (.c (.int .i64 2))) :: om 7 8 :: [])) p41_29))
def p41_39 : PC := (.seq (.reg (oo 1 (.box (.t 0)) :: oo 2 (.mv (.c (.bool false))) :: [])) (.seq (.seq (.reg (oo 3 (.fa 0 (.t 1)) :: oo 4 (.ld1 (.t 3)) :: [])) (.block 0 (.seq (.reg (oo 6 (.bin .eql .other true (.t 4) (.c (.int .i64 1))) :: om 5 6 :: [])) p41_31))) p41_37))
theorem fn41 : FnOk Tryz.prog 41 p41_39 32 [.t 2] := ⟨false, Tryz.f41, _, Tryz.func41, by decide, rfl, by kernel_rfl, rfl, by kernel_rfl⟩
def F_r13_Is  (N : Nat) (a1 : ApiValue) : Option (Bool) :=
      bif decide (a1.Type_ = 1) then
    (some true)
    else
    (bif decide (a1.Type_ = 2) then
    ((F_r13_within N a1.N_ 1000000000000).bind fun r4 =>
    some r4)
    else
    (bif decide (a1.Type_ = 3) then
    ((F_r13_within N a1.N_ 1000000000).bind fun r6 =>
    some r6)
    else
    (bif decide (a1.Type_ = 4) then
    ((F_r04_Valid N a1.N_).bind fun r8 =>
    some r8)
    else
    (bif decide (a1.Type_ = 5) then
    (bif decide (a1.N_ = 0) then
    (some true)
    else
    (some (decide (a1.N_ = 1))))
    else
    (some false)))))
theorem P_r13_Is  {N : Nat} {a1 : ApiValue} {r : Bool} (h : F_r13_Is N a1 = some r) : Pure Tryz.prog (Gl.at 0) 41 [(ApiValue.v a1)] (.bool r) := by
  refine pure_run fn41 ?_
  rw [F_r13_Is] at h
  replace h := bs h
  change GG [.t 2] _ [.pc p41_39] (mk 32 [(0, (ApiValue.v a1))]) []
  refine gx mo [.pc p41_31, .blk 0, .pc p41_37] 32 [(1, (.ref 0 0 0)), (4, (i64 a1.Type_)), (5, (.bool (decide (a1.Type_ = 1))))] [.row 2 [(ApiValue.v a1)]] 17 [] ?_
  refine go_if h (fun hb2 h => ?_) (fun hb2 h => ?_)
  · rw [hb2]
    refine gx mo [.pc p41_4, .blk 0, .pc p41_37] 32 [(2, (.bool true))] [.row 2 [(ApiValue.v a1)]] 5 [] ?_
    obtain rfl := Option.some.inj h
    exact gf (.bool true) (.same rfl)
  · rw [hb2]
    refine gx mo [.pc p41_29, .blk 0, .pc p41_37] 32 [(1, (.ref 0 0 0)), (4, (i64 a1.Type_)), (7, (.bool (decide (a1.Type_ = 2))))] [.row 2 [(ApiValue.v a1)]] 6 [] ?_
    refine go_if h (fun hb3 h => ?_) (fun hb3 h => ?_)
    · rw [hb3]
      refine go_bind h (fun r4 hr4 h => ?_)
      refine gx mo [.pc p41_8, .blk 0, .pc p41_37] 32 [(2, (.bool r4))] [.row 2 [(ApiValue.v a1)]] 8 [tc 3 [.row 2 [(ApiValue.v a1)]] (P_r13_within hr4) (fs (fs fl_nil))] ?_
      obtain rfl := Option.some.inj h
      exact gf (.bool r4) (.same rfl)
    · rw [hb3]
      refine gx mo [.pc p41_27, .blk 0, .pc p41_37] 32 [(1, (.ref 0 0 0)), (4, (i64 a1.Type_)), (12, (.bool (decide (a1.Type_ = 3))))] [.row 2 [(ApiValue.v a1)]] 6 [] ?_
      refine go_if h (fun hb5 h => ?_) (fun hb5 h => ?_)
      · rw [hb5]
        refine go_bind h (fun r6 hr6 h => ?_)
        refine gx mo [.pc p41_12, .blk 0, .pc p41_37] 32 [(2, (.bool r6))] [.row 2 [(ApiValue.v a1)]] 8 [tc 3 [.row 2 [(ApiValue.v a1)]] (P_r13_within hr6) (fs (fs fl_nil))] ?_
        obtain rfl := Option.some.inj h
        exact gf (.bool r6) (.same rfl)
      · rw [hb5]
        refine gx mo [.pc p41_25, .blk 0, .pc p41_37] 32 [(1, (.ref 0 0 0)), (4, (i64 a1.Type_)), (17, (.bool (decide (a1.Type_ = 4))))] [.row 2 [(ApiValue.v a1)]] 6 [] ?_
        refine go_if h (fun hb7 h => ?_) (fun hb7 h => ?_)
        · rw [hb7]
          refine go_bind h (fun r8 hr8 h => ?_)
          refine gx mo [.pc p41_16, .blk 0, .pc p41_37] 32 [(2, (.bool r8))] [.row 2 [(ApiValue.v a1)]] 8 [tc 3 [.row 2 [(ApiValue.v a1)]] (P_r04_Valid hr8) (fs fl_nil)] ?_
          obtain rfl := Option.some.inj h
          exact gf (.bool r8) (.same rfl)
        · rw [hb7]
          refine gx mo [.pc p41_23, .blk 0, .pc p41_37] 32 [(1, (.ref 0 0 0)), (22, (.bool (decide (a1.Type_ = 5))))] [.row 2 [(ApiValue.v a1)]] 6 [] ?_
          refine go_if h (fun hb9 h => ?_) (fun hb9 h => ?_)
          · rw [hb9]
            refine go_if h (fun hb10 h => ?_) (fun hb10 h => ?_)
            · refine gx mo [.pc p41_20, .blk 0, .pc p41_37] 32 [(2, (.bool true))] [.row 2 [(ApiValue.v a1)]] 13 [twb 3 [.row 2 [(ApiValue.v a1)]] (.bin .eql .other true (.c (i64 a1.N_)) (.c (i64 0))) (decide (a1.N_ = 0)) true hb10] ?_
              obtain rfl := Option.some.inj h
              exact gf (.bool true) (.same rfl)
            · refine gx mo [.pc p41_20, .blk 0, .pc p41_37] 32 [(2, (.bool (decide (a1.N_ = 1))))] [.row 2 [(ApiValue.v a1)]] 13 [twb 3 [.row 2 [(ApiValue.v a1)]] (.bin .eql .other true (.c (i64 a1.N_)) (.c (i64 0))) (decide (a1.N_ = 0)) false hb10] ?_
              obtain rfl := Option.some.inj h
              exact gf (.bool (decide (a1.N_ = 1))) (.same rfl)
          · rw [hb9]
            refine gx mo [.pc p41_36] 32 [(2, (.bool false))] [.row 2 [(ApiValue.v a1)]] 7 [] ?_
            obtain rfl := Option.some.inj h
            exact gf (.bool false) (.same rfl)
/-! corebank/corebankref25.touches -/
def p65_22 : PC := .ret
def p65_23 : PC := (.seq (.reg (oo 4 (.mv (.c (.bool false))) :: [])) p65_22)
def p65_15 : PC := (.reg (om 11 5 :: oo 12 (.bin .add .other true (.t 11) (.c (.int .i64 1))) :: om 5 12 :: []))
def p65_9 : PC := .ret
def p65_12 : PC := (.cond (.t 20) (.seq (.reg (oo 4 (.mv (.c (.bool true))) :: [])) p65_9) .skip)
def p65_16 : PC := (.seq (.block 1 (.seq (.reg (oo 13 (.fa 8 (.t 2)) :: oo 14 (.ld1 (.t 13)) :: om 15 5 :: oo 16 (.ia 3 (.t 14) (.t 15)) :: oo 17 (.fa 0 (.t 16)) :: oo 18 (.ld1 (.t 17)) :: om 19 1 :: oo 20 (.bin .eql .other false (.t 18) (.t 19)) :: [])) p65_12)) p65_15)
def p65_5 : PC := (.cond (.t 10) .skip (.exit 0))
def p65_18 : PC := (.loop (.seq (.seq (.reg (om 6 5 :: oo 7 (.fa 8 (.t 2)) :: oo 8 (.ld1 (.t 7)) :: oo 9 (.len .slice (.t 8)) :: oo 10 (.bin .lss .other false (.t 6) (.t 9)) :: [])) p65_5) p65_16))
def p65_25 : PC := (.seq (.reg (oo 2 (.box (.t 0)) :: oo 4 (.mv (.c (.bool false))) :: [])) (.seq (.seq (.reg (oo 5 (.mv (.c (.int .i64 0))) :: [])) (.block 0 p65_18)) p65_23))
theorem fn65 : FnOk Tryz.prog 65 p65_25 21 [.t 4] := ⟨false, Tryz.f65, _, Tryz.func65, by decide, rfl, by kernel_rfl, rfl, by kernel_rfl⟩
def L_r25_touches_1 (N : Nat) (a1 : ApiEntry) (a2 : Int) : Nat → Int → Option (Br (Bool) (Unit))
  | 0, _ => none
  | m1 + 1, v1_0 =>
    bif decide (v1_0 < (a1.Legs_.length : Int)) then
    ((getI a1.Legs_ v1_0).bind fun y7 =>
    bif decide (y7.Account_ = a2) then
    (some (.ret true))
    else
    ((L_r25_touches_1 N a1 a2 m1) (IntKind.wrap .i64 (v1_0 + 1))))
    else
    (some (.brk ()))
def K_r25_touches_1 (N : Nat)  : Br (Bool) (Unit) → Option (Bool)
  | .ret r => some r
  | .brk _ =>
    some false
def F_r25_touches  (N : Nat) (a1 : ApiEntry) (a2 : Int) : Option (Bool) :=
      (L_r25_touches_1 N a1 a2 N 0).bind (K_r25_touches_1 N)
theorem P_r25_touches  {N : Nat} {a1 : ApiEntry} {a2 : Int} {r : Bool} (h : F_r25_touches N a1 a2 = some r) : Pure Tryz.prog (Gl.at 0) 65 [(ApiEntry.v a1), (i64 a2)] (.bool r) := by
  refine pure_run fn65 ?_
  rw [F_r25_touches] at h
  replace h := bs h
  change GG [.t 4] _ [.pc p65_25] (mk 21 [(0, (ApiEntry.v a1)), (1, (i64 a2))]) []
  refine gx mo [.pc p65_18, .blk 0, .pc p65_23] 21 [(1, (i64 a2)), (2, (.ref 0 0 0)), (5, (i64 0))] [.row 10 [(ApiEntry.v a1)]] 11 [] ?_
  refine go_cut (X := Unit) (fun x => (K_r25_touches_1 N (.brk x)).bind some = some r) ([.pc p65_23]) (fun x => (mk 21 [])) (fun x => []) ?_ fun kont1_0 => ?_
  · rintro _ h
    rw [K_r25_touches_1] at h
    refine gx mo [.pc p65_22] 21 [(4, (.bool false))] [] 4 [] ?_
    obtain rfl := Option.some.inj h
    exact gf (.bool false) (.same rfl)
  refine go_loop' (fun m t s => ∃ (v1_0 : Int), (L_r25_touches_1 N a1 a2 m v1_0).bind (fun q => (K_r25_touches_1 N q).bind some) = some r ∧ t = (mk 21 [(1, (i64 a2)), (2, (.ref 0 0 0)), (5, (i64 v1_0))]) ∧ s = [.row 10 [(ApiEntry.v a1)]]) N ⟨0, go_assoc h, rfl, rfl⟩ ?_
  intro m1 J1 hJ1 t s
  rintro ⟨v1_0, h, rfl, rfl⟩
  cases m1 with
  | zero => exact absurd h (by simp [L_r25_touches_1])
  | succ m1 =>
    rw [L_r25_touches_1] at h
    refine gx mo [.pc p65_5, .pc p65_16, .jp J1, .blk 0, .pc p65_23] 21 [(1, (i64 a2)), (2, (.ref 0 0 0)), (5, (i64 v1_0)), (10, (.bool (decide (v1_0 < (a1.Legs_.length : Int)))))] [.row 10 [(ApiEntry.v a1)]] 9 [tw 3 (E_len [.row 10 [(ApiEntry.v a1)]] a1.Legs_ ApiLeg.v)] ?_
    refine go_if h (fun hb6 h => ?_) (fun hb6 h => ?_)
    · rw [hb6]
      refine go_bind h (fun y7 hy7 h => ?_)
      refine gx mo [.pc p65_12, .blk 1, .pc p65_15, .jp J1, .blk 0, .pc p65_23] 21 [(1, (i64 a2)), (2, (.ref 0 0 0)), (5, (i64 v1_0)), (20, (.bool (decide (y7.Account_ = a2))))] [.row 10 [(ApiEntry.v a1)]] 15 [tw 4 (E_ia [.row 10 [(ApiEntry.v a1)]] ApiLeg.v .i64 hy7)] ?_
      refine go_if h (fun hb8 h => ?_) (fun hb8 h => ?_)
      · rw [hb8]
        refine gx mo [.pc p65_9, .blk 1, .pc p65_15, .jp J1, .blk 0, .pc p65_23] 21 [(4, (.bool true))] [.row 10 [(ApiEntry.v a1)]] 5 [] ?_
        obtain rfl := Option.some.inj h
        exact gf (.bool true) (.same rfl)
      · rw [hb8]
        refine gx mo [.jp J1, .blk 0, .pc p65_23] 21 [(1, (i64 a2)), (2, (.ref 0 0 0)), (5, (i64 (IntKind.wrap .i64 (v1_0 + 1))))] [.row 10 [(ApiEntry.v a1)]] 8 [] ?_
        exact go_back rfl (hJ1 m1 _ _ (Nat.lt_succ_self m1) ⟨IntKind.wrap .i64 (v1_0 + 1), h, rfl, rfl⟩)
    · rw [hb6]
      refine gx mo [.pc p65_23] 21 [] [.row 10 [(ApiEntry.v a1)]] 2 [] ?_
      refine go_pick [] [] [] (t' := (mk 21 [])) (s' := []) (by kernel_rfl) trivial rfl ?_
      exact kont1_0 () h
/-! corebank/corebankref25.count -/
def p42_21 : PC := .ret
def p42_22 : PC := (.seq (.reg (om 43 9 :: om 8 43 :: [])) p42_21)
def p42_14 : PC := (.reg (om 15 10 :: oo 16 (.bin .add .other true (.t 15) (.c (.int .i64 1))) :: om 10 16 :: []))
def p42_11 : PC := (.cond (.t 40) (.reg (om 41 9 :: oo 42 (.bin .add .other true (.t 41) (.c (.int .i64 1))) :: om 9 42 :: [])) .skip)
def p42_15 : PC := (.seq (.block 1 (.seq (.reg (om 17 0 :: om 18 10 :: oo 19 (.ia 10 (.t 17) (.t 18)) :: oo 20 (.fa 1 (.t 19)) :: oo 21 (.ld1 (.t 20)) :: om 22 2 :: oo 23 (.bin .geq .other false (.t 21) (.t 22)) :: om 24 23 :: ⟨some 25, .op (.mv (.t 0)), some (24, true)⟩ :: ⟨some 26, .op (.mv (.t 10)), some (24, true)⟩ :: ⟨some 27, .op (.ia 10 (.t 25) (.t 26)), some (24, true)⟩ :: ⟨some 28, .op (.fa 1 (.t 27)), some (24, true)⟩ :: ⟨some 29, .op (.ld1 (.t 28)), some (24, true)⟩ :: ⟨some 30, .op (.mv (.t 3)), some (24, true)⟩ :: ⟨some 31, .op (.bin .leq .other false (.t 29) (.t 30)), some (24, true)⟩ :: oo 32 (.pick (.t 24) (.t 31) (.c (.bool false))) :: om 33 32 :: ⟨some 34, .op (.mv (.t 0)), some (33, true)⟩ :: ⟨some 35, .op (.mv (.t 10)), some (33, true)⟩ :: ⟨some 36, .op (.ia 10 (.t 34) (.t 35)), some (33, true)⟩ :: ⟨some 37, .op (.ldA 10 (.t 36)), some (33, true)⟩ :: ⟨some 38, .op (.mv (.t 1)), some (33, true)⟩ :: ⟨some 39, .call 65 [.t 37, .t 38], some (33, true)⟩ :: oo 40 (.pick (.t 33) (.t 39) (.c (.bool false))) :: [])) p42_11)) p42_14)
def p42_6 : PC := (.cond (.t 14) .skip (.exit 0))
def p42_17 : PC := (.loop (.seq (.seq (.reg (om 11 10 :: om 12 0 :: oo 13 (.len .slice (.t 12)) :: oo 14 (.bin .lss .other false (.t 11) (.t 13)) :: [])) p42_6) p42_15))
def p42_25 : PC := (.seq (.reg (oo 8 (.mv (.c (.int .i64 0))) :: [])) (.seq (.reg (oo 9 (.mv (.c (.int .i64 0))) :: [])) (.seq (.seq (.reg (oo 10 (.mv (.c (.int .i64 0))) :: [])) (.block 0 p42_17)) p42_22)))
theorem fn42 : FnOk Tryz.prog 42 p42_25 44 [.t 8] := ⟨false, Tryz.f42, _, Tryz.func42, by decide, rfl, by kernel_rfl, rfl, by kernel_rfl⟩
def L_r25_count_1 (N : Nat) (a1 : List ApiEntry) (a2 : Int) (a3 : Int) (a4 : Int) : Nat → Int → Int → Option (Int)
  | 0, _, _ => none
  | m1 + 1, v1_0, v1_1 =>
    bif decide (v1_1 < (a1.length : Int)) then
    ((getI a1 v1_1).bind fun y14 =>
    bif decide (a3 ≤ y14.Booked_) then
    ((getI a1 v1_1).bind fun y16 =>
    bif decide (y16.Booked_ ≤ a4) then
    ((getI a1 v1_1).bind fun y18 =>
    (F_r25_touches N y18 a2).bind fun r19 =>
    bif r19 then
    ((L_r25_count_1 N a1 a2 a3 a4 m1) (IntKind.wrap .i64 (v1_0 + 1)) (IntKind.wrap .i64 (v1_1 + 1)))
    else
    ((L_r25_count_1 N a1 a2 a3 a4 m1) v1_0 (IntKind.wrap .i64 (v1_1 + 1))))
    else
    ((L_r25_count_1 N a1 a2 a3 a4 m1) v1_0 (IntKind.wrap .i64 (v1_1 + 1))))
    else
    ((L_r25_count_1 N a1 a2 a3 a4 m1) v1_0 (IntKind.wrap .i64 (v1_1 + 1))))
    else
    (some v1_0)
def K_r25_count_1 (N : Nat)  : (Int) → Option (Int)
  | x1_0 =>
    some x1_0
def F_r25_count  (N : Nat) (a1 : List ApiEntry) (a2 : Int) (a3 : Int) (a4 : Int) : Option (Int) :=
      (L_r25_count_1 N a1 a2 a3 a4 N 0 0).bind (K_r25_count_1 N)
theorem P_r25_count  {N : Nat} {a1 : List ApiEntry} {a2 : Int} {a3 : Int} {a4 : Int} {r : Int} (h : F_r25_count N a1 a2 a3 a4 = some r) : Pure Tryz.prog (Gl.at 0) 42 [(.sl (a1.map ApiEntry.v)), (i64 a2), (i64 a3), (i64 a4)] (i64 r) := by
  refine pure_run fn42 ?_
  rw [F_r25_count] at h
  replace h := bs h
  change GG [.t 8] _ [.pc p42_25] (mk 44 [(0, (.sl (a1.map ApiEntry.v))), (1, (i64 a2)), (2, (i64 a3)), (3, (i64 a4))]) []
  refine gx mo [.pc p42_17, .blk 0, .pc p42_22] 44 [(0, (.sl (a1.map ApiEntry.v))), (1, (i64 a2)), (2, (i64 a3)), (3, (i64 a4)), (9, (i64 0)), (10, (i64 0))] [] 14 [] ?_
  refine go_cut (X := Int) (fun x => (K_r25_count_1 N x).bind some = some r) ([.pc p42_22]) (fun x => (mk 44 [(9, (i64 x))])) (fun x => []) ?_ fun kont1_0 => ?_
  · rintro x1_0 h
    rw [K_r25_count_1] at h
    refine gx mo [.pc p42_21] 44 [(8, (i64 x1_0))] [] 5 [] ?_
    obtain rfl := Option.some.inj h
    exact gf (i64 x1_0) (.same rfl)
  refine go_loop' (fun m t s => ∃ (v1_0 : Int) (v1_1 : Int), (L_r25_count_1 N a1 a2 a3 a4 m v1_0 v1_1).bind (fun q => (K_r25_count_1 N q).bind some) = some r ∧ t = (mk 44 [(0, (.sl (a1.map ApiEntry.v))), (1, (i64 a2)), (2, (i64 a3)), (3, (i64 a4)), (9, (i64 v1_0)), (10, (i64 v1_1))]) ∧ s = []) N ⟨0, 0, go_assoc h, rfl, rfl⟩ ?_
  intro m1 J1 hJ1 t s
  rintro ⟨v1_0, v1_1, h, rfl, rfl⟩
  cases m1 with
  | zero => exact absurd h (by simp [L_r25_count_1])
  | succ m1 =>
    rw [L_r25_count_1] at h
    refine gx mo [.pc p42_6, .pc p42_15, .jp J1, .blk 0, .pc p42_22] 44 [(0, (.sl (a1.map ApiEntry.v))), (1, (i64 a2)), (2, (i64 a3)), (3, (i64 a4)), (9, (i64 v1_0)), (10, (i64 v1_1)), (14, (.bool (decide (v1_1 < (a1.length : Int)))))] [] 8 [tw 2 (E_len [] a1 ApiEntry.v)] ?_
    refine go_if h (fun hb13 h => ?_) (fun hb13 h => ?_)
    · rw [hb13]
      refine go_bind h (fun y14 hy14 h => ?_)
      refine go_if h (fun hb15 h => ?_) (fun hb15 h => ?_)
      · refine go_bind h (fun y16 hy16 h => ?_)
        refine go_if h (fun hb17 h => ?_) (fun hb17 h => ?_)
        · refine go_bind h (fun y18 hy18 h => ?_)
          refine go_bind h (fun r19 hr19 h => ?_)
          refine gx mo [.pc p42_11, .blk 1, .pc p42_14, .jp J1, .blk 0, .pc p42_22] 44 [(0, (.sl (a1.map ApiEntry.v))), (1, (i64 a2)), (2, (i64 a3)), (3, (i64 a4)), (9, (i64 v1_0)), (10, (i64 v1_1)), (40, (.bool r19))] [] 31 [tw 3 (E_ia [] ApiEntry.v .i64 hy14), twb 7 [] (.bin .geq .other false (.c (i64 y14.Booked_)) (.c (i64 a3))) (decide (a3 ≤ y14.Booked_)) true hb15, tw 11 (E_ia [] ApiEntry.v .i64 hy16), twb 16 [] (.pick (.c (.bool true)) (.c (.bool (decide (y16.Booked_ ≤ a4)))) (.c (.bool false))) (decide (y16.Booked_ ≤ a4)) true hb17, tw 20 (E_ia [] ApiEntry.v .i64 hy18), tc 23 [] (P_r25_touches hr19) (fg (fs fl_nil))] ?_
          refine go_if h (fun hb20 h => ?_) (fun hb20 h => ?_)
          · rw [hb20]
            refine gx mo [.jp J1, .blk 0, .pc p42_22] 44 [(0, (.sl (a1.map ApiEntry.v))), (1, (i64 a2)), (2, (i64 a3)), (3, (i64 a4)), (9, (i64 (IntKind.wrap .i64 (v1_0 + 1)))), (10, (i64 (IntKind.wrap .i64 (v1_1 + 1))))] [] 12 [] ?_
            exact go_back rfl (hJ1 m1 _ _ (Nat.lt_succ_self m1) ⟨IntKind.wrap .i64 (v1_0 + 1), IntKind.wrap .i64 (v1_1 + 1), h, rfl, rfl⟩)
          · rw [hb20]
            refine gx mo [.jp J1, .blk 0, .pc p42_22] 44 [(0, (.sl (a1.map ApiEntry.v))), (1, (i64 a2)), (2, (i64 a3)), (3, (i64 a4)), (9, (i64 v1_0)), (10, (i64 (IntKind.wrap .i64 (v1_1 + 1))))] [] 8 [] ?_
            exact go_back rfl (hJ1 m1 _ _ (Nat.lt_succ_self m1) ⟨v1_0, IntKind.wrap .i64 (v1_1 + 1), h, rfl, rfl⟩)
        · refine gx mo [.jp J1, .blk 0, .pc p42_22] 44 [(0, (.sl (a1.map ApiEntry.v))), (1, (i64 a2)), (2, (i64 a3)), (3, (i64 a4)), (9, (i64 v1_0)), (10, (i64 (IntKind.wrap .i64 (v1_1 + 1))))] [] 39 [tw 3 (E_ia [] ApiEntry.v .i64 hy14), twb 7 [] (.bin .geq .other false (.c (i64 y14.Booked_)) (.c (i64 a3))) (decide (a3 ≤ y14.Booked_)) true hb15, tw 11 (E_ia [] ApiEntry.v .i64 hy16), twb 16 [] (.pick (.c (.bool true)) (.c (.bool (decide (y16.Booked_ ≤ a4)))) (.c (.bool false))) (decide (y16.Booked_ ≤ a4)) false hb17] ?_
          exact go_back rfl (hJ1 m1 _ _ (Nat.lt_succ_self m1) ⟨v1_0, IntKind.wrap .i64 (v1_1 + 1), h, rfl, rfl⟩)
      · refine gx mo [.jp J1, .blk 0, .pc p42_22] 44 [(0, (.sl (a1.map ApiEntry.v))), (1, (i64 a2)), (2, (i64 a3)), (3, (i64 a4)), (9, (i64 v1_0)), (10, (i64 (IntKind.wrap .i64 (v1_1 + 1))))] [] 39 [tw 3 (E_ia [] ApiEntry.v .i64 hy14), twb 7 [] (.bin .geq .other false (.c (i64 y14.Booked_)) (.c (i64 a3))) (decide (a3 ≤ y14.Booked_)) false hb15] ?_
        exact go_back rfl (hJ1 m1 _ _ (Nat.lt_succ_self m1) ⟨v1_0, IntKind.wrap .i64 (v1_1 + 1), h, rfl, rfl⟩)
    · rw [hb13]
      refine gx mo [.pc p42_22] 44 [(9, (i64 v1_0))] [] 2 [] ?_
      exact kont1_0 v1_0 h
/-! corebank/corebankref25.Env -/
def p8_47 : PC := .ret
def p8_49 : PC := (.seq (.drawn (om 85 17 :: oo 86 (.fa 19 (.t 4)) :: oo 87 (.ld1 (.t 86)) :: om 88 1 :: om 89 12 :: om 90 2 :: ⟨some 91, .call 42 [.t 87, .t 88, .t 89, .t 90], none⟩ :: oo 92 (.build [.int .i64 0, .int .i64 0] [(0, 1, .c (.int .i64 1)), (1, 1, .t 91)]) :: om 93 2 :: oo 94 (.fa 1 (.t 10)) :: oo 95 (.ld1 (.t 94)) :: oo 96 (.bin .sub .other false (.t 93) (.t 95)) :: oo 97 (.build [.int .i64 0, .int .i64 0] [(0, 1, .c (.int .i64 1)), (1, 1, .t 96)]) :: om 98 2 :: oo 99 (.build [.int .i64 0, .int .i64 0] [(0, 1, .c (.int .i64 4)), (1, 1, .t 98)]) :: oo 100 (.lit (.agg [.int .i64 0, .int .i64 0]) 3 [(0, .t 92), (1, .t 97), (2, .t 99)]) :: oo 101 (.app 2 16 (.t 85) (.t 100)) :: om 17 101 :: []) [[], [], [1], [], [], [], [2, 3, 4, 5], [6], [], [], [9], [8, 10], [11], [], [13], [7, 12, 14], [0, 15, 6], [16, 16, 0, 1, 2, 3, 4, 5, 6, 7, 8, 9, 10, 11, 12, 13, 14, 15, 16]]) (.seq (.reg (om 102 17 :: om 8 102 :: oo 9 (.mv (.c (.int .i64 0))) :: [])) p8_47))
def p8_39 : PC := (.reg (om 71 18 :: oo 72 (.bin .add .other true (.t 71) (.c (.int .i64 1))) :: om 18 72 :: []))
def p8_35 : PC := (.reg (om 81 17 :: oo 82 (.ldA 2 (.t 19)) :: oo 83 (.lit (.agg [.int .i64 0, .int .i64 0]) 1 [(0, .t 82)]) :: oo 84 (.app 2 16 (.t 81) (.t 83)) :: om 17 84 :: []))
def p8_30 : PC := .ret
def p8_33 : PC := (.cond (.t 80) (.seq (.reg (oo 8 (.mv (.c .nils)) :: oo 9 (.mv (.c (.int .i64 6))) :: [])) p8_30) .skip)
def p8_40 : PC := (.seq (.block 1 (.seq (.reg (om 73 16 :: om 74 18 :: oo 75 (.ia 1 (.t 73) (.t 74)) :: oo 76 (.ld1 (.t 75)) :: oo 77 (.build [.int .i64 0, .int .i64 0] [(0, 1, .c (.int .i64 2)), (1, 1, .t 76)]) :: oo 19 (.new (.agg [.int .i64 0, .int .i64 0])) :: on_ (.st 2 (.t 19) (.t 77)) :: [])) (.seq (.seq (.reg (oo 78 (.ldA 2 (.t 19)) :: ⟨some 79, .call 41 [.t 78], none⟩ :: oo 80 (.un .not (.t 79)) :: [])) p8_33) p8_35))) p8_39)
def p8_25 : PC := (.cond (.t 70) .skip (.exit 0))
def p8_42 : PC := (.loop (.seq (.seq (.reg (om 67 18 :: om 68 16 :: oo 69 (.len .slice (.t 68)) :: oo 70 (.bin .lss .other false (.t 67) (.t 69)) :: [])) p8_25) p8_40))
def p8_55 : PC := (.seq (.reg (om 38 2 :: ⟨some 39, .call 36 [.t 38], none⟩ :: om 12 39 :: [])) (.seq (.reg (oo 41 (.fa 19 (.t 4)) :: oo 42 (.ld1 (.t 41)) :: om 43 1 :: om 44 12 :: om 45 2 :: ⟨some 46, .call 37 [.t 42, .t 43, .t 44, .t 45], none⟩ :: om 40 46 :: oo 47 (.ext 0 (.t 40)) :: oo 48 (.ext 1 (.t 40)) :: om 13 47 :: om 14 48 :: [])) (.seq (.reg (oo 49 (.fa 19 (.t 4)) :: oo 50 (.ld1 (.t 49)) :: om 51 1 :: om 52 12 :: oo 53 (.fa 1 (.t 10)) :: oo 54 (.ld1 (.t 53)) :: oo 55 (.max [.t 52, .t 54]) :: om 56 2 :: ⟨some 57, .call 39 [.t 50, .t 51, .t 55, .t 56], none⟩ :: ⟨some 58, .call 38 [.t 57], none⟩ :: om 15 58 :: [])) (.seq (.reg (oo 59 (.fa 19 (.t 4)) :: oo 60 (.ld1 (.t 59)) :: om 61 1 :: ⟨some 62, .call 40 [.t 60, .t 61], none⟩ :: om 63 15 :: om 64 13 :: om 65 3 :: oo 66 (.lit (.int .i64 0) 4 [(0, .t 62), (1, .t 63), (2, .t 64), (3, .t 65)]) :: om 16 66 :: [])) (.seq (.reg (oo 17 (.mv (.c .nils)) :: [])) (.seq (.seq (.reg (oo 18 (.mv (.c (.int .i64 0))) :: [])) (.block 0 p8_42)) p8_49))))))
def p8_11 : PC := .ret
def p8_14 : PC := (.cond (.t 37) (.seq (.reg (oo 8 (.mv (.c .nils)) :: oo 9 (.mv (.c (.int .i64 16))) :: [])) p8_11) .skip)
def p8_56 : PC := (.seq (.seq (.reg (om 28 2 :: ⟨some 29, .call 34 [.t 28], none⟩ :: oo 30 (.un .not (.t 29)) :: om 31 30 :: ⟨some 32, .op (.ldA 22 (.t 4)), some (31, false)⟩ :: ⟨some 33, .op (.mv (.t 1)), some (31, false)⟩ :: ⟨some 34, .op (.mv (.t 2)), some (31, false)⟩ :: ⟨some 35, .call 35 [.t 32, .t 33, .t 34], some (31, false)⟩ :: ⟨some 36, .op (.un .not (.t 35)), some (31, false)⟩ :: oo 37 (.pick (.t 31) (.c (.bool true)) (.t 36)) :: [])) p8_14) p8_55)
def p8_4 : PC := .ret
def p8_7 : PC := (.cond (.t 27) (.seq (.reg (oo 8 (.mv (.c .nils)) :: oo 9 (.mv (.c (.int .i64 11))) :: [])) p8_4) .skip)
def p8_59 : PC := (.seq (.reg (oo 4 (.box (.t 0)) :: oo 8 (.mv (.c .nils)) :: oo 9 (.mv (.c (.int .i64 0))) :: [])) (.seq (.reg (oo 21 (.ldA 22 (.t 4)) :: om 22 1 :: ⟨some 23, .call 33 [.t 21, .t 22], none⟩ :: om 20 23 :: oo 24 (.ext 0 (.t 20)) :: oo 25 (.ext 1 (.t 20)) :: oo 10 (.new (.agg [.int .i64 0, .int .i64 0, .int .i64 0, .int .i64 0, .str [], .str [], .str []])) :: on_ (.st 7 (.t 10) (.t 24)) :: om 11 25 :: [])) (.seq (.seq (.reg (om 26 11 :: oo 27 (.un .not (.t 26)) :: [])) p8_7) p8_56)))
theorem fn8 : FnOk Tryz.prog 8 p8_59 103 [.t 8, .t 9] := ⟨false, Tryz.f8, _, Tryz.func8, by decide, rfl, by kernel_rfl, rfl, by kernel_rfl⟩
def L_r25_Env_1 (N : Nat) (a4 : Int) (r12 : Int × Int) (r14 : Int) (r15 : Int) : Nat → (List ApiValue) → Int → Option (Br ((List ApiValue) × Int) ((List ApiValue)))
  | 0, _, _ => none
  | m1 + 1, v1_0, v1_1 =>
    bif decide (v1_1 < 4) then
    ((getI ([r15, r14, r12.1, a4] : List Int) v1_1).bind fun y24 =>
    (F_r13_Is N (⟨2, y24⟩ : ApiValue)).bind fun r25 =>
    bif !r25 then
    (some (.ret ([], 6)))
    else
    ((appI 16 v1_0 ([(⟨2, y24⟩ : ApiValue)] : List ApiValue)).bind fun l27 =>
    (L_r25_Env_1 N a4 r12 r14 r15 m1) l27 (IntKind.wrap .i64 (v1_1 + 1))))
    else
    (some (.brk v1_0))
def K_r25_Env_1 (N : Nat) (a1 : ApiBooks) (a2 : Int) (a3 : Int) (r5 : ApiAccount × Bool) (r11 : Int) : Br ((List ApiValue) × Int) ((List ApiValue)) → Option ((List ApiValue) × Int)
  | .ret r => some r
  | .brk x1_0 =>
    (F_r25_count N a1.Journal_ a2 r11 a3).bind fun r21 =>
    (appI 16 x1_0 ([(⟨1, r21⟩ : ApiValue), (⟨1, IntKind.wrap .i64 (a3 - r5.1.Opened_)⟩ : ApiValue), (⟨4, a3⟩ : ApiValue)] : List ApiValue)).bind fun l22 =>
    some (l22, 0)
def F_r25_Env  (N : Nat) (a1 : ApiBooks) (a2 : Int) (a3 : Int) (a4 : Int) : Option ((List ApiValue) × Int) :=
      (F_r24_Find N a1 a2).bind fun r5 =>
    bif !r5.2 then
    (some ([], 11))
    else
    ((F_r04_Valid N a3).bind fun r7 =>
    bif !r7 then
    (some ([], 16))
    else
    ((F_r24_Active N a1 a2 a3).bind fun r9 =>
    bif !r9 then
    (some ([], 16))
    else
    ((F_r25_First N a3).bind fun r11 =>
    (F_r21_Turnover N a1.Journal_ a2 r11 a3).bind fun r12 =>
    (F_r21_Daily N a1.Journal_ a2 (if r11 < r5.1.Opened_ then r5.1.Opened_ else r11) a3).bind fun r13 =>
    (F_r25_lowest N r13).bind fun r14 =>
    (F_r21_Of N a1.Journal_ a2).bind fun r15 =>
    (L_r25_Env_1 N a4 r12 r14 r15 N [] 0).bind (K_r25_Env_1 N a1 a2 a3 r5 r11))))
theorem P_r25_Env  {N : Nat} {a1 : ApiBooks} {a2 : Int} {a3 : Int} {a4 : Int} {r : (List ApiValue) × Int} (h : F_r25_Env N a1 a2 a3 a4 = some r) : Pure Tryz.prog (Gl.at 0) 8 [(ApiBooks.v a1), (i64 a2), (i64 a3), (i64 a4)] (.tup [(.sl (r.1.map ApiValue.v)), (i64 r.2)]) := by
  refine pure_run fn8 ?_
  rw [F_r25_Env] at h
  replace h := bs h
  change GG [.t 8, .t 9] _ [.pc p8_59] (mk 103 [(0, (ApiBooks.v a1)), (1, (i64 a2)), (2, (i64 a3)), (3, (i64 a4))]) []
  refine go_bind h (fun r5 hr5 h => ?_)
  refine gx mo [.pc p8_7, .pc p8_56] 103 [(1, (i64 a2)), (2, (i64 a3)), (3, (i64 a4)), (4, (.ref 0 0 0)), (10, (.ref 1 0 0)), (27, (.bool (!r5.2)))] [.row 22 [(ApiBooks.v a1)], .row 7 [(ApiAccount.v r5.1)]] 24 [tc 5 [.row 22 [(ApiBooks.v a1)]] (P_r24_Find hr5) (fg (fs fl_nil))] ?_
  refine go_if h (fun hb6 h => ?_) (fun hb6 h => ?_)
  · rw [hb6]
    refine gx mo [.pc p8_4, .pc p8_56] 103 [(8, .nils), (9, (i64 11))] [.row 22 [(ApiBooks.v a1)], .row 7 [(ApiAccount.v r5.1)]] 6 [] ?_
    obtain rfl := Option.some.inj h
    exact gf (.tup [.nils, (i64 11)]) (f_tupl (fl_cons .nil0 (fs fl_nil)))
  · rw [hb6]
    refine go_bind h (fun r7 hr7 h => ?_)
    refine go_if h (fun hb8 h => ?_) (fun hb8 h => ?_)
    · refine gx mo [.pc p8_11, .pc p8_55] 103 [(8, .nils), (9, (i64 16))] [.row 22 [(ApiBooks.v a1)], .row 7 [(ApiAccount.v r5.1)]] 22 [tc 2 [.row 22 [(ApiBooks.v a1)], .row 7 [(ApiAccount.v r5.1)]] (P_r04_Valid hr7) (fs fl_nil), twb 3 [.row 22 [(ApiBooks.v a1)], .row 7 [(ApiAccount.v r5.1)]] (.un .not (.c (.bool r7))) (!r7) true hb8] ?_
      obtain rfl := Option.some.inj h
      exact gf (.tup [.nils, (i64 16)]) (f_tupl (fl_cons .nil0 (fs fl_nil)))
    · refine go_bind h (fun r9 hr9 h => ?_)
      refine gx mo [.pc p8_14, .pc p8_55] 103 [(1, (i64 a2)), (2, (i64 a3)), (3, (i64 a4)), (4, (.ref 0 0 0)), (10, (.ref 1 0 0)), (37, (.bool (!r9)))] [.row 22 [(ApiBooks.v a1)], .row 7 [(ApiAccount.v r5.1)]] 16 [tc 2 [.row 22 [(ApiBooks.v a1)], .row 7 [(ApiAccount.v r5.1)]] (P_r04_Valid hr7) (fs fl_nil), twb 3 [.row 22 [(ApiBooks.v a1)], .row 7 [(ApiAccount.v r5.1)]] (.un .not (.c (.bool r7))) (!r7) false hb8, tc 8 [.row 22 [(ApiBooks.v a1)], .row 7 [(ApiAccount.v r5.1)]] (P_r24_Active hr9) (fg (fs (fs fl_nil)))] ?_
      refine go_if h (fun hb10 h => ?_) (fun hb10 h => ?_)
      · rw [hb10]
        refine gx mo [.pc p8_11, .pc p8_55] 103 [(8, .nils), (9, (i64 16))] [.row 22 [(ApiBooks.v a1)], .row 7 [(ApiAccount.v r5.1)]] 6 [] ?_
        obtain rfl := Option.some.inj h
        exact gf (.tup [.nils, (i64 16)]) (f_tupl (fl_cons .nil0 (fs fl_nil)))
      · rw [hb10]
        refine go_bind h (fun r11 hr11 h => ?_)
        refine go_bind h (fun r12 hr12 h => ?_)
        refine go_bind h (fun r13 hr13 h => ?_)
        refine go_bind h (fun r14 hr14 h => ?_)
        refine go_bind h (fun r15 hr15 h => ?_)
        refine gx mo [.pc p8_42, .blk 0, .pc p8_49] 103 [(1, (i64 a2)), (2, (i64 a3)), (4, (.ref 0 0 0)), (10, (.ref 1 0 0)), (12, (i64 r11)), (16, (.sl [(i64 r15), (i64 r14), (i64 r12.1), (i64 a4)])), (17, .nils), (18, (i64 0))] [.row 22 [(ApiBooks.v a1)], .row 7 [(ApiAccount.v r5.1)]] 58 [tc 2 [.row 22 [(ApiBooks.v a1)], .row 7 [(ApiAccount.v r5.1)]] (P_r25_First hr11) (fs fl_nil), tc 9 [.row 22 [(ApiBooks.v a1)], .row 7 [(ApiAccount.v r5.1)]] (P_r21_Turnover hr12) (fs (fs (fs (fs fl_nil)))), tcc 23 [.row 22 [(ApiBooks.v a1)], .row 7 [(ApiAccount.v r5.1)]] (P_r21_Daily hr13) (fs (fs (fs (fs fl_nil)))), tc 24 [.row 22 [(ApiBooks.v a1)], .row 7 [(ApiAccount.v r5.1)]] (P_r25_lowest hr14) (fs fl_nil), tc 29 [.row 22 [(ApiBooks.v a1)], .row 7 [(ApiAccount.v r5.1)]] (P_r21_Of hr15) (fs (fs fl_nil))] ?_
        refine go_cut (X := (List ApiValue)) (fun x => x = [] ∧ (K_r25_Env_1 N a1 a2 a3 r5 r11 (.brk x)).bind some = some r) ([.pc p8_49]) (fun x => (mk 103 [(1, (i64 a2)), (2, (i64 a3)), (4, (.ref 0 0 0)), (10, (.ref 1 0 0)), (12, (i64 r11)), (17, .nils)])) (fun x => [.row 22 [(ApiBooks.v a1)], .row 7 [(ApiAccount.v r5.1)]]) ?_ fun kont1_0 => ?_
        · rintro x1_0 ⟨hx0, h⟩
          obtain rfl : x1_0 = [] := hx0
          rw [K_r25_Env_1] at h
          refine go_bind h (fun r21 hr21 h => ?_)
          refine go_bind h (fun l22 hl22 h => ?_)
          refine gx mo [.pc p8_47] 103 [(8, (.osl 2 0 l22.length)), (9, (i64 0))] [.row 22 [(ApiBooks.v a1)], .row 7 [(ApiAccount.v r5.1)], .row 2 (l22.map ApiValue.v)] 8 [tgc 6 [.row 22 [(ApiBooks.v a1)], .row 7 [(ApiAccount.v r5.1)]] (P_r25_count hr21) (fs (fs (fs (fs fl_nil)))), tw 16 (s := [.row 22 [(ApiBooks.v a1)], .row 7 [(ApiAccount.v r5.1)]]) (s' := [.row 22 [(ApiBooks.v a1)], .row 7 [(ApiAccount.v r5.1)], .row 2 (l22.map ApiValue.v)]) (q := (.app 2 16 (.c .nils) (.c (.sl [(.agg [(i64 1), (i64 r21)]), (.agg [(i64 1), (i64 (IntKind.wrap .i64 (a3 - r5.1.Opened_)))]), (.agg [(i64 4), (i64 a3)])])))) (v := (.osl 2 0 l22.length)) (e_app0 (f := ApiValue.v) (ys := ([(⟨1, r21⟩ : ApiValue), (⟨1, IntKind.wrap .i64 (a3 - r5.1.Opened_)⟩ : ApiValue), (⟨4, a3⟩ : ApiValue)] : List ApiValue)) (.inl rfl) (fun _ => rfl) (fun _ => rfl) rfl hl22)] ?_
          obtain rfl := Option.some.inj h
          exact gf (.tup [(.osl 2 0 l22.length), (i64 0)]) (f_tupl (fl_cons (f_osl (c := 2) rfl (fun _ => rfl) (fun _ => rfl) rfl) (fs fl_nil)))
        refine go_cut (X := (List ApiValue)) (fun x => (K_r25_Env_1 N a1 a2 a3 r5 r11 (.brk x)).bind some = some r) ([.pc p8_49]) (fun x => (mk 103 [(1, (i64 a2)), (2, (i64 a3)), (4, (.ref 0 0 0)), (10, (.ref 1 0 0)), (12, (i64 r11)), (17, (.osl 2 0 x.length))])) (fun x => [.row 22 [(ApiBooks.v a1)], .row 7 [(ApiAccount.v r5.1)], .row 2 (x.map ApiValue.v)]) ?_ fun kont1_1 => ?_
        · rintro x1_0 h
          rw [K_r25_Env_1] at h
          refine go_bind h (fun r21 hr21 h => ?_)
          refine go_bind h (fun l22 hl22 h => ?_)
          refine gx mo [.pc p8_47] 103 [(8, (.osl 3 0 l22.length)), (9, (i64 0))] [.row 22 [(ApiBooks.v a1)], .row 7 [(ApiAccount.v r5.1)], .dead, .row 2 (l22.map ApiValue.v)] 8 [tgc 6 [.row 22 [(ApiBooks.v a1)], .row 7 [(ApiAccount.v r5.1)], .row 2 (x1_0.map ApiValue.v)] (P_r25_count hr21) (fs (fs (fs (fs fl_nil)))), tw 16 (s := [.row 22 [(ApiBooks.v a1)], .row 7 [(ApiAccount.v r5.1)], .row 2 (x1_0.map ApiValue.v)]) (s' := [.row 22 [(ApiBooks.v a1)], .row 7 [(ApiAccount.v r5.1)], .dead, .row 2 (l22.map ApiValue.v)]) (q := (.app 2 16 (.c (.osl 2 0 x1_0.length)) (.c (.sl [(.agg [(i64 1), (i64 r21)]), (.agg [(i64 1), (i64 (IntKind.wrap .i64 (a3 - r5.1.Opened_)))]), (.agg [(i64 4), (i64 a3)])])))) (v := (.osl 3 0 l22.length)) (e_app (f := ApiValue.v) (ys := ([(⟨1, r21⟩ : ApiValue), (⟨1, IntKind.wrap .i64 (a3 - r5.1.Opened_)⟩ : ApiValue), (⟨4, a3⟩ : ApiValue)] : List ApiValue)) rfl (fun _ => rfl) (fun _ => rfl) rfl hl22 rfl)] ?_
          obtain rfl := Option.some.inj h
          exact gf (.tup [(.osl 3 0 l22.length), (i64 0)]) (f_tupl (fl_cons (f_osl (c := 3) rfl (fun _ => rfl) (fun _ => rfl) rfl) (fs fl_nil)))
        refine go_loop' (fun m t s => ∃ (v1_0 : List ApiValue) (v1_1 : Int), (L_r25_Env_1 N a4 r12 r14 r15 m v1_0 v1_1).bind (fun q => (K_r25_Env_1 N a1 a2 a3 r5 r11 q).bind some) = some r ∧ ((v1_0 = [] ∧ t = (mk 103 [(1, (i64 a2)), (2, (i64 a3)), (4, (.ref 0 0 0)), (10, (.ref 1 0 0)), (12, (i64 r11)), (16, (.sl [(i64 r15), (i64 r14), (i64 r12.1), (i64 a4)])), (17, .nils), (18, (i64 v1_1))]) ∧ s = [.row 22 [(ApiBooks.v a1)], .row 7 [(ApiAccount.v r5.1)]]) ∨ (t = (mk 103 [(1, (i64 a2)), (2, (i64 a3)), (4, (.ref 0 0 0)), (10, (.ref 1 0 0)), (12, (i64 r11)), (16, (.sl [(i64 r15), (i64 r14), (i64 r12.1), (i64 a4)])), (17, (.osl 2 0 v1_0.length)), (18, (i64 v1_1))]) ∧ s = [.row 22 [(ApiBooks.v a1)], .row 7 [(ApiAccount.v r5.1)], .row 2 (v1_0.map ApiValue.v)]))) N ⟨[], 0, go_assoc h, .inl ⟨rfl, rfl, rfl⟩⟩ ?_
        intro m1 J1 hJ1 t s
        rintro ⟨v1_0, v1_1, h, hsh⟩
        cases m1 with
        | zero => exact absurd h (by simp [L_r25_Env_1])
        | succ m1 =>
          rw [L_r25_Env_1] at h
          rcases hsh with ⟨rfl, rfl, rfl⟩ | ⟨rfl, rfl⟩
          · refine gx mo [.pc p8_25, .pc p8_40, .jp J1, .blk 0, .pc p8_49] 103 [(1, (i64 a2)), (2, (i64 a3)), (4, (.ref 0 0 0)), (10, (.ref 1 0 0)), (12, (i64 r11)), (16, (.sl [(i64 r15), (i64 r14), (i64 r12.1), (i64 a4)])), (17, .nils), (18, (i64 v1_1)), (70, (.bool (decide (v1_1 < 4))))] [.row 22 [(ApiBooks.v a1)], .row 7 [(ApiAccount.v r5.1)]] 8 [] ?_
            refine go_if h (fun hb23 h => ?_) (fun hb23 h => ?_)
            · rw [hb23]
              refine go_bind h (fun y24 hy24 h => ?_)
              refine go_bind h (fun r25 hr25 h => ?_)
              refine gx mo [.pc p8_33, .pc p8_35, .blk 1, .pc p8_39, .jp J1, .blk 0, .pc p8_49] 103 [(1, (i64 a2)), (2, (i64 a3)), (4, (.ref 0 0 0)), (10, (.ref 1 0 0)), (12, (i64 r11)), (16, (.sl [(i64 r15), (i64 r14), (i64 r12.1), (i64 a4)])), (17, .nils), (18, (i64 v1_1)), (19, (.ref 2 0 0)), (80, (.bool (!r25)))] [.row 22 [(ApiBooks.v a1)], .row 7 [(ApiAccount.v r5.1)], .row 2 [(.agg [(i64 2), (i64 y24)])]] 21 [tw 3 (E_ia [.row 22 [(ApiBooks.v a1)], .row 7 [(ApiAccount.v r5.1)]] i64 .i64 hy24), tc 9 [.row 22 [(ApiBooks.v a1)], .row 7 [(ApiAccount.v r5.1)], .row 2 [(.agg [(i64 2), (i64 y24)])]] (P_r13_Is hr25) (fg fl_nil)] ?_
              refine go_if h (fun hb26 h => ?_) (fun hb26 h => ?_)
              · rw [hb26]
                refine gx mo [.pc p8_30, .pc p8_35, .blk 1, .pc p8_39, .jp J1, .blk 0, .pc p8_49] 103 [(8, .nils), (9, (i64 6))] [.row 22 [(ApiBooks.v a1)], .row 7 [(ApiAccount.v r5.1)], .row 2 [(.agg [(i64 2), (i64 y24)])]] 6 [] ?_
                obtain rfl := Option.some.inj h
                exact gf (.tup [.nils, (i64 6)]) (f_tupl (fl_cons .nil0 (fs fl_nil)))
              · rw [hb26]
                refine go_bind h (fun l27 hl27 h => ?_)
                refine gx mo [.jp J1, .blk 0, .pc p8_49] 103 [(1, (i64 a2)), (2, (i64 a3)), (4, (.ref 0 0 0)), (10, (.ref 1 0 0)), (12, (i64 r11)), (16, (.sl [(i64 r15), (i64 r14), (i64 r12.1), (i64 a4)])), (17, (.osl 3 0 l27.length)), (18, (i64 (IntKind.wrap .i64 (v1_1 + 1))))] [.row 22 [(ApiBooks.v a1)], .row 7 [(ApiAccount.v r5.1)], .row 2 [(.agg [(i64 2), (i64 y24)])], .row 2 (l27.map ApiValue.v)] 15 [tw 4 (s := [.row 22 [(ApiBooks.v a1)], .row 7 [(ApiAccount.v r5.1)], .row 2 [(.agg [(i64 2), (i64 y24)])]]) (s' := [.row 22 [(ApiBooks.v a1)], .row 7 [(ApiAccount.v r5.1)], .row 2 [(.agg [(i64 2), (i64 y24)])], .row 2 (l27.map ApiValue.v)]) (q := (.app 2 16 (.c .nils) (.c (.sl [(.agg [(i64 2), (i64 y24)])])))) (v := (.osl 3 0 l27.length)) (e_app0 (f := ApiValue.v) (ys := ([(⟨2, y24⟩ : ApiValue)] : List ApiValue)) (.inl rfl) (fun _ => rfl) (fun _ => rfl) rfl hl27)] ?_
                refine go_pick [0, 1, 3] [] [(1, 0), (2, 0), (4, 0), (10, 0), (12, 0), (16, 0), (17, 0), (18, 0)] (t' := (mk 103 [(1, (i64 a2)), (2, (i64 a3)), (4, (.ref 0 0 0)), (10, (.ref 1 0 0)), (12, (i64 r11)), (16, (.sl [(i64 r15), (i64 r14), (i64 r12.1), (i64 a4)])), (17, (.osl 2 0 l27.length)), (18, (i64 (IntKind.wrap .i64 (v1_1 + 1))))])) (s' := [.row 22 [(ApiBooks.v a1)], .row 7 [(ApiAccount.v r5.1)], .row 2 (l27.map ApiValue.v)]) (by kernel_rfl) ⟨clo_one rfl, ⟨clo_one rfl, ⟨clo_map (fun _ => rfl) _, trivial⟩⟩⟩ rfl ?_
                exact go_back rfl (hJ1 m1 _ _ (Nat.lt_succ_self m1) ⟨l27, IntKind.wrap .i64 (v1_1 + 1), h, .inr (⟨rfl, rfl⟩)⟩)
            · rw [hb23]
              refine gx mo [.pc p8_49] 103 [(1, (i64 a2)), (2, (i64 a3)), (4, (.ref 0 0 0)), (10, (.ref 1 0 0)), (12, (i64 r11)), (17, .nils)] [.row 22 [(ApiBooks.v a1)], .row 7 [(ApiAccount.v r5.1)]] 2 [] ?_
              exact kont1_0 [] ⟨rfl, h⟩
          · refine gx mo [.pc p8_25, .pc p8_40, .jp J1, .blk 0, .pc p8_49] 103 [(1, (i64 a2)), (2, (i64 a3)), (4, (.ref 0 0 0)), (10, (.ref 1 0 0)), (12, (i64 r11)), (16, (.sl [(i64 r15), (i64 r14), (i64 r12.1), (i64 a4)])), (17, (.osl 2 0 v1_0.length)), (18, (i64 v1_1)), (70, (.bool (decide (v1_1 < 4))))] [.row 22 [(ApiBooks.v a1)], .row 7 [(ApiAccount.v r5.1)], .row 2 (v1_0.map ApiValue.v)] 8 [] ?_
            refine go_if h (fun hb23 h => ?_) (fun hb23 h => ?_)
            · rw [hb23]
              refine go_bind h (fun y24 hy24 h => ?_)
              refine go_bind h (fun r25 hr25 h => ?_)
              refine gx mo [.pc p8_33, .pc p8_35, .blk 1, .pc p8_39, .jp J1, .blk 0, .pc p8_49] 103 [(1, (i64 a2)), (2, (i64 a3)), (4, (.ref 0 0 0)), (10, (.ref 1 0 0)), (12, (i64 r11)), (16, (.sl [(i64 r15), (i64 r14), (i64 r12.1), (i64 a4)])), (17, (.osl 2 0 v1_0.length)), (18, (i64 v1_1)), (19, (.ref 3 0 0)), (80, (.bool (!r25)))] [.row 22 [(ApiBooks.v a1)], .row 7 [(ApiAccount.v r5.1)], .row 2 (v1_0.map ApiValue.v), .row 2 [(.agg [(i64 2), (i64 y24)])]] 21 [tw 3 (E_ia [.row 22 [(ApiBooks.v a1)], .row 7 [(ApiAccount.v r5.1)], .row 2 (v1_0.map ApiValue.v)] i64 .i64 hy24), tc 9 [.row 22 [(ApiBooks.v a1)], .row 7 [(ApiAccount.v r5.1)], .row 2 (v1_0.map ApiValue.v), .row 2 [(.agg [(i64 2), (i64 y24)])]] (P_r13_Is hr25) (fg fl_nil)] ?_
              refine go_if h (fun hb26 h => ?_) (fun hb26 h => ?_)
              · rw [hb26]
                refine gx mo [.pc p8_30, .pc p8_35, .blk 1, .pc p8_39, .jp J1, .blk 0, .pc p8_49] 103 [(8, .nils), (9, (i64 6))] [.row 22 [(ApiBooks.v a1)], .row 7 [(ApiAccount.v r5.1)], .row 2 (v1_0.map ApiValue.v), .row 2 [(.agg [(i64 2), (i64 y24)])]] 6 [] ?_
                obtain rfl := Option.some.inj h
                exact gf (.tup [.nils, (i64 6)]) (f_tupl (fl_cons .nil0 (fs fl_nil)))
              · rw [hb26]
                refine go_bind h (fun l27 hl27 h => ?_)
                refine gx mo [.jp J1, .blk 0, .pc p8_49] 103 [(1, (i64 a2)), (2, (i64 a3)), (4, (.ref 0 0 0)), (10, (.ref 1 0 0)), (12, (i64 r11)), (16, (.sl [(i64 r15), (i64 r14), (i64 r12.1), (i64 a4)])), (17, (.osl 4 0 l27.length)), (18, (i64 (IntKind.wrap .i64 (v1_1 + 1))))] [.row 22 [(ApiBooks.v a1)], .row 7 [(ApiAccount.v r5.1)], .dead, .row 2 [(.agg [(i64 2), (i64 y24)])], .row 2 (l27.map ApiValue.v)] 15 [tw 4 (s := [.row 22 [(ApiBooks.v a1)], .row 7 [(ApiAccount.v r5.1)], .row 2 (v1_0.map ApiValue.v), .row 2 [(.agg [(i64 2), (i64 y24)])]]) (s' := [.row 22 [(ApiBooks.v a1)], .row 7 [(ApiAccount.v r5.1)], .dead, .row 2 [(.agg [(i64 2), (i64 y24)])], .row 2 (l27.map ApiValue.v)]) (q := (.app 2 16 (.c (.osl 2 0 v1_0.length)) (.c (.sl [(.agg [(i64 2), (i64 y24)])])))) (v := (.osl 4 0 l27.length)) (e_app (f := ApiValue.v) (ys := ([(⟨2, y24⟩ : ApiValue)] : List ApiValue)) rfl (fun _ => rfl) (fun _ => rfl) rfl hl27 rfl)] ?_
                refine go_pick [0, 1, 4] [] [(1, 0), (2, 0), (4, 0), (10, 0), (12, 0), (16, 0), (17, 0), (18, 0)] (t' := (mk 103 [(1, (i64 a2)), (2, (i64 a3)), (4, (.ref 0 0 0)), (10, (.ref 1 0 0)), (12, (i64 r11)), (16, (.sl [(i64 r15), (i64 r14), (i64 r12.1), (i64 a4)])), (17, (.osl 2 0 l27.length)), (18, (i64 (IntKind.wrap .i64 (v1_1 + 1))))])) (s' := [.row 22 [(ApiBooks.v a1)], .row 7 [(ApiAccount.v r5.1)], .row 2 (l27.map ApiValue.v)]) (by kernel_rfl) ⟨clo_one rfl, ⟨clo_one rfl, ⟨clo_map (fun _ => rfl) _, trivial⟩⟩⟩ rfl ?_
                exact go_back rfl (hJ1 m1 _ _ (Nat.lt_succ_self m1) ⟨l27, IntKind.wrap .i64 (v1_1 + 1), h, .inr (⟨rfl, rfl⟩)⟩)
            · rw [hb23]
              refine gx mo [.pc p8_49] 103 [(1, (i64 a2)), (2, (i64 a3)), (4, (.ref 0 0 0)), (10, (.ref 1 0 0)), (12, (i64 r11)), (17, (.osl 2 0 v1_0.length))] [.row 22 [(ApiBooks.v a1)], .row 7 [(ApiAccount.v r5.1)], .row 2 (v1_0.map ApiValue.v)] 2 [] ?_
              exact kont1_1 v1_0 h
/-! corebank/corebankref13.SameValues -/
def p9_29 : PC := .ret
def p9_30 : PC := (.seq (.reg (oo 4 (.mv (.c (.bool true))) :: [])) p9_29)
def p9_22 : PC := (.reg (om 15 5 :: oo 16 (.bin .add .other true (.t 15) (.c (.int .i64 1))) :: om 5 16 :: []))
def p9_16 : PC := .ret
def p9_19 : PC := (.cond (.t 25) (.seq (.reg (oo 4 (.mv (.c (.bool false))) :: [])) p9_16) .skip)
def p9_23 : PC := (.seq (.block 1 (.seq (.drawn (om 17 0 :: om 18 5 :: oo 19 (.ia 2 (.t 17) (.t 18)) :: oo 20 (.ldA 2 (.t 19)) :: om 21 1 :: om 22 5 :: oo 23 (.ia 2 (.t 21) (.t 22)) :: oo 24 (.ldA 2 (.t 23)) :: oo 25 (.bin .neq (.agg [(0, 0), (1, 0)]) false (.t 20) (.t 24)) :: []) [[], [], [0, 1], [2], [], [], [4, 5], [6], [3, 7]]) p9_19)) p9_22)
def p9_12 : PC := (.cond (.t 14) .skip (.exit 0))
def p9_25 : PC := (.loop (.seq (.seq (.reg (om 11 5 :: om 12 0 :: oo 13 (.len .slice (.t 12)) :: oo 14 (.bin .lss .other false (.t 11) (.t 13)) :: [])) p9_12) p9_23))
def p9_31 : PC := (.seq (.seq (.reg (oo 5 (.mv (.c (.int .i64 0))) :: [])) (.block 0 p9_25)) p9_30)
def p9_3 : PC := .ret
def p9_6 : PC := (.cond (.t 10) (.seq (.reg (oo 4 (.mv (.c (.bool false))) :: [])) p9_3) .skip)
def p9_33 : PC := (.seq (.reg (oo 4 (.mv (.c (.bool false))) :: [])) (.seq (.seq (.reg (om 6 0 :: oo 7 (.len .slice (.t 6)) :: om 8 1 :: oo 9 (.len .slice (.t 8)) :: oo 10 (.bin .neq .other false (.t 7) (.t 9)) :: [])) p9_6) p9_31))
theorem fn9 : FnOk Tryz.prog 9 p9_33 26 [.t 4] := ⟨false, Tryz.f9, _, Tryz.func9, by decide, rfl, by kernel_rfl, rfl, by kernel_rfl⟩
def L_r13_SameValues_1 (N : Nat) (a1 : List ApiValue) (a2 : List ApiValue) : Nat → Int → Option (Br (Bool) (Unit))
  | 0, _ => none
  | m1 + 1, v1_0 =>
    bif decide (v1_0 < (a1.length : Int)) then
    ((getI a1 v1_0).bind fun y9 =>
    (getI a2 v1_0).bind fun y10 =>
    bif !(y9.Type_ == y10.Type_ && (y9.N_ == y10.N_ && true)) then
    (some (.ret false))
    else
    ((L_r13_SameValues_1 N a1 a2 m1) (IntKind.wrap .i64 (v1_0 + 1))))
    else
    (some (.brk ()))
def K_r13_SameValues_1 (N : Nat)  : Br (Bool) (Unit) → Option (Bool)
  | .ret r => some r
  | .brk _ =>
    some true
def F_r13_SameValues  (N : Nat) (a1 : List ApiValue) (a2 : List ApiValue) : Option (Bool) :=
      bif !decide ((a1.length : Int) = (a2.length : Int)) then
    (some false)
    else
    ((L_r13_SameValues_1 N a1 a2 N 0).bind (K_r13_SameValues_1 N))
theorem P_r13_SameValues  {N : Nat} {a1 : List ApiValue} {a2 : List ApiValue} {r : Bool} (h : F_r13_SameValues N a1 a2 = some r) : Pure Tryz.prog (Gl.at 0) 9 [(.sl (a1.map ApiValue.v)), (.sl (a2.map ApiValue.v))] (.bool r) := by
  refine pure_run fn9 ?_
  rw [F_r13_SameValues] at h
  replace h := bs h
  change GG [.t 4] _ [.pc p9_33] (mk 26 [(0, (.sl (a1.map ApiValue.v))), (1, (.sl (a2.map ApiValue.v)))]) []
  refine gx mo [.pc p9_6, .pc p9_31] 26 [(0, (.sl (a1.map ApiValue.v))), (1, (.sl (a2.map ApiValue.v))), (10, (.bool (!decide ((a1.length : Int) = (a2.length : Int)))))] [] 13 [tw 2 (E_len [] a1 ApiValue.v), tw 4 (E_len [] a2 ApiValue.v)] ?_
  refine go_if h (fun hb3 h => ?_) (fun hb3 h => ?_)
  · rw [hb3]
    refine gx mo [.pc p9_3, .pc p9_31] 26 [(4, (.bool false))] [] 5 [] ?_
    obtain rfl := Option.some.inj h
    exact gf (.bool false) (.same rfl)
  · rw [hb3]
    refine gx mo [.pc p9_25, .blk 0, .pc p9_30] 26 [(0, (.sl (a1.map ApiValue.v))), (1, (.sl (a2.map ApiValue.v))), (5, (i64 0))] [] 8 [] ?_
    refine go_cut (X := Unit) (fun x => (K_r13_SameValues_1 N (.brk x)).bind some = some r) ([.pc p9_30]) (fun x => (mk 26 [])) (fun x => []) ?_ fun kont1_0 => ?_
    · rintro _ h
      rw [K_r13_SameValues_1] at h
      refine gx mo [.pc p9_29] 26 [(4, (.bool true))] [] 4 [] ?_
      obtain rfl := Option.some.inj h
      exact gf (.bool true) (.same rfl)
    refine go_loop' (fun m t s => ∃ (v1_0 : Int), (L_r13_SameValues_1 N a1 a2 m v1_0).bind (fun q => (K_r13_SameValues_1 N q).bind some) = some r ∧ t = (mk 26 [(0, (.sl (a1.map ApiValue.v))), (1, (.sl (a2.map ApiValue.v))), (5, (i64 v1_0))]) ∧ s = []) N ⟨0, go_assoc h, rfl, rfl⟩ ?_
    intro m1 J1 hJ1 t s
    rintro ⟨v1_0, h, rfl, rfl⟩
    cases m1 with
    | zero => exact absurd h (by simp [L_r13_SameValues_1])
    | succ m1 =>
      rw [L_r13_SameValues_1] at h
      refine gx mo [.pc p9_12, .pc p9_23, .jp J1, .blk 0, .pc p9_30] 26 [(0, (.sl (a1.map ApiValue.v))), (1, (.sl (a2.map ApiValue.v))), (5, (i64 v1_0)), (14, (.bool (decide (v1_0 < (a1.length : Int)))))] [] 8 [tw 2 (E_len [] a1 ApiValue.v)] ?_
      refine go_if h (fun hb8 h => ?_) (fun hb8 h => ?_)
      · rw [hb8]
        refine go_bind h (fun y9 hy9 h => ?_)
        refine go_bind h (fun y10 hy10 h => ?_)
        refine gx mo [.pc p9_19, .blk 1, .pc p9_22, .jp J1, .blk 0, .pc p9_30] 26 [(0, (.sl (a1.map ApiValue.v))), (1, (.sl (a2.map ApiValue.v))), (5, (i64 v1_0)), (25, (.bool (!(y9.Type_ == y10.Type_ && (y9.N_ == y10.N_ && true)))))] [] 6 [tg 3 (E_ia [] ApiValue.v .i64 hy9), tg 7 (E_ia [] ApiValue.v .i64 hy10), tg 9 (s := []) (q := (.bin .neq (.agg [(0, 0), (1, 0)]) false (.c (ApiValue.v y9)) (.c (ApiValue.v y10)))) (v := (.bool (!(y9.Type_ == y10.Type_ && (y9.N_ == y10.N_ && true))))) (e_neA (eqs_cons rfl rfl rfl (eqs_cons rfl rfl rfl eqs_nil)))] ?_
        refine go_if h (fun hb11 h => ?_) (fun hb11 h => ?_)
        · rw [hb11]
          refine gx mo [.pc p9_16, .blk 1, .pc p9_22, .jp J1, .blk 0, .pc p9_30] 26 [(4, (.bool false))] [] 5 [] ?_
          obtain rfl := Option.some.inj h
          exact gf (.bool false) (.same rfl)
        · rw [hb11]
          refine gx mo [.jp J1, .blk 0, .pc p9_30] 26 [(0, (.sl (a1.map ApiValue.v))), (1, (.sl (a2.map ApiValue.v))), (5, (i64 (IntKind.wrap .i64 (v1_0 + 1))))] [] 8 [] ?_
          exact go_back rfl (hJ1 m1 _ _ (Nat.lt_succ_self m1) ⟨IntKind.wrap .i64 (v1_0 + 1), h, rfl, rfl⟩)
      · rw [hb8]
        refine gx mo [.pc p9_30] 26 [] [] 2 [] ?_
        exact kont1_0 () h
/-! corebank/corebanklaw25.moved -/
def p21_2 : PC := .ret
def p21_4 : PC := (.seq (.reg (oo 2 (.new (.agg [.int .i64 0, .int .i64 0, .int .i64 0, .int .i64 0, .int .i64 0, .int .i64 0, .str [], .str [], .nils, .int .u64 0])) :: [])) (.seq (.reg (om 3 0 :: oo 4 (.build [.int .i64 0, .int .i64 0, .str []] [(0, 1, .c (.int .i64 1000)), (1, 1, .t 3), (2, 1, .c (.str [69, 85, 82]))]) :: om 5 0 :: oo 6 (.un .neg (.t 5)) :: oo 7 (.build [.int .i64 0, .int .i64 0, .str []] [(0, 1, .c (.int .i64 1)), (1, 1, .t 6), (2, 1, .c (.str [69, 85, 82]))]) :: oo 8 (.lit (.agg [.int .i64 0, .int .i64 0, .str []]) 2 [(0, .t 4), (1, .t 7)]) :: oo 9 (.build [.int .i64 0, .int .i64 0, .int .i64 0, .int .i64 0, .int .i64 0, .int .i64 0, .str [], .str [], .nils, .int .u64 0] [(1, 1, .c (.int .i64 10)), (2, 1, .c (.int .i64 10)), (3, 1, .c (.int .i64 2)), (6, 1, .c (.str [119])), (8, 1, .t 8)]) :: on_ (.st 10 (.t 2) (.t 9)) :: [])) p21_2))
theorem fn21 : FnOk Tryz.prog 21 p21_4 10 [.a 2 10] := ⟨false, Tryz.f21, _, Tryz.func21, by decide, rfl, by kernel_rfl, rfl, by kernel_rfl⟩
def F_law25_moved  (N : Nat) (a1 : Int) : Option (ApiEntry) :=
      some (⟨0, 10, 10, 2, 0, 0, [119], [], [(⟨1000, a1, [69, 85, 82]⟩ : ApiLeg), (⟨1, IntKind.wrap .i64 (0 - a1), [69, 85, 82]⟩ : ApiLeg)], 0⟩ : ApiEntry)
theorem P_law25_moved  {N : Nat} {a1 : Int} {r : ApiEntry} (h : F_law25_moved N a1 = some r) : Pure Tryz.prog (Gl.at 0) 21 [(i64 a1)] (ApiEntry.v r) := by
  refine pure_run fn21 ?_
  rw [F_law25_moved] at h
  replace h := bs h
  change GG [.a 2 10] _ [.pc p21_4] (mk 10 [(0, (i64 a1))]) []
  refine gx mo [.pc p21_2] 10 [(2, (.ref 0 0 0))] [.row 10 [(.agg [(i64 0), (i64 10), (i64 10), (i64 2), (i64 0), (i64 0), (.str [119]), (.str []), (.sl [(.agg [(i64 1000), (i64 a1), (.str [69, 85, 82])]), (.agg [(i64 1), (i64 (IntKind.wrap .i64 (0 - a1))), (.str [69, 85, 82])])]), (.int .u64 0)])]] 15 [] ?_
  obtain rfl := Option.some.inj h
  exact gf (.agg [(i64 0), (i64 10), (i64 10), (i64 2), (i64 0), (i64 0), (.str [119]), (.str []), (.sl [(.agg [(i64 1000), (i64 a1), (.str [69, 85, 82])]), (.agg [(i64 1), (i64 (IntKind.wrap .i64 (0 - a1))), (.str [69, 85, 82])])]), (.int .u64 0)]) (f_aggl (fs (fs (fs (fs (fs (fs (fs (fs (fs (fs fl_nil)))))))))))
/-! corebank/corebanklaw25.books -/
def p19_5 : PC := .ret
def p19_10 : PC := (.seq (.reg (oo 0 (.new (.agg [.nils, .nils, .nils, .int .i64 0, .int .i64 0, .int .i64 0, .int .i64 0, .int .i64 0, .int .i64 0, .int .i64 0, .int .i64 0, .int .i64 0, .int .i64 0, .int .i64 0, .int .i64 0, .int .i64 0, .int .i64 0, .nils, .nils, .nils, .nils, .nils])) :: [])) (.seq (.reg (oo 3 (.build [.int .i64 0, .int .i64 0, .str [], .nils] [(0, 1, .c (.int .i64 2)), (1, 1, .c (.int .i64 600))]) :: oo 4 (.build [.str [], .int .i64 0, .int .i64 0, .int .i64 0, .str [], .nils] [(0, 1, .c (.str [111, 110, 101])), (1, 1, .c (.int .i64 1)), (2, 4, .t 3)]) :: oo 5 (.lit (.agg [.str [], .int .i64 0, .int .i64 0, .int .i64 0, .str [], .nils]) 1 [(0, .t 4)]) :: oo 6 (.build [.str [], .str [], .str [], .int .i64 0, .int .i64 0, .int .i64 0, .int .i64 0, .nils, .bool false, .int .i64 0, .int .i64 0, .bool false, .nils, .bool false, .int .i64 0, .int .i64 0, .bool false, .nils, .nils] [(0, 1, .c (.str [98, 97, 115, 105, 99])), (1, 1, .c (.str [69, 85, 82])), (2, 1, .c (.str [119, 101, 101, 107])), (4, 1, .c (.int .i64 1)), (5, 1, .c (.int .i64 500)), (18, 1, .t 5)]) :: oo 1 (.new (.agg [.str [], .str [], .str [], .int .i64 0, .int .i64 0, .int .i64 0, .int .i64 0, .nils, .bool false, .int .i64 0, .int .i64 0, .bool false, .nils, .bool false, .int .i64 0, .int .i64 0, .bool false, .nils, .nils])) :: on_ (.st 19 (.t 1) (.t 6)) :: [])) (.seq (.reg (⟨some 7, .call 21 [.c (.int .i64 (-300))], none⟩ :: oo 2 (.new (.agg [.int .i64 0, .int .i64 0, .int .i64 0, .int .i64 0, .int .i64 0, .int .i64 0, .str [], .str [], .nils, .int .u64 0])) :: on_ (.st 10 (.t 2) (.t 7)) :: [])) (.seq (.reg (oo 8 (.fa 1 (.t 2)) :: on_ (.st 1 (.t 8) (.c (.int .i64 6))) :: oo 9 (.fa 2 (.t 2)) :: on_ (.st 1 (.t 9) (.c (.int .i64 6))) :: oo 10 (.fa 3 (.t 2)) :: on_ (.st 1 (.t 10) (.c (.int .i64 1))) :: oo 11 (.fa 6 (.t 2)) :: on_ (.st 1 (.t 11) (.c (.str [100]))) :: [])) (.seq (.reg (oo 12 (.ldA 19 (.t 1)) :: oo 13 (.lit (.agg [.str [], .str [], .str [], .int .i64 0, .int .i64 0, .int .i64 0, .int .i64 0, .nils, .bool false, .int .i64 0, .int .i64 0, .bool false, .nils, .bool false, .int .i64 0, .int .i64 0, .bool false, .nils, .nils]) 1 [(0, .t 12)]) :: oo 14 (.build [.int .i64 0, .int .i64 0, .int .i64 0, .int .i64 0, .str [], .str [], .str []] [(0, 1, .c (.int .i64 1000)), (1, 1, .c (.int .i64 5)), (4, 1, .c (.str [97, 110, 110])), (5, 1, .c (.str [98, 97, 115, 105, 99]))]) :: oo 15 (.lit (.agg [.int .i64 0, .int .i64 0, .int .i64 0, .int .i64 0, .str [], .str [], .str []]) 1 [(0, .t 14)]) :: oo 16 (.ldA 10 (.t 2)) :: oo 17 (.lit (.agg [.int .i64 0, .int .i64 0, .int .i64 0, .int .i64 0, .int .i64 0, .int .i64 0, .str [], .str [], .nils, .int .u64 0]) 1 [(0, .t 16)]) :: oo 18 (.build [.int .i64 0, .int .i64 0, .int .i64 0, .int .i64 0, .int .i64 0, .str []] [(0, 1, .c (.int .i64 1)), (1, 1, .c (.int .i64 1000)), (2, 1, .c (.int .i64 100)), (3, 1, .c (.int .i64 7)), (4, 1, .c (.int .i64 10)), (5, 1, .c (.str [104]))]) :: oo 19 (.lit (.agg [.int .i64 0, .int .i64 0, .int .i64 0, .int .i64 0, .int .i64 0, .str []]) 1 [(0, .t 18)]) :: oo 20 (.build [.nils, .nils, .nils, .int .i64 0, .int .i64 0, .int .i64 0, .int .i64 0, .int .i64 0, .int .i64 0, .int .i64 0, .int .i64 0, .int .i64 0, .int .i64 0, .int .i64 0, .int .i64 0, .int .i64 0, .int .i64 0, .nils, .nils, .nils, .nils, .nils] [(17, 1, .t 13), (18, 1, .t 15), (19, 1, .t 17), (20, 1, .t 19)]) :: on_ (.st 22 (.t 0) (.t 20)) :: [])) p19_5)))))
theorem fn19 : FnOk Tryz.prog 19 p19_10 21 [.a 0 22] := ⟨false, Tryz.f19, _, Tryz.func19, by decide, rfl, by kernel_rfl, rfl, by kernel_rfl⟩
def F_law25_books  (N : Nat)  : Option (ApiBooks) :=
      (F_law25_moved N (-300)).bind fun r1 =>
    some (⟨[], [], [], ⟨0, 0, 0, 0, 0, 0, 0, 0, 0, 0, 0, 0, 0, 0⟩, [(⟨[98, 97, 115, 105, 99], [69, 85, 82], [119, 101, 101, 107], 0, 1, 500, 0, ⟨[], false, 0, 0, false⟩, ⟨[], false, 0, 0, false⟩, [], [(⟨[111, 110, 101], 1, ⟨2, 600, [], []⟩⟩ : ApiRule)]⟩ : ApiProduct)], [(⟨1000, 5, 0, 0, [97, 110, 110], [98, 97, 115, 105, 99], []⟩ : ApiAccount)], [(⟨r1.Id_, 6, 6, 1, r1.Auth_, r1.Period_, [100], r1.Text_, r1.Legs_, r1.Chain_⟩ : ApiEntry)], [(⟨1, 1000, 100, 7, 10, [104]⟩ : ApiHold)], []⟩ : ApiBooks)
theorem P_law25_books  {N : Nat}  {r : ApiBooks} (h : F_law25_books N  = some r) : Pure Tryz.prog (Gl.at 0) 19 [] (ApiBooks.v r) := by
  refine pure_run fn19 ?_
  rw [F_law25_books] at h
  replace h := bs h
  change GG [.a 0 22] _ [.pc p19_10] (mk 21 []) []
  refine go_bind h (fun r1 hr1 h => ?_)
  refine gx mo [.pc p19_5] 21 [(0, (.ref 0 0 0))] [.row 22 [(.agg [.nils, .nils, .nils, (i64 0), (i64 0), (i64 0), (i64 0), (i64 0), (i64 0), (i64 0), (i64 0), (i64 0), (i64 0), (i64 0), (i64 0), (i64 0), (i64 0), (.sl [(.agg [(.str [98, 97, 115, 105, 99]), (.str [69, 85, 82]), (.str [119, 101, 101, 107]), (i64 0), (i64 1), (i64 500), (i64 0), .nils, (.bool false), (i64 0), (i64 0), (.bool false), .nils, (.bool false), (i64 0), (i64 0), (.bool false), .nils, (.sl [(.agg [(.str [111, 110, 101]), (i64 1), (i64 2), (i64 600), (.str []), .nils])])])]), (.sl [(.agg [(i64 1000), (i64 5), (i64 0), (i64 0), (.str [97, 110, 110]), (.str [98, 97, 115, 105, 99]), (.str [])])]), (.sl [(.agg [(i64 r1.Id_), (i64 6), (i64 6), (i64 1), (i64 r1.Auth_), (i64 r1.Period_), (.str [100]), (.str r1.Text_), (.sl (r1.Legs_.map ApiLeg.v)), (.int .u64 r1.Chain_)])]), (.sl [(.agg [(i64 1), (i64 1000), (i64 100), (i64 7), (i64 10), (.str [104])])]), .nils])], .row 19 [(.agg [(.str [98, 97, 115, 105, 99]), (.str [69, 85, 82]), (.str [119, 101, 101, 107]), (i64 0), (i64 1), (i64 500), (i64 0), .nils, (.bool false), (i64 0), (i64 0), (.bool false), .nils, (.bool false), (i64 0), (i64 0), (.bool false), .nils, (.sl [(.agg [(.str [111, 110, 101]), (i64 1), (i64 2), (i64 600), (.str []), .nils])])])], .row 10 [(.agg [(i64 r1.Id_), (i64 6), (i64 6), (i64 1), (i64 r1.Auth_), (i64 r1.Period_), (.str [100]), (.str r1.Text_), (.sl (r1.Legs_.map ApiLeg.v)), (.int .u64 r1.Chain_)])]] 43 [tcc 7 [.row 22 [(.agg [.nils, .nils, .nils, (i64 0), (i64 0), (i64 0), (i64 0), (i64 0), (i64 0), (i64 0), (i64 0), (i64 0), (i64 0), (i64 0), (i64 0), (i64 0), (i64 0), .nils, .nils, .nils, .nils, .nils])], .row 19 [(.agg [(.str [98, 97, 115, 105, 99]), (.str [69, 85, 82]), (.str [119, 101, 101, 107]), (i64 0), (i64 1), (i64 500), (i64 0), .nils, (.bool false), (i64 0), (i64 0), (.bool false), .nils, (.bool false), (i64 0), (i64 0), (.bool false), .nils, (.sl [(.agg [(.str [111, 110, 101]), (i64 1), (i64 2), (i64 600), (.str []), .nils])])])]] (P_law25_moved hr1) (fs fl_nil)] ?_
  obtain rfl := Option.some.inj h
  exact gf (.agg [.nils, .nils, .nils, (i64 0), (i64 0), (i64 0), (i64 0), (i64 0), (i64 0), (i64 0), (i64 0), (i64 0), (i64 0), (i64 0), (i64 0), (i64 0), (i64 0), (.sl [(.agg [(.str [98, 97, 115, 105, 99]), (.str [69, 85, 82]), (.str [119, 101, 101, 107]), (i64 0), (i64 1), (i64 500), (i64 0), .nils, (.bool false), (i64 0), (i64 0), (.bool false), .nils, (.bool false), (i64 0), (i64 0), (.bool false), .nils, (.sl [(.agg [(.str [111, 110, 101]), (i64 1), (i64 2), (i64 600), (.str []), .nils])])])]), (.sl [(.agg [(i64 1000), (i64 5), (i64 0), (i64 0), (.str [97, 110, 110]), (.str [98, 97, 115, 105, 99]), (.str [])])]), (.sl [(.agg [(i64 r1.Id_), (i64 6), (i64 6), (i64 1), (i64 r1.Auth_), (i64 r1.Period_), (.str [100]), (.str r1.Text_), (.sl (r1.Legs_.map ApiLeg.v)), (.int .u64 r1.Chain_)])]), (.sl [(.agg [(i64 1), (i64 1000), (i64 100), (i64 7), (i64 10), (.str [104])])]), .nils]) (f_aggl (fl_cons .nil0 (fl_cons .nil0 (fl_cons .nil0 (fs (fs (fs (fs (fs (fs (fs (fs (fs (fs (fs (fs (fs (fs (fl_cons (f_cz (d := 6) (by kernel_rfl) rfl) (fs (fs (fs (fl_cons .nil0 fl_nil)))))))))))))))))))))))
/-! corebank/catalog.At -/
def p66_30 : PC := .ret
def p66_31 : PC := (.seq (.reg (om 47 0 :: om 48 8 :: oo 49 (.ia 19 (.t 47) (.t 48)) :: oo 50 (.ldA 19 (.t 49)) :: on_ (.st 19 (.t 6) (.t 50)) :: oo 7 (.mv (.c (.bool true))) :: [])) p66_30)
def p66_27 : PC := (.cond (.t 45) (.seq (.reg (oo 46 (.build [.str [], .str [], .str [], .int .i64 0, .int .i64 0, .int .i64 0, .int .i64 0, .nils, .bool false, .int .i64 0, .int .i64 0, .bool false, .nils, .bool false, .int .i64 0, .int .i64 0, .bool false, .nils, .nils] []) :: on_ (.st 19 (.t 6) (.t 46)) :: oo 7 (.mv (.c (.bool false))) :: [])) .ret) .skip)
def p66_32 : PC := (.seq (.seq (.reg (om 44 8 :: oo 45 (.bin .lss .other true (.t 44) (.c (.int .i64 0))) :: [])) p66_27) p66_31)
def p66_16 : PC := (.seq (.block 1 (.seq (.reg (om 15 13 :: oo 16 (.ia 19 (.t 11) (.t 13)) :: oo 17 (.ldA 19 (.t 16)) :: oo 10 (.new (.agg [.str [], .str [], .str [], .int .i64 0, .int .i64 0, .int .i64 0, .int .i64 0, .nils, .bool false, .int .i64 0, .int .i64 0, .bool false, .nils, .bool false, .int .i64 0, .int .i64 0, .bool false, .nils, .nils])) :: om 9 15 :: on_ (.st 19 (.t 10) (.t 17)) :: [])) (.seq (.drawn (oo 18 (.fa 0 (.t 10)) :: oo 19 (.ld1 (.t 18)) :: om 20 1 :: oo 21 (.bin .eql .other false (.t 19) (.t 20)) :: om 22 21 :: ⟨some 23, .op (.fa 3 (.t 10)), some (22, true)⟩ :: ⟨some 24, .op (.ld1 (.t 23)), some (22, true)⟩ :: ⟨some 25, .op (.mv (.t 2)), some (22, true)⟩ :: ⟨some 26, .op (.bin .leq .other false (.t 24) (.t 25)), some (22, true)⟩ :: oo 27 (.pick (.t 22) (.t 26) (.c (.bool false))) :: om 28 27 :: ⟨some 29, .op (.mv (.t 8)), some (28, true)⟩ :: ⟨some 30, .op (.bin .lss .other true (.t 29) (.c (.int .i64 0))), some (28, true)⟩ :: ⟨some 31, .op (.mv (.t 30)), some (28, true)⟩ :: ⟨some 32, .op (.fa 3 (.t 10)), some (31, false)⟩ :: ⟨some 33, .op (.ld1 (.t 32)), some (31, false)⟩ :: ⟨some 34, .op (.mv (.t 0)), some (31, false)⟩ :: ⟨some 35, .op (.mv (.t 8)), some (31, false)⟩ :: ⟨some 36, .op (.ia 19 (.t 34) (.t 35)), some (31, false)⟩ :: ⟨some 37, .op (.fa 3 (.t 36)), some (31, false)⟩ :: ⟨some 38, .op (.ld1 (.t 37)), some (31, false)⟩ :: ⟨some 39, .op (.bin .gtr .other false (.t 33) (.t 38)), some (31, false)⟩ :: ⟨some 40, .op (.pick (.t 31) (.c (.bool true)) (.t 39)), some (28, true)⟩ :: oo 41 (.pick (.t 28) (.t 40) (.c (.bool false))) :: []) [[], [0], [], [1, 2], [3], [4], [5, 4], [4], [6, 7, 4], [4, 8], [9, 4], [10], [11, 10], [12, 10, 10], [13], [14, 13], [13], [13], [16, 17, 13], [18, 13], [19, 13], [15, 20, 13], [13, 21, 10], [10, 22]]) (.cond (.t 41) (.reg (om 42 9 :: om 8 42 :: [])) .skip)))) (.reg (oo 43 (.bin .add .other true (.t 13) (.c (.int .i64 1))) :: om 13 43 :: [])))
def p66_6 : PC := (.cond (.t 14) .skip (.exit 0))
def p66_19 : PC := (.loop (.seq (.reg (oo 14 (.bin .lss .other false (.t 13) (.t 12)) :: [])) (.seq p66_6 p66_16)))
def p66_35 : PC := (.seq (.reg (oo 6 (.new (.agg [.str [], .str [], .str [], .int .i64 0, .int .i64 0, .int .i64 0, .int .i64 0, .nils, .bool false, .int .i64 0, .int .i64 0, .bool false, .nils, .bool false, .int .i64 0, .int .i64 0, .bool false, .nils, .nils])) :: oo 7 (.mv (.c (.bool false))) :: [])) (.seq (.reg (oo 8 (.mv (.c (.int .i64 (-1)))) :: [])) (.seq (.seq (.reg (om 11 0 :: oo 12 (.len .slice (.t 11)) :: oo 13 (.mv (.c (.int .i64 0))) :: [])) (.block 0 p66_19)) p66_32)))
theorem fn66 : FnOk Tryz.prog 66 p66_35 51 [.a 6 19, .t 7] := ⟨false, Tryz.f66, _, Tryz.func66, by decide, rfl, by kernel_rfl, rfl, by kernel_rfl⟩
def L_catalog_At_1 (N : Nat) (a1 : List ApiProduct) (a2 : List UInt8) (a3 : Int) : Nat → Int → Int → Option (Int)
  | 0, _, _ => none
  | m1 + 1, v1_0, v1_1 =>
    bif decide (v1_1 < (a1.length : Int)) then
    ((getI a1 v1_1).bind fun y12 =>
    bif y12.Name_ == a2 then
    (bif decide (y12.From_ ≤ a3) then
    (bif decide (v1_0 < 0) then
    ((L_catalog_At_1 N a1 a2 a3 m1) v1_1 (IntKind.wrap .i64 (v1_1 + 1)))
    else
    (none))
    else
    (none))
    else
    (none))
    else
    (some v1_0)
def K_catalog_At_1 (N : Nat) (a1 : List ApiProduct) : (Int) → Option (ApiProduct × Bool)
  | x1_0 =>
    bif decide (x1_0 < 0) then
    (none)
    else
    ((getI a1 x1_0).bind fun y10 =>
    some (y10, true))
def F_catalog_At  (N : Nat) (a1 : List ApiProduct) (a2 : List UInt8) (a3 : Int) : Option (ApiProduct × Bool) :=
      (L_catalog_At_1 N a1 a2 a3 N (-1) 0).bind (K_catalog_At_1 N a1)
theorem P_catalog_At  {N : Nat} {a1 : List ApiProduct} {a2 : List UInt8} {a3 : Int} {r : ApiProduct × Bool} (h : F_catalog_At N a1 a2 a3 = some r) : Pure Tryz.prog (Gl.at 0) 66 [(.sl (a1.map ApiProduct.v)), (.str a2), (i64 a3)] (.tup [(ApiProduct.v r.1), (.bool r.2)]) := by
  refine pure_run fn66 ?_
  rw [F_catalog_At] at h
  replace h := bs h
  change GG [.a 6 19, .t 7] _ [.pc p66_35] (mk 51 [(0, (.sl (a1.map ApiProduct.v))), (1, (.str a2)), (2, (i64 a3))]) []
  refine gx mo [.pc p66_19, .blk 0, .pc p66_32] 51 [(0, (.sl (a1.map ApiProduct.v))), (1, (.str a2)), (2, (i64 a3)), (6, (.ref 0 0 0)), (8, (i64 (-1))), (11, (.sl (a1.map ApiProduct.v))), (12, (i64 (a1.length : Int))), (13, (i64 0))] [.row 19 [(.agg [(.str []), (.str []), (.str []), (i64 0), (i64 0), (i64 0), (i64 0), .nils, (.bool false), (i64 0), (i64 0), (.bool false), .nils, (.bool false), (i64 0), (i64 0), (.bool false), .nils, .nils])]] 17 [tw 4 (E_len [.row 19 [(.agg [(.str []), (.str []), (.str []), (i64 0), (i64 0), (i64 0), (i64 0), .nils, (.bool false), (i64 0), (i64 0), (.bool false), .nils, (.bool false), (i64 0), (i64 0), (.bool false), .nils, .nils])]] a1 ApiProduct.v)] ?_
  refine go_cut (X := Int) (fun x => (K_catalog_At_1 N a1 x).bind some = some r) ([.pc p66_32]) (fun x => (mk 51 [(0, (.sl (a1.map ApiProduct.v))), (6, (.ref 0 0 0)), (8, (i64 x))])) (fun x => [.row 19 [(.agg [(.str []), (.str []), (.str []), (i64 0), (i64 0), (i64 0), (i64 0), .nils, (.bool false), (i64 0), (i64 0), (.bool false), .nils, (.bool false), (i64 0), (i64 0), (.bool false), .nils, .nils])]]) ?_ fun kont1_0 => ?_
  · rintro x1_0 h
    rw [K_catalog_At_1] at h
    refine gx mo [.pc p66_27, .pc p66_31] 51 [(0, (.sl (a1.map ApiProduct.v))), (6, (.ref 0 0 0)), (8, (i64 x1_0)), (45, (.bool (decide (x1_0 < 0))))] [.row 19 [(.agg [(.str []), (.str []), (.str []), (i64 0), (i64 0), (i64 0), (i64 0), .nils, (.bool false), (i64 0), (i64 0), (.bool false), .nils, (.bool false), (i64 0), (i64 0), (.bool false), .nils, .nils])]] 6 [] ?_
    refine go_if h (fun hb9 h => ?_) (fun hb9 h => ?_)
    · cases h
    · rw [hb9]
      refine go_bind h (fun y10 hy10 h => ?_)
      refine gx mo [.pc p66_30] 51 [(6, (.ref 0 0 0)), (7, (.bool true))] [.row 19 [(ApiProduct.v y10)]] 11 [tw 3 (E_ia [.row 19 [(.agg [(.str []), (.str []), (.str []), (i64 0), (i64 0), (i64 0), (i64 0), .nils, (.bool false), (i64 0), (i64 0), (.bool false), .nils, (.bool false), (i64 0), (i64 0), (.bool false), .nils, .nils])]] ApiProduct.v .i64 hy10)] ?_
      obtain rfl := Option.some.inj h
      exact gf (.tup [(ApiProduct.v y10), (.bool true)]) (f_tupl (fg (fs fl_nil)))
  refine go_loop' (fun m t s => ∃ (v1_0 : Int) (v1_1 : Int), (L_catalog_At_1 N a1 a2 a3 m v1_0 v1_1).bind (fun q => (K_catalog_At_1 N a1 q).bind some) = some r ∧ t = (mk 51 [(0, (.sl (a1.map ApiProduct.v))), (1, (.str a2)), (2, (i64 a3)), (6, (.ref 0 0 0)), (8, (i64 v1_0)), (11, (.sl (a1.map ApiProduct.v))), (12, (i64 (a1.length : Int))), (13, (i64 v1_1))]) ∧ s = [.row 19 [(.agg [(.str []), (.str []), (.str []), (i64 0), (i64 0), (i64 0), (i64 0), .nils, (.bool false), (i64 0), (i64 0), (.bool false), .nils, (.bool false), (i64 0), (i64 0), (.bool false), .nils, .nils])]]) N ⟨(-1), 0, go_assoc h, rfl, rfl⟩ ?_
  intro m1 J1 hJ1 t s
  rintro ⟨v1_0, v1_1, h, rfl, rfl⟩
  cases m1 with
  | zero => exact absurd h (by simp [L_catalog_At_1])
  | succ m1 =>
    rw [L_catalog_At_1] at h
    refine gx mo [.pc p66_6, .pc p66_16, .jp J1, .blk 0, .pc p66_32] 51 [(0, (.sl (a1.map ApiProduct.v))), (1, (.str a2)), (2, (i64 a3)), (6, (.ref 0 0 0)), (8, (i64 v1_0)), (11, (.sl (a1.map ApiProduct.v))), (12, (i64 (a1.length : Int))), (13, (i64 v1_1)), (14, (.bool (decide (v1_1 < (a1.length : Int)))))] [.row 19 [(.agg [(.str []), (.str []), (.str []), (i64 0), (i64 0), (i64 0), (i64 0), .nils, (.bool false), (i64 0), (i64 0), (.bool false), .nils, (.bool false), (i64 0), (i64 0), (.bool false), .nils, .nils])]] 5 [] ?_
    refine go_if h (fun hb11 h => ?_) (fun hb11 h => ?_)
    · rw [hb11]
      refine go_bind h (fun y12 hy12 h => ?_)
      refine go_if h (fun hb13 h => ?_) (fun hb13 h => ?_)
      · refine go_if h (fun hb14 h => ?_) (fun hb14 h => ?_)
        · refine go_if h (fun hb15 h => ?_) (fun hb15 h => ?_)
          · refine gx mo [.jp J1, .blk 0, .pc p66_32] 51 [(0, (.sl (a1.map ApiProduct.v))), (1, (.str a2)), (2, (i64 a3)), (6, (.ref 0 0 0)), (8, (i64 v1_1)), (11, (.sl (a1.map ApiProduct.v))), (12, (i64 (a1.length : Int))), (13, (i64 (IntKind.wrap .i64 (v1_1 + 1))))] [.row 19 [(.agg [(.str []), (.str []), (.str []), (i64 0), (i64 0), (i64 0), (i64 0), .nils, (.bool false), (i64 0), (i64 0), (.bool false), .nils, (.bool false), (i64 0), (i64 0), (.bool false), .nils, .nils])], .row 19 [(ApiProduct.v y12)]] 25 [tw 2 (E_ia [.row 19 [(.agg [(.str []), (.str []), (.str []), (i64 0), (i64 0), (i64 0), (i64 0), .nils, (.bool false), (i64 0), (i64 0), (.bool false), .nils, (.bool false), (i64 0), (i64 0), (.bool false), .nils, .nils])]] ApiProduct.v .i64 hy12), tgb 10 [.row 19 [(.agg [(.str []), (.str []), (.str []), (i64 0), (i64 0), (i64 0), (i64 0), .nils, (.bool false), (i64 0), (i64 0), (.bool false), .nils, (.bool false), (i64 0), (i64 0), (.bool false), .nils, .nils])], .row 19 [(ApiProduct.v y12)]] (.bin .eql .other false (.c (.str y12.Name_)) (.c (.str a2))) (y12.Name_ == a2) true hb13, tgb 16 [.row 19 [(.agg [(.str []), (.str []), (.str []), (i64 0), (i64 0), (i64 0), (i64 0), .nils, (.bool false), (i64 0), (i64 0), (.bool false), .nils, (.bool false), (i64 0), (i64 0), (.bool false), .nils, .nils])], .row 19 [(ApiProduct.v y12)]] (.pick (.c (.bool true)) (.c (.bool (decide (y12.From_ ≤ a3)))) (.c (.bool false))) (decide (y12.From_ ≤ a3)) true hb14, tgb 19 [.row 19 [(.agg [(.str []), (.str []), (.str []), (i64 0), (i64 0), (i64 0), (i64 0), .nils, (.bool false), (i64 0), (i64 0), (.bool false), .nils, (.bool false), (i64 0), (i64 0), (.bool false), .nils, .nils])], .row 19 [(ApiProduct.v y12)]] (.bin .lss .other true (.c (i64 v1_0)) (.c (i64 0))) (decide (v1_0 < 0)) true hb15] ?_
            refine go_pick [0] [] [(0, 0), (1, 0), (2, 0), (6, 0), (8, 0), (11, 0), (12, 0), (13, 0)] (t' := (mk 51 [(0, (.sl (a1.map ApiProduct.v))), (1, (.str a2)), (2, (i64 a3)), (6, (.ref 0 0 0)), (8, (i64 v1_1)), (11, (.sl (a1.map ApiProduct.v))), (12, (i64 (a1.length : Int))), (13, (i64 (IntKind.wrap .i64 (v1_1 + 1))))])) (s' := [.row 19 [(.agg [(.str []), (.str []), (.str []), (i64 0), (i64 0), (i64 0), (i64 0), .nils, (.bool false), (i64 0), (i64 0), (.bool false), .nils, (.bool false), (i64 0), (i64 0), (.bool false), .nils, .nils])]]) (by kernel_rfl) ⟨clo_one rfl, trivial⟩ rfl ?_
            exact go_back rfl (hJ1 m1 _ _ (Nat.lt_succ_self m1) ⟨v1_1, IntKind.wrap .i64 (v1_1 + 1), h, rfl, rfl⟩)
          · cases h
        · cases h
      · cases h
    · rw [hb11]
      refine gx mo [.pc p66_32] 51 [(0, (.sl (a1.map ApiProduct.v))), (6, (.ref 0 0 0)), (8, (i64 v1_0))] [.row 19 [(.agg [(.str []), (.str []), (.str []), (i64 0), (i64 0), (i64 0), (i64 0), .nils, (.bool false), (i64 0), (i64 0), (.bool false), .nils, (.bool false), (i64 0), (i64 0), (.bool false), .nils, .nils])]] 2 [] ?_
      exact kont1_0 v1_0 h
/-! corebank/account.Product -/
def p43_10 : PC := .ret
def p43_11 : PC := (.seq (.reg (oo 19 (.fa 17 (.t 3)) :: oo 20 (.ld1 (.t 19)) :: oo 21 (.fa 5 (.t 8)) :: oo 22 (.ld1 (.t 21)) :: om 23 2 :: ⟨some 24, .call 66 [.t 20, .t 22, .t 23], none⟩ :: oo 25 (.ext 0 (.t 24)) :: oo 26 (.ext 1 (.t 24)) :: on_ (.st 19 (.t 6) (.t 25)) :: om 7 26 :: [])) p43_10)
def p43_7 : PC := (.cond (.t 17) (.seq (.reg (oo 18 (.build [.str [], .str [], .str [], .int .i64 0, .int .i64 0, .int .i64 0, .int .i64 0, .nils, .bool false, .int .i64 0, .int .i64 0, .bool false, .nils, .bool false, .int .i64 0, .int .i64 0, .bool false, .nils, .nils] []) :: on_ (.st 19 (.t 6) (.t 18)) :: oo 7 (.mv (.c (.bool false))) :: [])) .ret) .skip)
def p43_14 : PC := (.seq (.reg (oo 3 (.box (.t 0)) :: oo 6 (.new (.agg [.str [], .str [], .str [], .int .i64 0, .int .i64 0, .int .i64 0, .int .i64 0, .nils, .bool false, .int .i64 0, .int .i64 0, .bool false, .nils, .bool false, .int .i64 0, .int .i64 0, .bool false, .nils, .nils])) :: oo 7 (.mv (.c (.bool false))) :: [])) (.seq (.reg (oo 11 (.ldA 22 (.t 3)) :: om 12 1 :: ⟨some 13, .call 22 [.t 11, .t 12], none⟩ :: om 10 13 :: oo 14 (.ext 0 (.t 10)) :: oo 15 (.ext 1 (.t 10)) :: oo 8 (.new (.agg [.int .i64 0, .int .i64 0, .int .i64 0, .int .i64 0, .str [], .str [], .str []])) :: on_ (.st 7 (.t 8) (.t 14)) :: om 9 15 :: [])) (.seq (.seq (.reg (om 16 9 :: oo 17 (.un .not (.t 16)) :: [])) p43_7) p43_11)))
theorem fn43 : FnOk Tryz.prog 43 p43_14 27 [.a 6 19, .t 7] := ⟨false, Tryz.f43, _, Tryz.func43, by decide, rfl, by kernel_rfl, rfl, by kernel_rfl⟩
def F_account_Product  (N : Nat) (a1 : ApiBooks) (a2 : Int) (a3 : Int) : Option (ApiProduct × Bool) :=
      (F_account_Find N a1 a2).bind fun r4 =>
    bif !r4.2 then
    (none)
    else
    ((F_catalog_At N a1.Products_ r4.1.Product_ a3).bind fun r6 =>
    some (r6.1, r6.2))
theorem P_account_Product  {N : Nat} {a1 : ApiBooks} {a2 : Int} {a3 : Int} {r : ApiProduct × Bool} (h : F_account_Product N a1 a2 a3 = some r) : Pure Tryz.prog (Gl.at 0) 43 [(ApiBooks.v a1), (i64 a2), (i64 a3)] (.tup [(ApiProduct.v r.1), (.bool r.2)]) := by
  refine pure_run fn43 ?_
  rw [F_account_Product] at h
  replace h := bs h
  change GG [.a 6 19, .t 7] _ [.pc p43_14] (mk 27 [(0, (ApiBooks.v a1)), (1, (i64 a2)), (2, (i64 a3))]) []
  refine go_bind h (fun r4 hr4 h => ?_)
  refine gx mo [.pc p43_7, .pc p43_11] 27 [(2, (i64 a3)), (3, (.ref 0 0 0)), (6, (.ref 1 0 0)), (8, (.ref 2 0 0)), (17, (.bool (!r4.2)))] [.row 22 [(ApiBooks.v a1)], .row 19 [(.agg [(.str []), (.str []), (.str []), (i64 0), (i64 0), (i64 0), (i64 0), .nils, (.bool false), (i64 0), (i64 0), (.bool false), .nils, (.bool false), (i64 0), (i64 0), (.bool false), .nils, .nils])], .row 7 [(ApiAccount.v r4.1)]] 24 [tc 5 [.row 22 [(ApiBooks.v a1)], .row 19 [(.agg [(.str []), (.str []), (.str []), (i64 0), (i64 0), (i64 0), (i64 0), .nils, (.bool false), (i64 0), (i64 0), (.bool false), .nils, (.bool false), (i64 0), (i64 0), (.bool false), .nils, .nils])]] (P_account_Find hr4) (fg (fs fl_nil))] ?_
  refine go_if h (fun hb5 h => ?_) (fun hb5 h => ?_)
  · cases h
  · rw [hb5]
    refine go_bind h (fun r6 hr6 h => ?_)
    refine gx mo [.pc p43_10] 27 [(6, (.ref 1 0 0)), (7, (.bool r6.2))] [.row 22 [(ApiBooks.v a1)], .row 19 [(ApiProduct.v r6.1)], .row 7 [(ApiAccount.v r4.1)]] 15 [tcc 6 [.row 22 [(ApiBooks.v a1)], .row 19 [(.agg [(.str []), (.str []), (.str []), (i64 0), (i64 0), (i64 0), (i64 0), .nils, (.bool false), (i64 0), (i64 0), (.bool false), .nils, (.bool false), (i64 0), (i64 0), (.bool false), .nils, .nils])], .row 7 [(ApiAccount.v r4.1)]] (P_catalog_At hr6) (fs (fs (fs fl_nil)))] ?_
    obtain rfl := Option.some.inj h
    exact gf (.tup [(ApiProduct.v r6.1), (.bool r6.2)]) (f_tupl (fg (fs fl_nil)))
/-! corebank/limit.Floor -/
def p10_11 : PC := .ret
def p10_12 : PC := (.seq (.reg (oo 31 (.fa 5 (.t 10)) :: oo 32 (.ld1 (.t 31)) :: oo 33 (.fa 3 (.t 8)) :: oo 34 (.ld1 (.t 33)) :: oo 35 (.bin .add .other false (.t 32) (.t 34)) :: oo 36 (.un .neg (.t 35)) :: om 6 36 :: oo 7 (.mv (.c (.int .i64 0))) :: [])) p10_11)
def p10_8 : PC := (.cond (.t 30) (.seq (.reg (oo 6 (.mv (.c (.int .i64 0))) :: oo 7 (.mv (.c (.int .i64 11))) :: [])) .ret) .skip)
def p10_16 : PC := (.seq (.reg (oo 3 (.box (.t 0)) :: oo 6 (.mv (.c (.int .i64 0))) :: oo 7 (.mv (.c (.int .i64 0))) :: [])) (.seq (.reg (oo 13 (.ldA 22 (.t 3)) :: om 14 1 :: ⟨some 15, .call 22 [.t 13, .t 14], none⟩ :: om 12 15 :: oo 16 (.ext 0 (.t 12)) :: oo 17 (.ext 1 (.t 12)) :: oo 8 (.new (.agg [.int .i64 0, .int .i64 0, .int .i64 0, .int .i64 0, .str [], .str [], .str []])) :: on_ (.st 7 (.t 8) (.t 16)) :: om 9 17 :: [])) (.seq (.reg (oo 19 (.ldA 22 (.t 3)) :: om 20 1 :: om 21 2 :: ⟨some 22, .call 43 [.t 19, .t 20, .t 21], none⟩ :: om 18 22 :: oo 23 (.ext 0 (.t 18)) :: oo 24 (.ext 1 (.t 18)) :: oo 10 (.new (.agg [.str [], .str [], .str [], .int .i64 0, .int .i64 0, .int .i64 0, .int .i64 0, .nils, .bool false, .int .i64 0, .int .i64 0, .bool false, .nils, .bool false, .int .i64 0, .int .i64 0, .bool false, .nils, .nils])) :: on_ (.st 19 (.t 10) (.t 23)) :: om 11 24 :: [])) (.seq (.seq (.reg (om 25 9 :: oo 26 (.un .not (.t 25)) :: om 27 26 :: ⟨some 28, .op (.mv (.t 11)), some (27, false)⟩ :: ⟨some 29, .op (.un .not (.t 28)), some (27, false)⟩ :: oo 30 (.pick (.t 27) (.c (.bool true)) (.t 29)) :: [])) p10_8) p10_12))))
theorem fn10 : FnOk Tryz.prog 10 p10_16 37 [.t 6, .t 7] := ⟨false, Tryz.f10, _, Tryz.func10, by decide, rfl, by kernel_rfl, rfl, by kernel_rfl⟩
def F_limit_Floor  (N : Nat) (a1 : ApiBooks) (a2 : Int) (a3 : Int) : Option (Int × Int) :=
      (F_account_Find N a1 a2).bind fun r4 =>
    (F_account_Product N a1 a2 a3).bind fun r5 =>
    bif r4.2 then
    (bif !r5.2 then
    (none)
    else
    (some (IntKind.wrap .i64 (0 - (IntKind.wrap .i64 (r5.1.Overdraft_ + r4.1.Extra_))), 0)))
    else
    (none)
theorem P_limit_Floor  {N : Nat} {a1 : ApiBooks} {a2 : Int} {a3 : Int} {r : Int × Int} (h : F_limit_Floor N a1 a2 a3 = some r) : Pure Tryz.prog (Gl.at 0) 10 [(ApiBooks.v a1), (i64 a2), (i64 a3)] (.tup [(i64 r.1), (i64 r.2)]) := by
  refine pure_run fn10 ?_
  rw [F_limit_Floor] at h
  replace h := bs h
  change GG [.t 6, .t 7] _ [.pc p10_16] (mk 37 [(0, (ApiBooks.v a1)), (1, (i64 a2)), (2, (i64 a3))]) []
  refine go_bind h (fun r4 hr4 h => ?_)
  refine go_bind h (fun r5 hr5 h => ?_)
  refine go_if h (fun hb6 h => ?_) (fun hb6 h => ?_)
  · refine gx mo [.pc p10_8, .pc p10_12] 37 [(8, (.ref 1 0 0)), (10, (.ref 2 0 0)), (30, (.bool (!r5.2)))] [.row 22 [(ApiBooks.v a1)], .row 7 [(ApiAccount.v r4.1)], .row 19 [(ApiProduct.v r5.1)]] 41 [tc 5 [.row 22 [(ApiBooks.v a1)]] (P_account_Find hr4) (fg (fs fl_nil)), tcc 15 [.row 22 [(ApiBooks.v a1)], .row 7 [(ApiAccount.v r4.1)]] (P_account_Product hr5) (fg (fs (fs fl_nil))), twb 22 [.row 22 [(ApiBooks.v a1)], .row 7 [(ApiAccount.v r4.1)], .row 19 [(ApiProduct.v r5.1)]] (.mv (.c (.bool r4.2))) (r4.2) true hb6] ?_
    refine go_if h (fun hb7 h => ?_) (fun hb7 h => ?_)
    · cases h
    · rw [hb7]
      refine gx mo [.pc p10_11] 37 [(6, (i64 (IntKind.wrap .i64 (0 - (IntKind.wrap .i64 (r5.1.Overdraft_ + r4.1.Extra_)))))), (7, (i64 0))] [.row 22 [(ApiBooks.v a1)], .row 7 [(ApiAccount.v r4.1)], .row 19 [(ApiProduct.v r5.1)]] 13 [] ?_
      obtain rfl := Option.some.inj h
      exact gf (.tup [(i64 (IntKind.wrap .i64 (0 - (IntKind.wrap .i64 (r5.1.Overdraft_ + r4.1.Extra_))))), (i64 0)]) (f_tupl (fs (fs fl_nil)))
  · cases h
/-! corebank/hold.Total -/
def p45_23 : PC := .ret
def p45_24 : PC := (.seq (.reg (om 37 7 :: om 6 37 :: [])) p45_23)
def p45_15 : PC := (.reg (oo 36 (.bin .add .other true (.t 12) (.c (.int .i64 1))) :: om 12 36 :: []))
def p45_11 : PC := (.cond (.t 31) (.reg (om 32 7 :: oo 33 (.fa 2 (.t 9)) :: oo 34 (.ld1 (.t 33)) :: oo 35 (.bin .add .other false (.t 32) (.t 34)) :: om 7 35 :: [])) .skip)
def p45_16 : PC := (.seq (.block 1 (.seq (.reg (oo 14 (.ia 6 (.t 10) (.t 12)) :: oo 15 (.ldA 6 (.t 14)) :: oo 9 (.new (.agg [.int .i64 0, .int .i64 0, .int .i64 0, .int .i64 0, .int .i64 0, .str []])) :: on_ (.st 6 (.t 9) (.t 15)) :: [])) (.seq (.reg (oo 16 (.fa 1 (.t 9)) :: oo 17 (.ld1 (.t 16)) :: om 18 1 :: oo 19 (.bin .eql .other false (.t 17) (.t 18)) :: om 20 19 :: ⟨some 21, .op (.fa 3 (.t 9)), some (20, true)⟩ :: ⟨some 22, .op (.ld1 (.t 21)), some (20, true)⟩ :: ⟨some 23, .op (.mv (.t 2)), some (20, true)⟩ :: ⟨some 24, .op (.bin .leq .other false (.t 22) (.t 23)), some (20, true)⟩ :: oo 25 (.pick (.t 20) (.t 24) (.c (.bool false))) :: om 26 25 :: ⟨some 27, .op (.mv (.t 2)), some (26, true)⟩ :: ⟨some 28, .op (.fa 4 (.t 9)), some (26, true)⟩ :: ⟨some 29, .op (.ld1 (.t 28)), some (26, true)⟩ :: ⟨some 30, .op (.bin .leq .other false (.t 27) (.t 29)), some (26, true)⟩ :: oo 31 (.pick (.t 26) (.t 30) (.c (.bool false))) :: [])) p45_11))) p45_15)
def p45_6 : PC := (.cond (.t 13) .skip (.exit 0))
def p45_19 : PC := (.loop (.seq (.reg (oo 13 (.bin .lss .other false (.t 12) (.t 11)) :: [])) (.seq p45_6 p45_16)))
def p45_27 : PC := (.seq (.reg (oo 6 (.mv (.c (.int .i64 0))) :: [])) (.seq (.reg (oo 7 (.mv (.c (.int .i64 0))) :: [])) (.seq (.seq (.reg (om 10 0 :: oo 11 (.len .slice (.t 10)) :: oo 12 (.mv (.c (.int .i64 0))) :: [])) (.block 0 p45_19)) p45_24)))
theorem fn45 : FnOk Tryz.prog 45 p45_27 38 [.t 6] := ⟨false, Tryz.f45, _, Tryz.func45, by decide, rfl, by kernel_rfl, rfl, by kernel_rfl⟩
def L_hold_Total_1 (N : Nat) (a1 : List ApiHold) (a2 : Int) (a3 : Int) : Nat → Int → Int → Option (Int)
  | 0, _, _ => none
  | m1 + 1, v1_0, v1_1 =>
    bif decide (v1_1 < (a1.length : Int)) then
    ((getI a1 v1_1).bind fun y10 =>
    bif decide (y10.Account_ = a2) then
    (bif decide (y10.From_ ≤ a3) then
    (bif decide (a3 ≤ y10.To_) then
    ((L_hold_Total_1 N a1 a2 a3 m1) (IntKind.wrap .i64 (v1_0 + y10.Amount_)) (IntKind.wrap .i64 (v1_1 + 1)))
    else
    ((L_hold_Total_1 N a1 a2 a3 m1) v1_0 (IntKind.wrap .i64 (v1_1 + 1))))
    else
    (none))
    else
    (none))
    else
    (some v1_0)
def K_hold_Total_1 (N : Nat)  : (Int) → Option (Int)
  | x1_0 =>
    some x1_0
def F_hold_Total  (N : Nat) (a1 : List ApiHold) (a2 : Int) (a3 : Int) : Option (Int) :=
      (L_hold_Total_1 N a1 a2 a3 N 0 0).bind (K_hold_Total_1 N)
theorem P_hold_Total  {N : Nat} {a1 : List ApiHold} {a2 : Int} {a3 : Int} {r : Int} (h : F_hold_Total N a1 a2 a3 = some r) : Pure Tryz.prog (Gl.at 0) 45 [(.sl (a1.map ApiHold.v)), (i64 a2), (i64 a3)] (i64 r) := by
  refine pure_run fn45 ?_
  rw [F_hold_Total] at h
  replace h := bs h
  change GG [.t 6] _ [.pc p45_27] (mk 38 [(0, (.sl (a1.map ApiHold.v))), (1, (i64 a2)), (2, (i64 a3))]) []
  refine gx mo [.pc p45_19, .blk 0, .pc p45_24] 38 [(1, (i64 a2)), (2, (i64 a3)), (7, (i64 0)), (10, (.sl (a1.map ApiHold.v))), (11, (i64 (a1.length : Int))), (12, (i64 0))] [] 16 [tw 3 (E_len [] a1 ApiHold.v)] ?_
  refine go_cut (X := Int) (fun x => (K_hold_Total_1 N x).bind some = some r) ([.pc p45_24]) (fun x => (mk 38 [(7, (i64 x))])) (fun x => []) ?_ fun kont1_0 => ?_
  · rintro x1_0 h
    rw [K_hold_Total_1] at h
    refine gx mo [.pc p45_23] 38 [(6, (i64 x1_0))] [] 5 [] ?_
    obtain rfl := Option.some.inj h
    exact gf (i64 x1_0) (.same rfl)
  refine go_loop' (fun m t s => ∃ (v1_0 : Int) (v1_1 : Int), (L_hold_Total_1 N a1 a2 a3 m v1_0 v1_1).bind (fun q => (K_hold_Total_1 N q).bind some) = some r ∧ t = (mk 38 [(1, (i64 a2)), (2, (i64 a3)), (7, (i64 v1_0)), (10, (.sl (a1.map ApiHold.v))), (11, (i64 (a1.length : Int))), (12, (i64 v1_1))]) ∧ s = []) N ⟨0, 0, go_assoc h, rfl, rfl⟩ ?_
  intro m1 J1 hJ1 t s
  rintro ⟨v1_0, v1_1, h, rfl, rfl⟩
  cases m1 with
  | zero => exact absurd h (by simp [L_hold_Total_1])
  | succ m1 =>
    rw [L_hold_Total_1] at h
    refine gx mo [.pc p45_6, .pc p45_16, .jp J1, .blk 0, .pc p45_24] 38 [(1, (i64 a2)), (2, (i64 a3)), (7, (i64 v1_0)), (10, (.sl (a1.map ApiHold.v))), (11, (i64 (a1.length : Int))), (12, (i64 v1_1)), (13, (.bool (decide (v1_1 < (a1.length : Int)))))] [] 5 [] ?_
    refine go_if h (fun hb9 h => ?_) (fun hb9 h => ?_)
    · rw [hb9]
      refine go_bind h (fun y10 hy10 h => ?_)
      refine go_if h (fun hb11 h => ?_) (fun hb11 h => ?_)
      · refine go_if h (fun hb12 h => ?_) (fun hb12 h => ?_)
        · refine gx mo [.pc p45_11, .blk 1, .pc p45_15, .jp J1, .blk 0, .pc p45_24] 38 [(1, (i64 a2)), (2, (i64 a3)), (7, (i64 v1_0)), (9, (.ref 0 0 0)), (10, (.sl (a1.map ApiHold.v))), (11, (i64 (a1.length : Int))), (12, (i64 v1_1)), (31, (.bool (decide (a3 ≤ y10.To_))))] [.row 6 [(ApiHold.v y10)]] 30 [tw 1 (E_ia [] ApiHold.v .i64 hy10), twb 8 [.row 6 [(ApiHold.v y10)]] (.bin .eql .other false (.c (i64 y10.Account_)) (.c (i64 a2))) (decide (y10.Account_ = a2)) true hb11, twb 14 [.row 6 [(ApiHold.v y10)]] (.pick (.c (.bool true)) (.c (.bool (decide (y10.From_ ≤ a3)))) (.c (.bool false))) (decide (y10.From_ ≤ a3)) true hb12] ?_
          refine go_if h (fun hb13 h => ?_) (fun hb13 h => ?_)
          · rw [hb13]
            refine gx mo [.jp J1, .blk 0, .pc p45_24] 38 [(1, (i64 a2)), (2, (i64 a3)), (7, (i64 (IntKind.wrap .i64 (v1_0 + y10.Amount_)))), (10, (.sl (a1.map ApiHold.v))), (11, (i64 (a1.length : Int))), (12, (i64 (IntKind.wrap .i64 (v1_1 + 1))))] [.row 6 [(ApiHold.v y10)]] 13 [] ?_
            refine go_pick [] [] [(1, 0), (2, 0), (7, 0), (10, 0), (11, 0), (12, 0)] (t' := (mk 38 [(1, (i64 a2)), (2, (i64 a3)), (7, (i64 (IntKind.wrap .i64 (v1_0 + y10.Amount_)))), (10, (.sl (a1.map ApiHold.v))), (11, (i64 (a1.length : Int))), (12, (i64 (IntKind.wrap .i64 (v1_1 + 1))))])) (s' := []) (by kernel_rfl) trivial rfl ?_
            exact go_back rfl (hJ1 m1 _ _ (Nat.lt_succ_self m1) ⟨IntKind.wrap .i64 (v1_0 + y10.Amount_), IntKind.wrap .i64 (v1_1 + 1), h, rfl, rfl⟩)
          · rw [hb13]
            refine gx mo [.jp J1, .blk 0, .pc p45_24] 38 [(1, (i64 a2)), (2, (i64 a3)), (7, (i64 v1_0)), (10, (.sl (a1.map ApiHold.v))), (11, (i64 (a1.length : Int))), (12, (i64 (IntKind.wrap .i64 (v1_1 + 1))))] [.row 6 [(ApiHold.v y10)]] 7 [] ?_
            refine go_pick [] [] [(1, 0), (2, 0), (7, 0), (10, 0), (11, 0), (12, 0)] (t' := (mk 38 [(1, (i64 a2)), (2, (i64 a3)), (7, (i64 v1_0)), (10, (.sl (a1.map ApiHold.v))), (11, (i64 (a1.length : Int))), (12, (i64 (IntKind.wrap .i64 (v1_1 + 1))))])) (s' := []) (by kernel_rfl) trivial rfl ?_
            exact go_back rfl (hJ1 m1 _ _ (Nat.lt_succ_self m1) ⟨v1_0, IntKind.wrap .i64 (v1_1 + 1), h, rfl, rfl⟩)
        · cases h
      · cases h
    · rw [hb9]
      refine gx mo [.pc p45_24] 38 [(7, (i64 v1_0))] [] 2 [] ?_
      exact kont1_0 v1_0 h
/-! corebank/blocking.Active -/
def p68_23 : PC := .ret
def p68_24 : PC := (.seq (.reg (om 37 7 :: om 6 37 :: [])) p68_23)
def p68_15 : PC := (.reg (oo 36 (.bin .add .other true (.t 12) (.c (.int .i64 1))) :: om 12 36 :: []))
def p68_11 : PC := (.cond (.t 31) (.reg (om 32 7 :: oo 33 (.ldA 7 (.t 9)) :: oo 34 (.lit (.agg [.int .i64 0, .int .i64 0, .int .i64 0, .int .i64 0, .int .i64 0, .int .i64 0, .str []]) 1 [(0, .t 33)]) :: oo 35 (.app 7 64 (.t 32) (.t 34)) :: om 7 35 :: [])) .skip)
def p68_16 : PC := (.seq (.block 1 (.seq (.reg (oo 14 (.ia 7 (.t 10) (.t 12)) :: oo 15 (.ldA 7 (.t 14)) :: oo 9 (.new (.agg [.int .i64 0, .int .i64 0, .int .i64 0, .int .i64 0, .int .i64 0, .int .i64 0, .str []])) :: on_ (.st 7 (.t 9) (.t 15)) :: [])) (.seq (.reg (oo 16 (.fa 1 (.t 9)) :: oo 17 (.ld1 (.t 16)) :: om 18 1 :: oo 19 (.bin .eql .other false (.t 17) (.t 18)) :: om 20 19 :: ⟨some 21, .op (.fa 4 (.t 9)), some (20, true)⟩ :: ⟨some 22, .op (.ld1 (.t 21)), some (20, true)⟩ :: ⟨some 23, .op (.mv (.t 2)), some (20, true)⟩ :: ⟨some 24, .op (.bin .leq .other false (.t 22) (.t 23)), some (20, true)⟩ :: oo 25 (.pick (.t 20) (.t 24) (.c (.bool false))) :: om 26 25 :: ⟨some 27, .op (.mv (.t 2)), some (26, true)⟩ :: ⟨some 28, .op (.fa 5 (.t 9)), some (26, true)⟩ :: ⟨some 29, .op (.ld1 (.t 28)), some (26, true)⟩ :: ⟨some 30, .op (.bin .leq .other false (.t 27) (.t 29)), some (26, true)⟩ :: oo 31 (.pick (.t 26) (.t 30) (.c (.bool false))) :: [])) p68_11))) p68_15)
def p68_6 : PC := (.cond (.t 13) .skip (.exit 0))
def p68_19 : PC := (.loop (.seq (.reg (oo 13 (.bin .lss .other false (.t 12) (.t 11)) :: [])) (.seq p68_6 p68_16)))
def p68_27 : PC := (.seq (.reg (oo 6 (.mv (.c .nils)) :: [])) (.seq (.reg (oo 7 (.mv (.c .nils)) :: [])) (.seq (.seq (.reg (om 10 0 :: oo 11 (.len .slice (.t 10)) :: oo 12 (.mv (.c (.int .i64 0))) :: [])) (.block 0 p68_19)) p68_24)))
theorem fn68 : FnOk Tryz.prog 68 p68_27 38 [.t 6] := ⟨false, Tryz.f68, _, Tryz.func68, by decide, rfl, by kernel_rfl, rfl, by kernel_rfl⟩
def L_blocking_Active_1 (N : Nat) (a1 : List ApiBlock) (a2 : Int) (a3 : Int) : Nat → (List ApiBlock) → Int → Option ((List ApiBlock))
  | 0, _, _ => none
  | m1 + 1, v1_0, v1_1 =>
    bif decide (v1_1 < (a1.length : Int)) then
    ((getI a1 v1_1).bind fun y11 =>
    bif decide (y11.Account_ = a2) then
    (bif decide (y11.From_ ≤ a3) then
    (bif decide (a3 ≤ y11.To_) then
    ((appI 64 v1_0 ([y11] : List ApiBlock)).bind fun l15 =>
    (L_blocking_Active_1 N a1 a2 a3 m1) l15 (IntKind.wrap .i64 (v1_1 + 1)))
    else
    (none))
    else
    (none))
    else
    (none))
    else
    (some v1_0)
def K_blocking_Active_1 (N : Nat)  : ((List ApiBlock)) → Option ((List ApiBlock))
  | x1_0 =>
    some x1_0
def F_blocking_Active  (N : Nat) (a1 : List ApiBlock) (a2 : Int) (a3 : Int) : Option ((List ApiBlock)) :=
      (L_blocking_Active_1 N a1 a2 a3 N [] 0).bind (K_blocking_Active_1 N)
theorem P_blocking_Active  {N : Nat} {a1 : List ApiBlock} {a2 : Int} {a3 : Int} {r : (List ApiBlock)} (h : F_blocking_Active N a1 a2 a3 = some r) : Pure Tryz.prog (Gl.at 0) 68 [(.sl (a1.map ApiBlock.v)), (i64 a2), (i64 a3)] (.sl (r.map ApiBlock.v)) := by
  refine pure_run fn68 ?_
  rw [F_blocking_Active] at h
  replace h := bs h
  change GG [.t 6] _ [.pc p68_27] (mk 38 [(0, (.sl (a1.map ApiBlock.v))), (1, (i64 a2)), (2, (i64 a3))]) []
  refine gx mo [.pc p68_19, .blk 0, .pc p68_24] 38 [(1, (i64 a2)), (2, (i64 a3)), (7, .nils), (10, (.sl (a1.map ApiBlock.v))), (11, (i64 (a1.length : Int))), (12, (i64 0))] [] 16 [tw 3 (E_len [] a1 ApiBlock.v)] ?_
  refine go_cut (X := (List ApiBlock)) (fun x => x = [] ∧ (K_blocking_Active_1 N x).bind some = some r) ([.pc p68_24]) (fun x => (mk 38 [(7, .nils)])) (fun x => []) ?_ fun kont1_0 => ?_
  · rintro x1_0 ⟨hx0, h⟩
    obtain rfl : x1_0 = [] := hx0
    rw [K_blocking_Active_1] at h
    refine gx mo [.pc p68_23] 38 [(6, .nils)] [] 5 [] ?_
    obtain rfl := Option.some.inj h
    exact gf .nils .nil0
  refine go_cut (X := (List ApiBlock)) (fun x => (K_blocking_Active_1 N x).bind some = some r) ([.pc p68_24]) (fun x => (mk 38 [(7, (.osl 0 0 x.length))])) (fun x => [.row 7 (x.map ApiBlock.v)]) ?_ fun kont1_1 => ?_
  · rintro x1_0 h
    rw [K_blocking_Active_1] at h
    refine gx mo [.pc p68_23] 38 [(6, (.osl 0 0 x1_0.length))] [.row 7 (x1_0.map ApiBlock.v)] 5 [] ?_
    obtain rfl := Option.some.inj h
    exact gf (.osl 0 0 x1_0.length) (f_osl (c := 0) rfl (fun _ => rfl) (fun _ => rfl) rfl)
  refine go_loop' (fun m t s => ∃ (v1_0 : List ApiBlock) (v1_1 : Int), (L_blocking_Active_1 N a1 a2 a3 m v1_0 v1_1).bind (fun q => (K_blocking_Active_1 N q).bind some) = some r ∧ ((v1_0 = [] ∧ t = (mk 38 [(1, (i64 a2)), (2, (i64 a3)), (7, .nils), (10, (.sl (a1.map ApiBlock.v))), (11, (i64 (a1.length : Int))), (12, (i64 v1_1))]) ∧ s = []) ∨ (t = (mk 38 [(1, (i64 a2)), (2, (i64 a3)), (7, (.osl 0 0 v1_0.length)), (10, (.sl (a1.map ApiBlock.v))), (11, (i64 (a1.length : Int))), (12, (i64 v1_1))]) ∧ s = [.row 7 (v1_0.map ApiBlock.v)]))) N ⟨[], 0, go_assoc h, .inl ⟨rfl, rfl, rfl⟩⟩ ?_
  intro m1 J1 hJ1 t s
  rintro ⟨v1_0, v1_1, h, hsh⟩
  cases m1 with
  | zero => exact absurd h (by simp [L_blocking_Active_1])
  | succ m1 =>
    rw [L_blocking_Active_1] at h
    rcases hsh with ⟨rfl, rfl, rfl⟩ | ⟨rfl, rfl⟩
    · refine gx mo [.pc p68_6, .pc p68_16, .jp J1, .blk 0, .pc p68_24] 38 [(1, (i64 a2)), (2, (i64 a3)), (7, .nils), (10, (.sl (a1.map ApiBlock.v))), (11, (i64 (a1.length : Int))), (12, (i64 v1_1)), (13, (.bool (decide (v1_1 < (a1.length : Int)))))] [] 5 [] ?_
      refine go_if h (fun hb10 h => ?_) (fun hb10 h => ?_)
      · rw [hb10]
        refine go_bind h (fun y11 hy11 h => ?_)
        refine go_if h (fun hb12 h => ?_) (fun hb12 h => ?_)
        · refine go_if h (fun hb13 h => ?_) (fun hb13 h => ?_)
          · refine gx mo [.pc p68_11, .blk 1, .pc p68_15, .jp J1, .blk 0, .pc p68_24] 38 [(1, (i64 a2)), (2, (i64 a3)), (7, .nils), (9, (.ref 0 0 0)), (10, (.sl (a1.map ApiBlock.v))), (11, (i64 (a1.length : Int))), (12, (i64 v1_1)), (31, (.bool (decide (a3 ≤ y11.To_))))] [.row 7 [(ApiBlock.v y11)]] 30 [tw 1 (E_ia [] ApiBlock.v .i64 hy11), twb 8 [.row 7 [(ApiBlock.v y11)]] (.bin .eql .other false (.c (i64 y11.Account_)) (.c (i64 a2))) (decide (y11.Account_ = a2)) true hb12, twb 14 [.row 7 [(ApiBlock.v y11)]] (.pick (.c (.bool true)) (.c (.bool (decide (y11.From_ ≤ a3)))) (.c (.bool false))) (decide (y11.From_ ≤ a3)) true hb13] ?_
            refine go_if h (fun hb14 h => ?_) (fun hb14 h => ?_)
            · rw [hb14]
              refine go_bind h (fun l15 hl15 h => ?_)
              refine gx mo [.jp J1, .blk 0, .pc p68_24] 38 [(1, (i64 a2)), (2, (i64 a3)), (7, (.osl 1 0 l15.length)), (10, (.sl (a1.map ApiBlock.v))), (11, (i64 (a1.length : Int))), (12, (i64 (IntKind.wrap .i64 (v1_1 + 1))))] [.row 7 [(ApiBlock.v y11)], .row 7 (l15.map ApiBlock.v)] 13 [tw 4 (s := [.row 7 [(ApiBlock.v y11)]]) (s' := [.row 7 [(ApiBlock.v y11)], .row 7 (l15.map ApiBlock.v)]) (q := (.app 7 64 (.c .nils) (.c (.sl [(ApiBlock.v y11)])))) (v := (.osl 1 0 l15.length)) (e_app0 (f := ApiBlock.v) (ys := ([y11] : List ApiBlock)) (.inl rfl) (fun _ => rfl) (fun _ => rfl) rfl hl15)] ?_
              refine go_pick [1] [] [(1, 0), (2, 0), (7, 0), (10, 0), (11, 0), (12, 0)] (t' := (mk 38 [(1, (i64 a2)), (2, (i64 a3)), (7, (.osl 0 0 l15.length)), (10, (.sl (a1.map ApiBlock.v))), (11, (i64 (a1.length : Int))), (12, (i64 (IntKind.wrap .i64 (v1_1 + 1))))])) (s' := [.row 7 (l15.map ApiBlock.v)]) (by kernel_rfl) ⟨clo_map (fun _ => rfl) _, trivial⟩ rfl ?_
              exact go_back rfl (hJ1 m1 _ _ (Nat.lt_succ_self m1) ⟨l15, IntKind.wrap .i64 (v1_1 + 1), h, .inr (⟨rfl, rfl⟩)⟩)
            · cases h
          · cases h
        · cases h
      · rw [hb10]
        refine gx mo [.pc p68_24] 38 [(7, .nils)] [] 2 [] ?_
        exact kont1_0 [] ⟨rfl, h⟩
    · refine gx mo [.pc p68_6, .pc p68_16, .jp J1, .blk 0, .pc p68_24] 38 [(1, (i64 a2)), (2, (i64 a3)), (7, (.osl 0 0 v1_0.length)), (10, (.sl (a1.map ApiBlock.v))), (11, (i64 (a1.length : Int))), (12, (i64 v1_1)), (13, (.bool (decide (v1_1 < (a1.length : Int)))))] [.row 7 (v1_0.map ApiBlock.v)] 5 [] ?_
      refine go_if h (fun hb10 h => ?_) (fun hb10 h => ?_)
      · rw [hb10]
        refine go_bind h (fun y11 hy11 h => ?_)
        refine go_if h (fun hb12 h => ?_) (fun hb12 h => ?_)
        · refine go_if h (fun hb13 h => ?_) (fun hb13 h => ?_)
          · refine gx mo [.pc p68_11, .blk 1, .pc p68_15, .jp J1, .blk 0, .pc p68_24] 38 [(1, (i64 a2)), (2, (i64 a3)), (7, (.osl 0 0 v1_0.length)), (9, (.ref 1 0 0)), (10, (.sl (a1.map ApiBlock.v))), (11, (i64 (a1.length : Int))), (12, (i64 v1_1)), (31, (.bool (decide (a3 ≤ y11.To_))))] [.row 7 (v1_0.map ApiBlock.v), .row 7 [(ApiBlock.v y11)]] 30 [tw 1 (E_ia [.row 7 (v1_0.map ApiBlock.v)] ApiBlock.v .i64 hy11), twb 8 [.row 7 (v1_0.map ApiBlock.v), .row 7 [(ApiBlock.v y11)]] (.bin .eql .other false (.c (i64 y11.Account_)) (.c (i64 a2))) (decide (y11.Account_ = a2)) true hb12, twb 14 [.row 7 (v1_0.map ApiBlock.v), .row 7 [(ApiBlock.v y11)]] (.pick (.c (.bool true)) (.c (.bool (decide (y11.From_ ≤ a3)))) (.c (.bool false))) (decide (y11.From_ ≤ a3)) true hb13] ?_
            refine go_if h (fun hb14 h => ?_) (fun hb14 h => ?_)
            · rw [hb14]
              refine go_bind h (fun l15 hl15 h => ?_)
              refine gx mo [.jp J1, .blk 0, .pc p68_24] 38 [(1, (i64 a2)), (2, (i64 a3)), (7, (.osl 2 0 l15.length)), (10, (.sl (a1.map ApiBlock.v))), (11, (i64 (a1.length : Int))), (12, (i64 (IntKind.wrap .i64 (v1_1 + 1))))] [.dead, .row 7 [(ApiBlock.v y11)], .row 7 (l15.map ApiBlock.v)] 13 [tw 4 (s := [.row 7 (v1_0.map ApiBlock.v), .row 7 [(ApiBlock.v y11)]]) (s' := [.dead, .row 7 [(ApiBlock.v y11)], .row 7 (l15.map ApiBlock.v)]) (q := (.app 7 64 (.c (.osl 0 0 v1_0.length)) (.c (.sl [(ApiBlock.v y11)])))) (v := (.osl 2 0 l15.length)) (e_app (f := ApiBlock.v) (ys := ([y11] : List ApiBlock)) rfl (fun _ => rfl) (fun _ => rfl) rfl hl15 rfl)] ?_
              refine go_pick [2] [] [(1, 0), (2, 0), (7, 0), (10, 0), (11, 0), (12, 0)] (t' := (mk 38 [(1, (i64 a2)), (2, (i64 a3)), (7, (.osl 0 0 l15.length)), (10, (.sl (a1.map ApiBlock.v))), (11, (i64 (a1.length : Int))), (12, (i64 (IntKind.wrap .i64 (v1_1 + 1))))])) (s' := [.row 7 (l15.map ApiBlock.v)]) (by kernel_rfl) ⟨clo_map (fun _ => rfl) _, trivial⟩ rfl ?_
              exact go_back rfl (hJ1 m1 _ _ (Nat.lt_succ_self m1) ⟨l15, IntKind.wrap .i64 (v1_1 + 1), h, .inr (⟨rfl, rfl⟩)⟩)
            · cases h
          · cases h
        · cases h
      · rw [hb10]
        refine gx mo [.pc p68_24] 38 [(7, (.osl 0 0 v1_0.length))] [.row 7 (v1_0.map ApiBlock.v)] 2 [] ?_
        exact kont1_1 v1_0 h
/-! corebank/blocking.Reserved -/
def p46_25 : PC := .ret
def p46_26 : PC := (.seq (.reg (om 33 7 :: om 6 33 :: [])) p46_25)
def p46_18 : PC := (.seq (.block 1 (.seq (.reg (oo 19 (.ia 7 (.t 15) (.t 17)) :: oo 20 (.ldA 7 (.t 19)) :: oo 9 (.new (.agg [.int .i64 0, .int .i64 0, .int .i64 0, .int .i64 0, .int .i64 0, .int .i64 0, .str []])) :: on_ (.st 7 (.t 9) (.t 20)) :: [])) (.seq (.reg (oo 22 (.ldA 7 (.t 9)) :: ⟨some 23, .call 69 [.t 22], none⟩ :: oo 24 (.ta 121 (.agg [.int .i64 0]) true (.t 23)) :: om 21 24 :: oo 25 (.ext 0 (.t 21)) :: oo 26 (.ext 1 (.t 21)) :: oo 10 (.new (.agg [.int .i64 0])) :: on_ (.st 1 (.t 10) (.t 25)) :: om 11 26 :: [])) (.seq (.reg (om 27 11 :: [])) (.cond (.t 27) (.reg (om 28 7 :: oo 29 (.fa 0 (.t 10)) :: oo 30 (.ld1 (.t 29)) :: oo 31 (.bin .add .other false (.t 28) (.t 30)) :: om 7 31 :: [])) .skip))))) (.reg (oo 32 (.bin .add .other true (.t 17) (.c (.int .i64 1))) :: om 17 32 :: [])))
def p46_6 : PC := (.cond (.t 18) .skip (.exit 0))
def p46_21 : PC := (.loop (.seq (.reg (oo 18 (.bin .lss .other false (.t 17) (.t 16)) :: [])) (.seq p46_6 p46_18)))
def p46_29 : PC := (.seq (.reg (oo 6 (.mv (.c (.int .i64 0))) :: [])) (.seq (.reg (oo 7 (.mv (.c (.int .i64 0))) :: [])) (.seq (.seq (.reg (om 12 0 :: om 13 1 :: om 14 2 :: ⟨some 15, .call 68 [.t 12, .t 13, .t 14], none⟩ :: oo 16 (.len .slice (.t 15)) :: oo 17 (.mv (.c (.int .i64 0))) :: [])) (.block 0 p46_21)) p46_26)))
theorem fn46 : FnOk Tryz.prog 46 p46_29 34 [.t 6] := ⟨false, Tryz.f46, _, Tryz.func46, by decide, rfl, by kernel_rfl, rfl, by kernel_rfl⟩
def L_blocking_Reserved_1 (N : Nat) (r4 : (List ApiBlock)) : Nat → Int → Int → Option (Int)
  | 0, _, _ => none
  | m1 + 1, v1_0, v1_1 =>
    bif decide (v1_1 < (r4.length : Int)) then
    (none)
    else
    (some v1_0)
def K_blocking_Reserved_1 (N : Nat)  : (Int) → Option (Int)
  | x1_0 =>
    some x1_0
def F_blocking_Reserved  (N : Nat) (a1 : List ApiBlock) (a2 : Int) (a3 : Int) : Option (Int) :=
      (F_blocking_Active N a1 a2 a3).bind fun r4 =>
    (L_blocking_Reserved_1 N r4 N 0 0).bind (K_blocking_Reserved_1 N)
theorem P_blocking_Reserved  {N : Nat} {a1 : List ApiBlock} {a2 : Int} {a3 : Int} {r : Int} (h : F_blocking_Reserved N a1 a2 a3 = some r) : Pure Tryz.prog (Gl.at 0) 46 [(.sl (a1.map ApiBlock.v)), (i64 a2), (i64 a3)] (i64 r) := by
  refine pure_run fn46 ?_
  rw [F_blocking_Reserved] at h
  replace h := bs h
  change GG [.t 6] _ [.pc p46_29] (mk 34 [(0, (.sl (a1.map ApiBlock.v))), (1, (i64 a2)), (2, (i64 a3))]) []
  refine go_bind h (fun r4 hr4 h => ?_)
  refine gx mo [.pc p46_21, .blk 0, .pc p46_26] 34 [(7, (i64 0)), (15, (.sl (r4.map ApiBlock.v))), (16, (i64 (r4.length : Int))), (17, (i64 0))] [] 19 [tcc 5 [] (P_blocking_Active hr4) (fs (fs (fs fl_nil))), tw 6 (E_len [] r4 ApiBlock.v)] ?_
  refine go_cut (X := Int) (fun x => (K_blocking_Reserved_1 N x).bind some = some r) ([.pc p46_26]) (fun x => (mk 34 [(7, (i64 x))])) (fun x => []) ?_ fun kont1_0 => ?_
  · rintro x1_0 h
    rw [K_blocking_Reserved_1] at h
    refine gx mo [.pc p46_25] 34 [(6, (i64 x1_0))] [] 5 [] ?_
    obtain rfl := Option.some.inj h
    exact gf (i64 x1_0) (.same rfl)
  refine go_loop' (fun m t s => ∃ (v1_0 : Int) (v1_1 : Int), (L_blocking_Reserved_1 N r4 m v1_0 v1_1).bind (fun q => (K_blocking_Reserved_1 N q).bind some) = some r ∧ t = (mk 34 [(7, (i64 v1_0)), (15, (.sl (r4.map ApiBlock.v))), (16, (i64 (r4.length : Int))), (17, (i64 v1_1))]) ∧ s = []) N ⟨0, 0, go_assoc h, rfl, rfl⟩ ?_
  intro m1 J1 hJ1 t s
  rintro ⟨v1_0, v1_1, h, rfl, rfl⟩
  cases m1 with
  | zero => exact absurd h (by simp [L_blocking_Reserved_1])
  | succ m1 =>
    rw [L_blocking_Reserved_1] at h
    refine gx mo [.pc p46_6, .pc p46_18, .jp J1, .blk 0, .pc p46_26] 34 [(7, (i64 v1_0)), (15, (.sl (r4.map ApiBlock.v))), (16, (i64 (r4.length : Int))), (17, (i64 v1_1)), (18, (.bool (decide (v1_1 < (r4.length : Int)))))] [] 5 [] ?_
    refine go_if h (fun hb6 h => ?_) (fun hb6 h => ?_)
    · cases h
    · rw [hb6]
      refine gx mo [.pc p46_26] 34 [(7, (i64 v1_0))] [] 2 [] ?_
      exact kont1_0 v1_0 h
/-! corebank/limit.Available -/
def p12_10 : PC := .ret
def p12_11 : PC := (.seq (.drawn (oo 20 (.fa 19 (.t 3)) :: oo 21 (.ld1 (.t 20)) :: om 22 1 :: ⟨some 23, .call 26 [.t 21, .t 22], none⟩ :: om 24 8 :: oo 25 (.bin .sub .other false (.t 23) (.t 24)) :: oo 26 (.fa 20 (.t 3)) :: oo 27 (.ld1 (.t 26)) :: om 28 1 :: om 29 2 :: ⟨some 30, .call 45 [.t 27, .t 28, .t 29], none⟩ :: oo 31 (.bin .sub .other false (.t 25) (.t 30)) :: oo 32 (.fa 21 (.t 3)) :: oo 33 (.ld1 (.t 32)) :: om 34 1 :: om 35 2 :: ⟨some 36, .call 46 [.t 33, .t 34, .t 35], none⟩ :: oo 37 (.bin .sub .other false (.t 31) (.t 36)) :: om 6 37 :: oo 7 (.mv (.c (.int .i64 0))) :: []) [[], [0], [], [1, 2], [], [3, 4], [], [6], [], [], [7, 8, 9, 3], [5, 10], [], [12], [], [], [13, 14, 15, 10], [11, 16], [17, 16, 0, 1, 2, 3, 4, 5, 6, 7, 8, 9, 10, 11, 12, 13, 14, 15, 16, 17], [18, 0, 1, 2, 3, 4, 5, 6, 7, 8, 9, 10, 11, 12, 13, 14, 15, 16, 17, 18]]) p12_10)
def p12_7 : PC := (.cond (.t 18) (.seq (.reg (om 19 9 :: oo 6 (.mv (.c (.int .i64 0))) :: om 7 19 :: [])) .ret) .skip)
def p12_14 : PC := (.seq (.reg (oo 3 (.box (.t 0)) :: oo 6 (.mv (.c (.int .i64 0))) :: oo 7 (.mv (.c (.int .i64 0))) :: [])) (.seq (.reg (oo 11 (.ldA 22 (.t 3)) :: om 12 1 :: om 13 2 :: ⟨some 14, .call 10 [.t 11, .t 12, .t 13], none⟩ :: om 10 14 :: oo 15 (.ext 0 (.t 10)) :: oo 16 (.ext 1 (.t 10)) :: om 8 15 :: om 9 16 :: [])) (.seq (.seq (.reg (om 17 9 :: oo 18 (.bin .neq .other true (.t 17) (.c (.int .i64 0))) :: [])) p12_7) p12_11)))
theorem fn12 : FnOk Tryz.prog 12 p12_14 38 [.t 6, .t 7] := ⟨false, Tryz.f12, _, Tryz.func12, by decide, rfl, by kernel_rfl, rfl, by kernel_rfl⟩
def F_limit_Available  (N : Nat) (a1 : ApiBooks) (a2 : Int) (a3 : Int) : Option (Int × Int) :=
      (F_limit_Floor N a1 a2 a3).bind fun r4 =>
    bif !decide (r4.2 = 0) then
    (none)
    else
    ((F_balance_Of N a1.Journal_ a2).bind fun r6 =>
    (F_hold_Total N a1.Holds_ a2 a3).bind fun r7 =>
    (F_blocking_Reserved N a1.Blocks_ a2 a3).bind fun r8 =>
    some (IntKind.wrap .i64 ((IntKind.wrap .i64 ((IntKind.wrap .i64 (r6 - r4.1)) - r7)) - r8), 0))
theorem P_limit_Available  {N : Nat} {a1 : ApiBooks} {a2 : Int} {a3 : Int} {r : Int × Int} (h : F_limit_Available N a1 a2 a3 = some r) : Pure Tryz.prog (Gl.at 0) 12 [(ApiBooks.v a1), (i64 a2), (i64 a3)] (.tup [(i64 r.1), (i64 r.2)]) := by
  refine pure_run fn12 ?_
  rw [F_limit_Available] at h
  replace h := bs h
  change GG [.t 6, .t 7] _ [.pc p12_14] (mk 38 [(0, (ApiBooks.v a1)), (1, (i64 a2)), (2, (i64 a3))]) []
  refine go_bind h (fun r4 hr4 h => ?_)
  refine gx mo [.pc p12_7, .pc p12_11] 38 [(1, (i64 a2)), (2, (i64 a3)), (3, (.ref 0 0 0)), (8, (i64 r4.1)), (9, (i64 r4.2)), (18, (.bool (!decide (r4.2 = 0))))] [.row 22 [(ApiBooks.v a1)]] 24 [tc 6 [.row 22 [(ApiBooks.v a1)]] (P_limit_Floor hr4) (fg (fs (fs fl_nil)))] ?_
  refine go_if h (fun hb5 h => ?_) (fun hb5 h => ?_)
  · cases h
  · rw [hb5]
    refine go_bind h (fun r6 hr6 h => ?_)
    refine go_bind h (fun r7 hr7 h => ?_)
    refine go_bind h (fun r8 hr8 h => ?_)
    refine gx mo [.pc p12_10] 38 [(6, (i64 (IntKind.wrap .i64 ((IntKind.wrap .i64 ((IntKind.wrap .i64 (r6 - r4.1)) - r7)) - r8)))), (7, (i64 0))] [.row 22 [(ApiBooks.v a1)]] 4 [tgc 4 [.row 22 [(ApiBooks.v a1)]] (P_balance_Of hr6) (fs (fs fl_nil)), tgc 11 [.row 22 [(ApiBooks.v a1)]] (P_hold_Total hr7) (fs (fs (fs fl_nil))), tgc 17 [.row 22 [(ApiBooks.v a1)]] (P_blocking_Reserved hr8) (fs (fs (fs fl_nil)))] ?_
    obtain rfl := Option.some.inj h
    exact gf (.tup [(i64 (IntKind.wrap .i64 ((IntKind.wrap .i64 ((IntKind.wrap .i64 (r6 - r4.1)) - r7)) - r8))), (i64 0)]) (f_tupl (fs (fs fl_nil)))
/-! cmp.isNaN[int] -/
def p106_2 : PC := .ret
def p106_4 : PC := (.seq (.reg (oo 2 (.mv (.c (.bool false))) :: [])) (.seq (.reg (om 3 0 :: om 4 0 :: oo 5 (.bin .neq .other false (.t 3) (.t 4)) :: om 2 5 :: [])) p106_2))
theorem fn106 : FnOk Tryz.prog 106 p106_4 6 [.t 2] := ⟨false, Tryz.f106, _, Tryz.func106, by decide, rfl, by kernel_rfl, rfl, by kernel_rfl⟩
def F_cmp_isNaN_int  (N : Nat) (a1 : Int) : Option (Bool) :=
      some (!decide (a1 = a1))
theorem P_cmp_isNaN_int  {N : Nat} {a1 : Int} {r : Bool} (h : F_cmp_isNaN_int N a1 = some r) : Pure Tryz.prog (Gl.at 0) 106 [(i64 a1)] (.bool r) := by
  refine pure_run fn106 ?_
  rw [F_cmp_isNaN_int] at h
  replace h := bs h
  change GG [.t 2] _ [.pc p106_4] (mk 6 [(0, (i64 a1))]) []
  refine gx mo [.pc p106_2] 6 [(2, (.bool (!decide (a1 = a1))))] [] 11 [] ?_
  obtain rfl := Option.some.inj h
  exact gf (.bool (!decide (a1 = a1))) (.same rfl)
/-! cmp.Compare[int] -/
def p97_41 : PC := (.seq (.reg (oo 4 (.mv (.c (.int .i64 0))) :: [])) .ret)
def p97_34 : PC := .ret
def p97_37 : PC := (.cond (.t 19) (.seq (.reg (oo 4 (.mv (.c (.int .i64 1))) :: [])) p97_34) .skip)
def p97_42 : PC := (.seq (.seq (.reg (om 17 0 :: om 18 1 :: oo 19 (.bin .gtr .other false (.t 17) (.t 18)) :: [])) p97_37) p97_41)
def p97_30 : PC := (.cond (.t 16) (.seq (.reg (oo 4 (.mv (.c (.int .i64 (-1)))) :: [])) .ret) .skip)
def p97_43 : PC := (.seq (.seq (.reg (om 14 0 :: om 15 1 :: oo 16 (.bin .lss .other false (.t 14) (.t 15)) :: [])) p97_30) p97_42)
def p97_23 : PC := (.cond (.t 13) (.seq (.reg (oo 4 (.mv (.c (.int .i64 1))) :: [])) .ret) .skip)
def p97_44 : PC := (.seq (.seq (.reg (om 13 6 :: [])) p97_23) p97_43)
def p97_16 : PC := (.cond (.t 11) (.seq (.seq (.reg (om 12 6 :: [])) (.cond (.t 12) (.seq (.reg (oo 4 (.mv (.c (.int .i64 0))) :: [])) .ret) .skip)) (.seq (.reg (oo 4 (.mv (.c (.int .i64 (-1)))) :: [])) .ret)) .skip)
def p97_48 : PC := (.seq (.reg (oo 4 (.mv (.c (.int .i64 0))) :: [])) (.seq (.reg (om 7 0 :: ⟨some 8, .call 106 [.t 7], none⟩ :: om 5 8 :: [])) (.seq (.reg (om 9 1 :: ⟨some 10, .call 106 [.t 9], none⟩ :: om 6 10 :: [])) (.seq (.seq (.reg (om 11 5 :: [])) p97_16) p97_44))))
theorem fn97 : FnOk Tryz.prog 97 p97_48 20 [.t 4] := ⟨false, Tryz.f97, _, Tryz.func97, by decide, rfl, by kernel_rfl, rfl, by kernel_rfl⟩
def F_cmp_Compare_int  (N : Nat) (a1 : Int) (a2 : Int) : Option (Int) :=
      (F_cmp_isNaN_int N a1).bind fun r3 =>
    (F_cmp_isNaN_int N a2).bind fun r4 =>
    bif r3 then
    (none)
    else
    (bif r4 then
    (none)
    else
    (bif decide (a1 < a2) then
    (none)
    else
    (bif decide (a2 < a1) then
    (some 1)
    else
    (none))))
theorem P_cmp_Compare_int  {N : Nat} {a1 : Int} {a2 : Int} {r : Int} (h : F_cmp_Compare_int N a1 a2 = some r) : Pure Tryz.prog (Gl.at 0) 97 [(i64 a1), (i64 a2)] (i64 r) := by
  refine pure_run fn97 ?_
  rw [F_cmp_Compare_int] at h
  replace h := bs h
  change GG [.t 4] _ [.pc p97_48] (mk 20 [(0, (i64 a1)), (1, (i64 a2))]) []
  refine go_bind h (fun r3 hr3 h => ?_)
  refine go_bind h (fun r4 hr4 h => ?_)
  refine gx mo [.pc p97_16, .pc p97_44] 20 [(0, (i64 a1)), (1, (i64 a2)), (6, (.bool r4)), (11, (.bool r3))] [] 21 [tc 2 [] (P_cmp_isNaN_int hr3) (fs fl_nil), tc 5 [] (P_cmp_isNaN_int hr4) (fs fl_nil)] ?_
  refine go_if h (fun hb5 h => ?_) (fun hb5 h => ?_)
  · cases h
  · rw [hb5]
    refine gx mo [.pc p97_23, .pc p97_43] 20 [(0, (i64 a1)), (1, (i64 a2)), (13, (.bool r4))] [] 7 [] ?_
    refine go_if h (fun hb6 h => ?_) (fun hb6 h => ?_)
    · cases h
    · rw [hb6]
      refine gx mo [.pc p97_30, .pc p97_42] 20 [(0, (i64 a1)), (1, (i64 a2)), (16, (.bool (decide (a1 < a2))))] [] 9 [] ?_
      refine go_if h (fun hb7 h => ?_) (fun hb7 h => ?_)
      · cases h
      · rw [hb7]
        refine gx mo [.pc p97_37, .pc p97_41] 20 [(19, (.bool (decide (a2 < a1))))] [] 9 [] ?_
        refine go_if h (fun hb8 h => ?_) (fun hb8 h => ?_)
        · rw [hb8]
          refine gx mo [.pc p97_34, .pc p97_41] 20 [(4, (i64 1))] [] 5 [] ?_
          obtain rfl := Option.some.inj h
          exact gf (i64 1) (.same rfl)
        · cases h
/-! cmp.isNaN[string] -/
def p107_2 : PC := .ret
def p107_4 : PC := (.seq (.reg (oo 2 (.mv (.c (.bool false))) :: [])) (.seq (.reg (om 3 0 :: om 4 0 :: oo 5 (.bin .neq .other false (.t 3) (.t 4)) :: om 2 5 :: [])) p107_2))
theorem fn107 : FnOk Tryz.prog 107 p107_4 6 [.t 2] := ⟨false, Tryz.f107, _, Tryz.func107, by decide, rfl, by kernel_rfl, rfl, by kernel_rfl⟩
def F_cmp_isNaN_string  (N : Nat) (a1 : List UInt8) : Option (Bool) :=
      some (!(a1 == a1))
theorem P_cmp_isNaN_string  {N : Nat} {a1 : List UInt8} {r : Bool} (h : F_cmp_isNaN_string N a1 = some r) : Pure Tryz.prog (Gl.at 0) 107 [(.str a1)] (.bool r) := by
  refine pure_run fn107 ?_
  rw [F_cmp_isNaN_string] at h
  replace h := bs h
  change GG [.t 2] _ [.pc p107_4] (mk 6 [(0, (.str a1))]) []
  refine gx mo [.pc p107_2] 6 [(2, (.bool (!(a1 == a1))))] [] 11 [] ?_
  obtain rfl := Option.some.inj h
  exact gf (.bool (!(a1 == a1))) (.same rfl)
/-! cmp.Compare[string] -/
def p98_40 : PC := .ret
def p98_41 : PC := (.seq (.reg (oo 4 (.mv (.c (.int .i64 0))) :: [])) p98_40)
def p98_37 : PC := (.cond (.t 19) (.seq (.reg (oo 4 (.mv (.c (.int .i64 1))) :: [])) .ret) .skip)
def p98_42 : PC := (.seq (.seq (.reg (om 17 0 :: om 18 1 :: oo 19 (.bin .gtr .other false (.t 17) (.t 18)) :: [])) p98_37) p98_41)
def p98_30 : PC := (.cond (.t 16) (.seq (.reg (oo 4 (.mv (.c (.int .i64 (-1)))) :: [])) .ret) .skip)
def p98_43 : PC := (.seq (.seq (.reg (om 14 0 :: om 15 1 :: oo 16 (.bin .lss .other false (.t 14) (.t 15)) :: [])) p98_30) p98_42)
def p98_23 : PC := (.cond (.t 13) (.seq (.reg (oo 4 (.mv (.c (.int .i64 1))) :: [])) .ret) .skip)
def p98_44 : PC := (.seq (.seq (.reg (om 13 6 :: [])) p98_23) p98_43)
def p98_16 : PC := (.cond (.t 11) (.seq (.seq (.reg (om 12 6 :: [])) (.cond (.t 12) (.seq (.reg (oo 4 (.mv (.c (.int .i64 0))) :: [])) .ret) .skip)) (.seq (.reg (oo 4 (.mv (.c (.int .i64 (-1)))) :: [])) .ret)) .skip)
def p98_48 : PC := (.seq (.reg (oo 4 (.mv (.c (.int .i64 0))) :: [])) (.seq (.reg (om 7 0 :: ⟨some 8, .call 107 [.t 7], none⟩ :: om 5 8 :: [])) (.seq (.reg (om 9 1 :: ⟨some 10, .call 107 [.t 9], none⟩ :: om 6 10 :: [])) (.seq (.seq (.reg (om 11 5 :: [])) p98_16) p98_44))))
theorem fn98 : FnOk Tryz.prog 98 p98_48 20 [.t 4] := ⟨false, Tryz.f98, _, Tryz.func98, by decide, rfl, by kernel_rfl, rfl, by kernel_rfl⟩
def F_cmp_Compare_string  (N : Nat) (a1 : List UInt8) (a2 : List UInt8) : Option (Int) :=
      (F_cmp_isNaN_string N a1).bind fun r3 =>
    (F_cmp_isNaN_string N a2).bind fun r4 =>
    bif r3 then
    (none)
    else
    (bif r4 then
    (none)
    else
    (bif Op.bytesLess a1 a2 then
    (none)
    else
    (bif !(Op.bytesLess a1 a2 || a1 == a2) then
    (none)
    else
    (some 0))))
theorem P_cmp_Compare_string  {N : Nat} {a1 : List UInt8} {a2 : List UInt8} {r : Int} (h : F_cmp_Compare_string N a1 a2 = some r) : Pure Tryz.prog (Gl.at 0) 98 [(.str a1), (.str a2)] (i64 r) := by
  refine pure_run fn98 ?_
  rw [F_cmp_Compare_string] at h
  replace h := bs h
  change GG [.t 4] _ [.pc p98_48] (mk 20 [(0, (.str a1)), (1, (.str a2))]) []
  refine go_bind h (fun r3 hr3 h => ?_)
  refine go_bind h (fun r4 hr4 h => ?_)
  refine gx mo [.pc p98_16, .pc p98_44] 20 [(0, (.str a1)), (1, (.str a2)), (6, (.bool r4)), (11, (.bool r3))] [] 21 [tc 2 [] (P_cmp_isNaN_string hr3) (fs fl_nil), tc 5 [] (P_cmp_isNaN_string hr4) (fs fl_nil)] ?_
  refine go_if h (fun hb5 h => ?_) (fun hb5 h => ?_)
  · cases h
  · rw [hb5]
    refine gx mo [.pc p98_23, .pc p98_43] 20 [(0, (.str a1)), (1, (.str a2)), (13, (.bool r4))] [] 7 [] ?_
    refine go_if h (fun hb6 h => ?_) (fun hb6 h => ?_)
    · cases h
    · rw [hb6]
      refine gx mo [.pc p98_30, .pc p98_42] 20 [(0, (.str a1)), (1, (.str a2)), (16, (.bool (Op.bytesLess a1 a2)))] [] 9 [] ?_
      refine go_if h (fun hb7 h => ?_) (fun hb7 h => ?_)
      · cases h
      · rw [hb7]
        refine gx mo [.pc p98_37, .pc p98_41] 20 [(19, (.bool (!(Op.bytesLess a1 a2 || a1 == a2))))] [] 9 [] ?_
        refine go_if h (fun hb8 h => ?_) (fun hb8 h => ?_)
        · cases h
        · rw [hb8]
          refine gx mo [.pc p98_40] 20 [(4, (i64 0))] [] 6 [] ?_
          obtain rfl := Option.some.inj h
          exact gf (i64 0) (.same rfl)
/-! cmp.Or[int] -/
def p96_26 : PC := (.seq (.reg (om 17 3 :: om 2 17 :: [])) .ret)
def p96_17 : PC := (.reg (oo 16 (.bin .add .other true (.t 8) (.c (.int .i64 1))) :: om 8 16 :: []))
def p96_10 : PC := .ret
def p96_13 : PC := (.cond (.t 14) (.seq (.reg (om 15 5 :: om 2 15 :: [])) p96_10) .skip)
def p96_18 : PC := (.seq (.block 1 (.seq (.reg (oo 10 (.ia 1 (.t 6) (.t 8)) :: oo 11 (.ld1 (.t 10)) :: om 5 11 :: [])) (.seq (.reg (om 12 5 :: om 13 3 :: oo 14 (.bin .neq .other false (.t 12) (.t 13)) :: [])) p96_13))) p96_17)
def p96_6 : PC := (.cond (.t 9) .skip (.exit 0))
def p96_21 : PC := (.loop (.seq (.reg (oo 9 (.bin .lss .other false (.t 8) (.t 7)) :: [])) (.seq p96_6 p96_18)))
def p96_29 : PC := (.seq (.reg (oo 2 (.mv (.c (.int .i64 0))) :: [])) (.seq (.reg (oo 3 (.mv (.c (.int .i64 0))) :: [])) (.seq (.seq (.reg (om 6 0 :: oo 7 (.len .slice (.t 6)) :: oo 8 (.mv (.c (.int .i64 0))) :: [])) (.block 0 p96_21)) p96_26)))
theorem fn96 : FnOk Tryz.prog 96 p96_29 18 [.t 2] := ⟨false, Tryz.f96, _, Tryz.func96, by decide, rfl, by kernel_rfl, rfl, by kernel_rfl⟩
def L_cmp_Or_int_1 (N : Nat) (a1 : List Int) : Nat → Int → Option (Br (Int) (Unit))
  | 0, _ => none
  | m1 + 1, v1_0 =>
    bif decide (v1_0 < (a1.length : Int)) then
    ((getI a1 v1_0).bind fun y6 =>
    bif !decide (y6 = 0) then
    (some (.ret y6))
    else
    (none))
    else
    (none)
def K_cmp_Or_int_1 (N : Nat)  : Br (Int) (Unit) → Option (Int)
  | .ret r => some r
  | .brk _ =>
    none
def F_cmp_Or_int  (N : Nat) (a1 : List Int) : Option (Int) :=
      (L_cmp_Or_int_1 N a1 N 0).bind (K_cmp_Or_int_1 N)
theorem P_cmp_Or_int  {N : Nat} {a1 : List Int} {r : Int} (h : F_cmp_Or_int N a1 = some r) : Pure Tryz.prog (Gl.at 0) 96 [(.sl (a1.map i64))] (i64 r) := by
  refine pure_run fn96 ?_
  rw [F_cmp_Or_int] at h
  replace h := bs h
  change GG [.t 2] _ [.pc p96_29] (mk 18 [(0, (.sl (a1.map i64)))]) []
  refine gx mo [.pc p96_21, .blk 0, .pc p96_26] 18 [(3, (i64 0)), (6, (.sl (a1.map i64))), (7, (i64 (a1.length : Int))), (8, (i64 0))] [] 16 [tw 3 (E_len [] a1 i64)] ?_
  refine go_loop' (fun m t s => ∃ (v1_0 : Int), (L_cmp_Or_int_1 N a1 m v1_0).bind (fun q => (K_cmp_Or_int_1 N q).bind some) = some r ∧ t = (mk 18 [(3, (i64 0)), (6, (.sl (a1.map i64))), (7, (i64 (a1.length : Int))), (8, (i64 v1_0))]) ∧ s = []) N ⟨0, go_assoc h, rfl, rfl⟩ ?_
  intro m1 J1 hJ1 t s
  rintro ⟨v1_0, h, rfl, rfl⟩
  cases m1 with
  | zero => exact absurd h (by simp [L_cmp_Or_int_1])
  | succ m1 =>
    rw [L_cmp_Or_int_1] at h
    refine gx mo [.pc p96_6, .pc p96_18, .jp J1, .blk 0, .pc p96_26] 18 [(3, (i64 0)), (6, (.sl (a1.map i64))), (7, (i64 (a1.length : Int))), (8, (i64 v1_0)), (9, (.bool (decide (v1_0 < (a1.length : Int)))))] [] 5 [] ?_
    refine go_if h (fun hb5 h => ?_) (fun hb5 h => ?_)
    · rw [hb5]
      refine go_bind h (fun y6 hy6 h => ?_)
      refine gx mo [.pc p96_13, .blk 1, .pc p96_17, .jp J1, .blk 0, .pc p96_26] 18 [(3, (i64 0)), (5, (i64 y6)), (6, (.sl (a1.map i64))), (7, (i64 (a1.length : Int))), (8, (i64 v1_0)), (14, (.bool (!decide (y6 = 0))))] [] 16 [tw 1 (E_ia [] i64 .i64 hy6)] ?_
      refine go_if h (fun hb7 h => ?_) (fun hb7 h => ?_)
      · rw [hb7]
        refine gx mo [.pc p96_10, .blk 1, .pc p96_17, .jp J1, .blk 0, .pc p96_26] 18 [(2, (i64 y6))] [] 6 [] ?_
        obtain rfl := Option.some.inj h
        exact gf (i64 y6) (.same rfl)
      · cases h
    · cases h
/-! corebank/entry.compare -/
def p88_2 : PC := .ret
def p88_4 : PC := (.seq (.reg (oo 2 (.box (.t 0)) :: oo 3 (.box (.t 1)) :: oo 4 (.mv (.c (.int .i64 0))) :: [])) (.seq (.drawn (oo 5 (.fa 0 (.t 2)) :: oo 6 (.ld1 (.t 5)) :: oo 7 (.fa 0 (.t 3)) :: oo 8 (.ld1 (.t 7)) :: ⟨some 9, .call 97 [.t 6, .t 8], none⟩ :: oo 10 (.fa 2 (.t 2)) :: oo 11 (.ld1 (.t 10)) :: oo 12 (.fa 2 (.t 3)) :: oo 13 (.ld1 (.t 12)) :: ⟨some 14, .call 98 [.t 11, .t 13], none⟩ :: oo 15 (.lit (.int .i64 0) 2 [(0, .t 9), (1, .t 14)]) :: ⟨some 16, .call 96 [.t 15], none⟩ :: om 4 16 :: []) [[], [0], [], [2], [1, 3], [], [5], [], [7], [6, 8, 4], [4, 9], [10, 9], [11, 11, 0, 1, 2, 3, 4, 5, 6, 7, 8, 9, 10, 11]]) p88_2))
theorem fn88 : FnOk Tryz.prog 88 p88_4 17 [.t 4] := ⟨false, Tryz.f88, _, Tryz.func88, by decide, rfl, by kernel_rfl, rfl, by kernel_rfl⟩
def F_entry_compare  (N : Nat) (a1 : ApiLeg) (a2 : ApiLeg) : Option (Int) :=
      (F_cmp_Compare_int N a1.Account_ a2.Account_).bind fun r3 =>
    (F_cmp_Compare_string N a1.Currency_ a2.Currency_).bind fun r4 =>
    (F_cmp_Or_int N [r3, r4]).bind fun r5 =>
    some r5
theorem P_entry_compare  {N : Nat} {a1 : ApiLeg} {a2 : ApiLeg} {r : Int} (h : F_entry_compare N a1 a2 = some r) : Pure Tryz.prog (Gl.at 0) 88 [(ApiLeg.v a1), (ApiLeg.v a2)] (i64 r) := by
  refine pure_run fn88 ?_
  rw [F_entry_compare] at h
  replace h := bs h
  change GG [.t 4] _ [.pc p88_4] (mk 17 [(0, (ApiLeg.v a1)), (1, (ApiLeg.v a2))]) []
  refine go_bind h (fun r3 hr3 h => ?_)
  refine go_bind h (fun r4 hr4 h => ?_)
  refine go_bind h (fun r5 hr5 h => ?_)
  refine gx mo [.pc p88_2] 17 [(4, (i64 r5))] [.row 3 [(ApiLeg.v a1)], .row 3 [(ApiLeg.v a2)]] 8 [tgc 7 [.row 3 [(ApiLeg.v a1)], .row 3 [(ApiLeg.v a2)]] (P_cmp_Compare_int hr3) (fs (fs fl_nil)), tgc 12 [.row 3 [(ApiLeg.v a1)], .row 3 [(ApiLeg.v a2)]] (P_cmp_Compare_string hr4) (fs (fs fl_nil)), tgc 14 [.row 3 [(ApiLeg.v a1)], .row 3 [(ApiLeg.v a2)]] (P_cmp_Or_int hr5) (fs fl_nil)] ?_
  obtain rfl := Option.some.inj h
  exact gf (i64 r5) (.same rfl)
end
end Go.TL
