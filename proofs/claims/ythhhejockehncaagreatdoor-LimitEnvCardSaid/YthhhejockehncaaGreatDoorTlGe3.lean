/- The program's functions as Lean's own, with proofs. -/
import Derived.Test.YthhhejockehncaaGreatDoorTlGe2
set_option maxRecDepth 20000
set_option linter.all false
set_option linter.unusedVariables false
namespace Go.TL
open Go Go.Proofs
noncomputable section
open Go.RowKit Go.Lib
/-! corebank/eval.Tree -/
def p91_27 : PC := .ret
def p91_28 : PC := (.seq (.reg (oo 32 (.ldA 4 (.t 3)) :: om 33 1 :: om 34 2 :: ⟨some 35, .call 104 [.t 32, .t 33, .t 34], none⟩ :: oo 36 (.ext 0 (.t 35)) :: oo 37 (.ext 1 (.t 35)) :: on_ (.st 2 (.t 6) (.t 36)) :: om 7 37 :: [])) p91_27)
def p91_24 : PC := (.cond (.t 30) (.seq (.reg (oo 31 (.build [.int .i64 0, .int .i64 0] []) :: on_ (.st 2 (.t 6) (.t 31)) :: oo 7 (.mv (.c (.int .i64 1))) :: [])) .ret) .skip)
def p91_29 : PC := (.seq (.seq (.reg (om 27 1 :: om 28 2 :: ⟨some 29, .call 103 [.t 27, .t 28], none⟩ :: oo 30 (.un .not (.t 29)) :: [])) p91_24) p91_28)
def p91_16 : PC := (.cond (.t 24) (.seq (.reg (oo 25 (.build [.int .i64 0, .int .i64 0] []) :: om 26 10 :: on_ (.st 2 (.t 6) (.t 25)) :: om 7 26 :: [])) .ret) .skip)
def p91_30 : PC := (.seq (.seq (.reg (oo 18 (.ldA 4 (.t 3)) :: om 19 1 :: ⟨some 20, .call 102 [.t 18, .t 19], none⟩ :: om 17 20 :: oo 21 (.ext 0 (.t 17)) :: oo 22 (.ext 1 (.t 17)) :: om 9 21 :: om 10 22 :: [])) (.seq (.reg (om 23 10 :: oo 24 (.bin .neq .other true (.t 23) (.c (.int .i64 0))) :: [])) p91_16)) p91_29)
def p91_7 : PC := (.cond (.t 14) (.seq (.reg (oo 15 (.build [.int .i64 0, .int .i64 0] []) :: om 16 8 :: on_ (.st 2 (.t 6) (.t 15)) :: om 7 16 :: [])) .ret) .skip)
def p91_32 : PC := (.seq (.reg (oo 3 (.box (.t 0)) :: oo 6 (.new (.agg [.int .i64 0, .int .i64 0])) :: oo 7 (.mv (.c (.int .i64 0))) :: [])) (.seq (.seq (.reg (om 11 1 :: ⟨some 12, .call 101 [.t 11], none⟩ :: om 8 12 :: [])) (.seq (.reg (om 13 8 :: oo 14 (.bin .neq .other true (.t 13) (.c (.int .i64 0))) :: [])) p91_7)) p91_30))
theorem fn91 : FnOk Tryz.prog 91 p91_32 38 [.a 6 2, .t 7] := ⟨false, Tryz.f91, _, Tryz.func91, by decide, rfl, by kernel_rfl, rfl, by kernel_rfl⟩
def F_eval_Tree  (N : Nat) (a1 : ApiExpr) (a2 : List ApiVar) (a3 : List ApiValue) : Option (ApiValue × Int) :=
      (F_typing_Vars N a2).bind fun r4 =>
    bif !decide (r4 = 0) then
    (none)
    else
    ((F_typing_Of N a1 a2).bind fun r6 =>
    bif !decide (r6.2 = 0) then
    (none)
    else
    ((F_eval_Valid N a2 a3).bind fun r8 =>
    bif !r8 then
    (none)
    else
    ((F_eval_tree N a1 a2 a3).bind fun r10 =>
    some (r10.1, r10.2))))
theorem P_eval_Tree  {N : Nat} {a1 : ApiExpr} {a2 : List ApiVar} {a3 : List ApiValue} {r : ApiValue × Int} (h : F_eval_Tree N a1 a2 a3 = some r) : Pure Tryz.prog (Gl.at 0) 91 [(ApiExpr.v a1), (.sl (a2.map ApiVar.v)), (.sl (a3.map ApiValue.v))] (.tup [(ApiValue.v r.1), (i64 r.2)]) := by
  refine pure_run fn91 ?_
  rw [F_eval_Tree] at h
  replace h := bs h
  change GG [.a 6 2, .t 7] _ [.pc p91_32] (mk 38 [(0, (ApiExpr.v a1)), (1, (.sl (a2.map ApiVar.v))), (2, (.sl (a3.map ApiValue.v)))]) []
  refine go_bind h (fun r4 hr4 h => ?_)
  refine gx mo [.pc p91_7, .pc p91_30] 38 [(1, (.sl (a2.map ApiVar.v))), (2, (.sl (a3.map ApiValue.v))), (3, (.ref 0 0 0)), (6, (.ref 1 0 0)), (8, (i64 r4)), (14, (.bool (!decide (r4 = 0))))] [.row 4 [(ApiExpr.v a1)], .row 2 [(.agg [(i64 0), (i64 0)])]] 18 [tc 4 [.row 4 [(ApiExpr.v a1)], .row 2 [(.agg [(i64 0), (i64 0)])]] (P_typing_Vars hr4) (fs fl_nil)] ?_
  refine go_if h (fun hb5 h => ?_) (fun hb5 h => ?_)
  · cases h
  · rw [hb5]
    refine go_bind h (fun r6 hr6 h => ?_)
    refine gx mo [.pc p91_16, .pc p91_29] 38 [(1, (.sl (a2.map ApiVar.v))), (2, (.sl (a3.map ApiValue.v))), (3, (.ref 0 0 0)), (6, (.ref 1 0 0)), (10, (i64 r6.2)), (24, (.bool (!decide (r6.2 = 0))))] [.row 4 [(ApiExpr.v a1)], .row 2 [(.agg [(i64 0), (i64 0)])]] 19 [tc 3 [.row 4 [(ApiExpr.v a1)], .row 2 [(.agg [(i64 0), (i64 0)])]] (P_typing_Of hr6) (fg (fs fl_nil))] ?_
    refine go_if h (fun hb7 h => ?_) (fun hb7 h => ?_)
    · cases h
    · rw [hb7]
      refine go_bind h (fun r8 hr8 h => ?_)
      refine gx mo [.pc p91_24, .pc p91_28] 38 [(1, (.sl (a2.map ApiVar.v))), (2, (.sl (a3.map ApiValue.v))), (3, (.ref 0 0 0)), (6, (.ref 1 0 0)), (30, (.bool (!r8)))] [.row 4 [(ApiExpr.v a1)], .row 2 [(.agg [(i64 0), (i64 0)])]] 10 [tc 3 [.row 4 [(ApiExpr.v a1)], .row 2 [(.agg [(i64 0), (i64 0)])]] (P_eval_Valid hr8) (fs (fs fl_nil))] ?_
      refine go_if h (fun hb9 h => ?_) (fun hb9 h => ?_)
      · cases h
      · rw [hb9]
        refine go_bind h (fun r10 hr10 h => ?_)
        refine gx mo [.pc p91_27] 38 [(6, (.ref 1 0 0)), (7, (i64 r10.2))] [.row 4 [(ApiExpr.v a1)], .row 2 [(ApiValue.v r10.1)]] 13 [tc 4 [.row 4 [(ApiExpr.v a1)], .row 2 [(.agg [(i64 0), (i64 0)])]] (P_eval_tree hr10) (fg (fs (fs fl_nil)))] ?_
        obtain rfl := Option.some.inj h
        exact gf (.tup [(ApiValue.v r10.1), (i64 r10.2)]) (f_tupl (fg (fs fl_nil)))
/-! corebank/limit.rules -/
def p78_59 : PC := .ret
def p78_60 : PC := (.seq (.reg (oo 10 (.mv (.c (.int .i64 0))) :: [])) p78_59)
def p78_51 : PC := (.reg (oo 75 (.bin .add .other true (.t 38) (.c (.int .i64 1))) :: om 38 75 :: []))
def p78_40 : PC := .ret
def p78_43 : PC := (.cond (.t 74) (.seq (.reg (oo 10 (.mv (.c (.int .i64 20))) :: [])) p78_40) .skip)
def p78_44 : PC := (.seq (.reg (om 71 17 :: oo 72 (.fa 1 (.t 15)) :: oo 73 (.ld1 (.t 72)) :: oo 74 (.bin .gtr .other false (.t 71) (.t 73)) :: [])) p78_43)
def p78_36 : PC := (.seq (.reg (om 60 19 :: [])) (.cond (.t 60) (.drawn (om 61 17 :: oo 62 (.ldA 22 (.t 5)) :: om 63 2 :: oo 64 (.fa 0 (.t 18)) :: oo 65 (.ld1 (.t 64)) :: om 66 3 :: ⟨some 67, .dyn (.t 65) [.t 66], none⟩ :: om 68 3 :: ⟨some 69, .call 14 [.t 62, .t 63, .t 67, .t 68], none⟩ :: oo 70 (.bin .add .other false (.t 61) (.t 69)) :: om 17 70 :: []) [[], [], [], [], [3], [], [4, 5], [], [1, 2, 6, 7, 6], [0, 8], [9, 8, 0, 1, 2, 3, 4, 5, 6, 7, 8, 9]]) .skip))
def o78_31_2 : List PO := ⟨some 57, .call 93 [.t 56], none⟩ :: om 54 57 :: oo 58 (.ext 0 (.t 54)) :: oo 59 (.ext 1 (.t 54)) :: oo 18 (.new (.agg [.nilf])) :: on_ (.st 1 (.t 18) (.t 58)) :: om 19 59 :: []
def p78_46 : PC := (.seq (.reg (om 53 4 :: om 17 53 :: [])) (.seq (.seq (.reg (oo 55 (.fa 1 (.t 14)) :: oo 56 (.ld1 (.t 55)) :: o78_31_2)) p78_36) p78_44))
def p78_28 : PC := (.cond (.t 51) (.seq (.reg (om 52 16 :: om 10 52 :: [])) .ret) .skip)
def p78_52 : PC := (.seq (.block 1 (.seq (.reg (oo 40 (.ia 6 (.t 36) (.t 38)) :: oo 41 (.ldA 6 (.t 40)) :: oo 14 (.new (.agg [.str [], .int .i64 0, .int .i64 0, .int .i64 0, .str [], .nils])) :: on_ (.st 6 (.t 14) (.t 41)) :: [])) (.seq (.drawn (oo 43 (.fa 2 (.t 14)) :: oo 44 (.ldA 4 (.t 43)) :: ⟨some 45, .call 92 [], none⟩ :: om 46 11 :: ⟨some 47, .call 91 [.t 44, .t 45, .t 46], none⟩ :: om 42 47 :: oo 48 (.ext 0 (.t 42)) :: oo 49 (.ext 1 (.t 42)) :: oo 15 (.new (.agg [.int .i64 0, .int .i64 0])) :: on_ (.st 2 (.t 15) (.t 48)) :: om 16 49 :: []) [[], [0], [], [], [1, 2, 3, 2], [4], [5], [5], [], [8, 6, 4, 0, 1, 2, 3, 4, 5, 6, 8], [7, 9, 0, 1, 2, 3, 4, 5, 6, 7, 8, 9]]) (.seq (.seq (.reg (om 50 16 :: oo 51 (.bin .neq .other true (.t 50) (.c (.int .i64 0))) :: [])) p78_28) p78_46)))) p78_51)
def p78_20 : PC := (.cond (.t 39) .skip (.exit 0))
def p78_55 : PC := (.loop (.seq (.reg (oo 39 (.bin .lss .other false (.t 38) (.t 37)) :: [])) (.seq p78_20 p78_52)))
def p78_61 : PC := (.seq (.seq (.reg (oo 35 (.fa 18 (.t 6)) :: oo 36 (.ld1 (.t 35)) :: oo 37 (.len .slice (.t 36)) :: oo 38 (.mv (.c (.int .i64 0))) :: [])) (.block 0 p78_55)) p78_60)
def p78_14 : PC := (.cond (.t 33) (.seq (.reg (om 34 12 :: om 10 34 :: [])) .ret) .skip)
def p78_63 : PC := (.seq (.reg (oo 25 (.ldA 22 (.t 5)) :: om 26 2 :: om 27 3 :: om 28 4 :: ⟨some 29, .call 7 [.t 25, .t 26, .t 27, .t 28], none⟩ :: om 24 29 :: oo 30 (.ext 0 (.t 24)) :: oo 31 (.ext 1 (.t 24)) :: om 11 30 :: om 12 31 :: [])) (.seq (.seq (.reg (om 32 12 :: oo 33 (.bin .neq .other true (.t 32) (.c (.int .i64 0))) :: [])) p78_14) p78_61))
def p78_6 : PC := (.cond (.t 23) (.seq (.reg (oo 10 (.mv (.c (.int .i64 0))) :: [])) .ret) .skip)
def p78_65 : PC := (.seq (.reg (oo 5 (.box (.t 0)) :: oo 6 (.box (.t 1)) :: oo 10 (.mv (.c (.int .i64 0))) :: [])) (.seq (.seq (.reg (oo 20 (.fa 18 (.t 6)) :: oo 21 (.ld1 (.t 20)) :: oo 22 (.len .slice (.t 21)) :: oo 23 (.bin .eql .other true (.t 22) (.c (.int .i64 0))) :: [])) p78_6) p78_63))
theorem fn78 : FnOk Tryz.prog 78 p78_65 76 [.t 10] := ⟨false, Tryz.f78, _, Tryz.func78, by decide, rfl, by kernel_rfl, rfl, by kernel_rfl⟩
def L_limit_rules_1 (N : Nat) (a2 : ApiProduct) (a5 : Int) (r7 : (List ApiValue) × Int) : Nat → Int → Option (Br (Int) (Unit))
  | 0, _ => none
  | m1 + 1, v1_0 =>
    bif decide (v1_0 < (a2.Rules_.length : Int)) then
    ((getI a2.Rules_ v1_0).bind fun y18 =>
    (F_product_Vars N).bind fun r19 =>
    (F_eval_Tree N y18.Amount_ r19 r7.1).bind fun r20 =>
    bif !decide (r20.2 = 0) then
    (none)
    else
    (bif decide (y18.Window_ = 2) then
    (none)
    else
    (bif decide (y18.Window_ = 3) then
    (none)
    else
    (bif decide (r20.1.N_ < a5) then
    (some (.ret 20))
    else
    ((L_limit_rules_1 N a2 a5 r7 m1) (IntKind.wrap .i64 (v1_0 + 1)))))))
    else
    (some (.brk ()))
def K_limit_rules_1 (N : Nat)  : Br (Int) (Unit) → Option (Int)
  | .ret r => some r
  | .brk _ =>
    some 0
def F_limit_rules  (N : Nat) (a1 : ApiBooks) (a2 : ApiProduct) (a3 : Int) (a4 : Int) (a5 : Int) : Option (Int) :=
      bif decide ((a2.Rules_.length : Int) = 0) then
    (none)
    else
    ((F_limit_Env N a1 a3 a4 a5).bind fun r7 =>
    bif !decide (r7.2 = 0) then
    (none)
    else
    ((L_limit_rules_1 N a2 a5 r7 N 0).bind (K_limit_rules_1 N)))
theorem P_limit_rules  {N : Nat} {a1 : ApiBooks} {a2 : ApiProduct} {a3 : Int} {a4 : Int} {a5 : Int} {r : Int} (h : F_limit_rules N a1 a2 a3 a4 a5 = some r) : Pure Tryz.prog (Gl.at 0) 78 [(ApiBooks.v a1), (ApiProduct.v a2), (i64 a3), (i64 a4), (i64 a5)] (i64 r) := by
  refine pure_run fn78 ?_
  rw [F_limit_rules] at h
  replace h := bs h
  change GG [.t 10] _ [.pc p78_65] (mk 76 [(0, (ApiBooks.v a1)), (1, (ApiProduct.v a2)), (2, (i64 a3)), (3, (i64 a4)), (4, (i64 a5))]) []
  refine gx mo [.pc p78_6, .pc p78_63] 76 [(2, (i64 a3)), (3, (i64 a4)), (4, (i64 a5)), (5, (.ref 0 0 0)), (6, (.ref 1 0 0)), (23, (.bool (decide ((a2.Rules_.length : Int) = 0))))] [.row 22 [(ApiBooks.v a1)], .row 19 [(ApiProduct.v a2)]] 14 [tw 5 (E_len [.row 22 [(ApiBooks.v a1)], .row 19 [(ApiProduct.v a2)]] a2.Rules_ ApiRule.v)] ?_
  refine go_if h (fun hb6 h => ?_) (fun hb6 h => ?_)
  · cases h
  · rw [hb6]
    refine go_bind h (fun r7 hr7 h => ?_)
    refine gx mo [.pc p78_14, .pc p78_61] 76 [(2, (i64 a3)), (3, (i64 a4)), (4, (i64 a5)), (5, (.ref 0 0 0)), (6, (.ref 1 0 0)), (11, (.sl (r7.1.map ApiValue.v))), (12, (i64 r7.2)), (33, (.bool (!decide (r7.2 = 0))))] [.row 22 [(ApiBooks.v a1)], .row 19 [(ApiProduct.v a2)]] 21 [tcc 5 [.row 22 [(ApiBooks.v a1)], .row 19 [(ApiProduct.v a2)]] (P_limit_Env hr7) (fg (fs (fs (fs fl_nil))))] ?_
    refine go_if h (fun hb8 h => ?_) (fun hb8 h => ?_)
    · cases h
    · rw [hb8]
      refine gx mo [.pc p78_55, .blk 0, .pc p78_60] 76 [(2, (i64 a3)), (3, (i64 a4)), (4, (i64 a5)), (5, (.ref 0 0 0)), (11, (.sl (r7.1.map ApiValue.v))), (36, (.sl (a2.Rules_.map ApiRule.v))), (37, (i64 (a2.Rules_.length : Int))), (38, (i64 0))] [.row 22 [(ApiBooks.v a1)], .row 19 [(ApiProduct.v a2)]] 11 [tw 3 (E_len [.row 22 [(ApiBooks.v a1)], .row 19 [(ApiProduct.v a2)]] a2.Rules_ ApiRule.v)] ?_
      refine go_pick [0] [] [(2, 0), (3, 0), (4, 0), (5, 0), (11, 0), (36, 0), (37, 0), (38, 0)] (t' := (mk 76 [(2, (i64 a3)), (3, (i64 a4)), (4, (i64 a5)), (5, (.ref 0 0 0)), (11, (.sl (r7.1.map ApiValue.v))), (36, (.sl (a2.Rules_.map ApiRule.v))), (37, (i64 (a2.Rules_.length : Int))), (38, (i64 0))])) (s' := [.row 22 [(ApiBooks.v a1)]]) (by kernel_rfl) ⟨clo_one rfl, trivial⟩ rfl ?_
      refine go_cut (X := Unit) (fun x => (K_limit_rules_1 N (.brk x)).bind some = some r) ([.pc p78_60]) (fun x => (mk 76 [])) (fun x => []) ?_ fun kont1_0 => ?_
      · rintro _ h
        rw [K_limit_rules_1] at h
        refine gx mo [.pc p78_59] 76 [(10, (i64 0))] [] 4 [] ?_
        obtain rfl := Option.some.inj h
        exact gf (i64 0) (.same rfl)
      refine go_loop' (fun m t s => ∃ (v1_0 : Int), (L_limit_rules_1 N a2 a5 r7 m v1_0).bind (fun q => (K_limit_rules_1 N q).bind some) = some r ∧ t = (mk 76 [(2, (i64 a3)), (3, (i64 a4)), (4, (i64 a5)), (5, (.ref 0 0 0)), (11, (.sl (r7.1.map ApiValue.v))), (36, (.sl (a2.Rules_.map ApiRule.v))), (37, (i64 (a2.Rules_.length : Int))), (38, (i64 v1_0))]) ∧ s = [.row 22 [(ApiBooks.v a1)]]) N ⟨0, go_assoc h, rfl, rfl⟩ ?_
      intro m1 J1 hJ1 t s
      rintro ⟨v1_0, h, rfl, rfl⟩
      cases m1 with
      | zero => exact absurd h (by simp [L_limit_rules_1])
      | succ m1 =>
        rw [L_limit_rules_1] at h
        refine gx mo [.pc p78_20, .pc p78_52, .jp J1, .blk 0, .pc p78_60] 76 [(2, (i64 a3)), (3, (i64 a4)), (4, (i64 a5)), (5, (.ref 0 0 0)), (11, (.sl (r7.1.map ApiValue.v))), (36, (.sl (a2.Rules_.map ApiRule.v))), (37, (i64 (a2.Rules_.length : Int))), (38, (i64 v1_0)), (39, (.bool (decide (v1_0 < (a2.Rules_.length : Int)))))] [.row 22 [(ApiBooks.v a1)]] 5 [] ?_
        refine go_if h (fun hb17 h => ?_) (fun hb17 h => ?_)
        · rw [hb17]
          refine go_bind h (fun y18 hy18 h => ?_)
          refine go_bind h (fun r19 hr19 h => ?_)
          refine go_bind h (fun r20 hr20 h => ?_)
          refine gx mo [.pc p78_28, .pc p78_46, .blk 1, .pc p78_51, .jp J1, .blk 0, .pc p78_60] 76 [(2, (i64 a3)), (3, (i64 a4)), (4, (i64 a5)), (5, (.ref 0 0 0)), (11, (.sl (r7.1.map ApiValue.v))), (14, (.ref 1 0 0)), (15, (.ref 2 0 0)), (16, (i64 r20.2)), (36, (.sl (a2.Rules_.map ApiRule.v))), (37, (i64 (a2.Rules_.length : Int))), (38, (i64 v1_0)), (51, (.bool (!decide (r20.2 = 0))))] [.row 22 [(ApiBooks.v a1)], .row 6 [(ApiRule.v y18)], .row 2 [(ApiValue.v r20.1)]] 19 [tw 1 (E_ia [.row 22 [(ApiBooks.v a1)]] ApiRule.v .i64 hy18), tgcc 7 [.row 22 [(ApiBooks.v a1)], .row 6 [(ApiRule.v y18)]] (P_product_Vars hr19) fl_nil, tgc 9 [.row 22 [(ApiBooks.v a1)], .row 6 [(ApiRule.v y18)]] (P_eval_Tree hr20) (fg (fs (fs fl_nil)))] ?_
          refine go_if h (fun hb21 h => ?_) (fun hb21 h => ?_)
          · cases h
          · rw [hb21]
            refine gx mo [.ops o78_31_2, .pc p78_36, .pc p78_44, .blk 1, .pc p78_51, .jp J1, .blk 0, .pc p78_60] 76 [(2, (i64 a3)), (3, (i64 a4)), (4, (i64 a5)), (5, (.ref 0 0 0)), (11, (.sl (r7.1.map ApiValue.v))), (15, (.ref 2 0 0)), (17, (i64 a5)), (36, (.sl (a2.Rules_.map ApiRule.v))), (37, (i64 (a2.Rules_.length : Int))), (38, (i64 v1_0)), (56, (i64 y18.Window_))] [.row 22 [(ApiBooks.v a1)], .row 6 [(ApiRule.v y18)], .row 2 [(ApiValue.v r20.1)]] 12 [] ?_
            refine go_inl (pc := p93_21) rfl fn93 ?_
            refine gx mo [.pc p93_13, .blk 0, .pc p93_19] 12 [(2, (.ref 3 0 0)), (4, (i64 y18.Window_)), (5, (.bool (decide (y18.Window_ = 2))))] [.row 22 [(ApiBooks.v a1)], .row 6 [(ApiRule.v y18)], .row 2 [(ApiValue.v r20.1)], .row 1 [(.agg [.nilf])]] 16 [] ?_
            refine go_if h (fun hb22 h => ?_) (fun hb22 h => ?_)
            · cases h
            · rw [hb22]
              refine gx mo [.pc p93_11, .blk 0, .pc p93_19] 12 [(2, (.ref 3 0 0)), (8, (.bool (decide (y18.Window_ = 3))))] [.row 22 [(ApiBooks.v a1)], .row 6 [(ApiRule.v y18)], .row 2 [(ApiValue.v r20.1)], .row 1 [(.agg [.nilf])]] 6 [] ?_
              refine go_if h (fun hb23 h => ?_) (fun hb23 h => ?_)
              · cases h
              · rw [hb23]
                refine gx mo [.pc p93_18] 12 [(2, (.ref 3 0 0)), (3, (.bool false))] [.row 22 [(ApiBooks.v a1)], .row 6 [(ApiRule.v y18)], .row 2 [(ApiValue.v r20.1)], .row 1 [(.agg [.nilf])]] 9 [] ?_
                refine go_inret (.tup [(.agg [.nilf]), (.bool false)]) (by kernel_rfl) (noMark_ofB rfl) rfl ?_
                refine gx mo [.pc p78_43, .blk 1, .pc p78_51, .jp J1, .blk 0, .pc p78_60] 76 [(2, (i64 a3)), (3, (i64 a4)), (4, (i64 a5)), (5, (.ref 0 0 0)), (11, (.sl (r7.1.map ApiValue.v))), (36, (.sl (a2.Rules_.map ApiRule.v))), (37, (i64 (a2.Rules_.length : Int))), (38, (i64 v1_0)), (74, (.bool (decide (r20.1.N_ < a5))))] [.row 22 [(ApiBooks.v a1)], .row 6 [(ApiRule.v y18)], .row 2 [(ApiValue.v r20.1)], .row 1 [(.agg [.nilf])], .row 1 [(.agg [.nilf])]] 20 [] ?_
                refine go_if h (fun hb24 h => ?_) (fun hb24 h => ?_)
                · rw [hb24]
                  refine gx mo [.pc p78_40, .blk 1, .pc p78_51, .jp J1, .blk 0, .pc p78_60] 76 [(10, (i64 20))] [.row 22 [(ApiBooks.v a1)], .row 6 [(ApiRule.v y18)], .row 2 [(ApiValue.v r20.1)], .row 1 [(.agg [.nilf])], .row 1 [(.agg [.nilf])]] 5 [] ?_
                  obtain rfl := Option.some.inj h
                  exact gf (i64 20) (.same rfl)
                · rw [hb24]
                  refine gx mo [.jp J1, .blk 0, .pc p78_60] 76 [(2, (i64 a3)), (3, (i64 a4)), (4, (i64 a5)), (5, (.ref 0 0 0)), (11, (.sl (r7.1.map ApiValue.v))), (36, (.sl (a2.Rules_.map ApiRule.v))), (37, (i64 (a2.Rules_.length : Int))), (38, (i64 (IntKind.wrap .i64 (v1_0 + 1))))] [.row 22 [(ApiBooks.v a1)], .row 6 [(ApiRule.v y18)], .row 2 [(ApiValue.v r20.1)], .row 1 [(.agg [.nilf])], .row 1 [(.agg [.nilf])]] 7 [] ?_
                  refine go_pick [0] [] [(2, 0), (3, 0), (4, 0), (5, 0), (11, 0), (36, 0), (37, 0), (38, 0)] (t' := (mk 76 [(2, (i64 a3)), (3, (i64 a4)), (4, (i64 a5)), (5, (.ref 0 0 0)), (11, (.sl (r7.1.map ApiValue.v))), (36, (.sl (a2.Rules_.map ApiRule.v))), (37, (i64 (a2.Rules_.length : Int))), (38, (i64 (IntKind.wrap .i64 (v1_0 + 1))))])) (s' := [.row 22 [(ApiBooks.v a1)]]) (by kernel_rfl) ⟨clo_one rfl, trivial⟩ rfl ?_
                  exact go_back rfl (hJ1 m1 _ _ (Nat.lt_succ_self m1) ⟨IntKind.wrap .i64 (v1_0 + 1), h, rfl, rfl⟩)
        · rw [hb17]
          refine gx mo [.pc p78_60] 76 [] [.row 22 [(ApiBooks.v a1)]] 2 [] ?_
          refine go_pick [] [] [] (t' := (mk 76 [])) (s' := []) (by kernel_rfl) trivial rfl ?_
          exact kont1_0 () h
/-! corebank/limit.debit -/
def p55_18 : PC := .ret
def p55_20 : PC := (.seq (.reg (oo 29 (.ldA 22 (.t 4)) :: om 30 1 :: om 31 2 :: ⟨some 32, .call 43 [.t 29, .t 30, .t 31], none⟩ :: om 28 32 :: oo 33 (.ext 0 (.t 28)) :: oo 34 (.ext 1 (.t 28)) :: oo 11 (.new (.agg [.str [], .str [], .str [], .int .i64 0, .int .i64 0, .int .i64 0, .int .i64 0, .nils, .bool false, .int .i64 0, .int .i64 0, .bool false, .nils, .bool false, .int .i64 0, .int .i64 0, .bool false, .nils, .nils])) :: on_ (.st 19 (.t 11) (.t 33)) :: om 12 34 :: [])) (.seq (.reg (oo 35 (.ldA 22 (.t 4)) :: oo 36 (.ldA 19 (.t 11)) :: om 37 1 :: om 38 2 :: om 39 3 :: ⟨some 40, .call 78 [.t 35, .t 36, .t 37, .t 38, .t 39], none⟩ :: om 8 40 :: [])) p55_18))
def p55_8 : PC := .ret
def p55_11 : PC := (.cond (.t 24) (.seq (.reg (oo 8 (.mv (.c (.int .i64 18))) :: [])) p55_8) .skip)
def p55_13 : PC := (.cond (.t 20) (.seq (.reg (om 23 10 :: om 8 23 :: [])) .ret) (.seq (.reg (om 25 3 :: om 26 9 :: oo 27 (.bin .gtr .other false (.t 25) (.t 26)) :: om 24 27 :: [])) p55_11))
def p55_23 : PC := (.seq (.reg (oo 4 (.box (.t 0)) :: oo 8 (.mv (.c (.int .i64 0))) :: [])) (.seq (.reg (oo 14 (.ldA 22 (.t 4)) :: om 15 1 :: om 16 2 :: ⟨some 17, .call 12 [.t 14, .t 15, .t 16], none⟩ :: om 13 17 :: oo 18 (.ext 0 (.t 13)) :: oo 19 (.ext 1 (.t 13)) :: om 9 18 :: om 10 19 :: [])) (.seq (.block 0 (.seq (.reg (om 21 10 :: oo 22 (.bin .neq .other true (.t 21) (.c (.int .i64 0))) :: om 20 22 :: [])) p55_13)) p55_20)))
theorem fn55 : FnOk Tryz.prog 55 p55_23 41 [.t 8] := ⟨false, Tryz.f55, _, Tryz.func55, by decide, rfl, by kernel_rfl, rfl, by kernel_rfl⟩
def F_limit_debit  (N : Nat) (a1 : ApiBooks) (a2 : Int) (a3 : Int) (a4 : Int) : Option (Int) :=
      (F_limit_Available N a1 a2 a3).bind fun r5 =>
    bif !decide (r5.2 = 0) then
    (none)
    else
    (bif decide (r5.1 < a4) then
    (some 18)
    else
    ((F_account_Product N a1 a2 a3).bind fun r8 =>
    (F_limit_rules N a1 r8.1 a2 a3 a4).bind fun r9 =>
    some r9))
theorem P_limit_debit  {N : Nat} {a1 : ApiBooks} {a2 : Int} {a3 : Int} {a4 : Int} {r : Int} (h : F_limit_debit N a1 a2 a3 a4 = some r) : Pure Tryz.prog (Gl.at 0) 55 [(ApiBooks.v a1), (i64 a2), (i64 a3), (i64 a4)] (i64 r) := by
  refine pure_run fn55 ?_
  rw [F_limit_debit] at h
  replace h := bs h
  change GG [.t 8] _ [.pc p55_23] (mk 41 [(0, (ApiBooks.v a1)), (1, (i64 a2)), (2, (i64 a3)), (3, (i64 a4))]) []
  refine go_bind h (fun r5 hr5 h => ?_)
  refine gx mo [.pc p55_13, .blk 0, .pc p55_20] 41 [(1, (i64 a2)), (2, (i64 a3)), (3, (i64 a4)), (4, (.ref 0 0 0)), (9, (i64 r5.1)), (10, (i64 r5.2)), (20, (.bool (!decide (r5.2 = 0))))] [.row 22 [(ApiBooks.v a1)]] 25 [tc 5 [.row 22 [(ApiBooks.v a1)]] (P_limit_Available hr5) (fg (fs (fs fl_nil)))] ?_
  refine go_if h (fun hb6 h => ?_) (fun hb6 h => ?_)
  · cases h
  · rw [hb6]
    refine gx mo [.pc p55_11, .blk 0, .pc p55_20] 41 [(1, (i64 a2)), (2, (i64 a3)), (3, (i64 a4)), (4, (.ref 0 0 0)), (24, (.bool (decide (r5.1 < a4))))] [.row 22 [(ApiBooks.v a1)]] 8 [] ?_
    refine go_if h (fun hb7 h => ?_) (fun hb7 h => ?_)
    · rw [hb7]
      refine gx mo [.pc p55_8, .blk 0, .pc p55_20] 41 [(8, (i64 18))] [.row 22 [(ApiBooks.v a1)]] 5 [] ?_
      obtain rfl := Option.some.inj h
      exact gf (i64 18) (.same rfl)
    · rw [hb7]
      refine go_bind h (fun r8 hr8 h => ?_)
      refine go_bind h (fun r9 hr9 h => ?_)
      refine gx mo [.pc p55_18] 41 [(8, (i64 r9))] [.row 22 [(ApiBooks.v a1)], .row 19 [(ApiProduct.v r8.1)]] 26 [tcc 4 [.row 22 [(ApiBooks.v a1)]] (P_account_Product hr8) (fg (fs (fs fl_nil))), tc 16 [.row 22 [(ApiBooks.v a1)], .row 19 [(ApiProduct.v r8.1)]] (P_limit_rules hr9) (fg (fg (fs (fs (fs fl_nil)))))] ?_
      obtain rfl := Option.some.inj h
      exact gf (i64 r9) (.same rfl)
/-! corebank/limit.Allowed -/
def p20_64 : PC := .ret
def p20_65 : PC := (.seq (.reg (oo 4 (.mv (.c (.int .i64 0))) :: [])) p20_64)
def p20_56 : PC := (.reg (oo 67 (.bin .add .other true (.t 17) (.c (.int .i64 1))) :: om 17 67 :: []))
def p20_36 : PC := .ret
def p20_39 : PC := (.cond (.t 65) (.seq (.reg (om 66 9 :: om 4 66 :: [])) p20_36) .skip)
def p20_43 : PC := (.cond (.t 52) (.seq (.reg (oo 56 (.ldA 22 (.t 2)) :: oo 57 (.fa 0 (.t 6)) :: oo 58 (.ld1 (.t 57)) :: oo 59 (.fa 1 (.t 3)) :: oo 60 (.ld1 (.t 59)) :: oo 61 (.fa 1 (.t 6)) :: oo 62 (.ld1 (.t 61)) :: ⟨some 63, .call 55 [.t 56, .t 58, .t 60, .t 62], none⟩ :: om 9 63 :: [])) (.seq (.reg (om 64 9 :: oo 65 (.bin .neq .other true (.t 64) (.c (.int .i64 0))) :: [])) p20_39)) .skip)
def p20_30 : PC := .ret
def p20_45 : PC := (.cond (.t 42) (.seq (.reg (oo 4 (.mv (.c (.int .i64 19))) :: [])) p20_30) (.seq (.reg (oo 53 (.fa 1 (.t 6)) :: oo 54 (.ld1 (.t 53)) :: oo 55 (.bin .gtr .other true (.t 54) (.c (.int .i64 0))) :: om 52 55 :: [])) p20_43))
def p20_47 : PC := (.cond (.t 34) (.seq (.reg (oo 4 (.mv (.c (.int .i64 16))) :: [])) .ret) (.seq (.reg (oo 43 (.fa 21 (.t 2)) :: oo 44 (.ld1 (.t 43)) :: oo 45 (.fa 0 (.t 6)) :: oo 46 (.ld1 (.t 45)) :: oo 47 (.fa 1 (.t 3)) :: oo 48 (.ld1 (.t 47)) :: oo 49 (.fa 1 (.t 6)) :: oo 50 (.ld1 (.t 49)) :: ⟨some 51, .call 54 [.t 44, .t 46, .t 48, .t 50], none⟩ :: om 42 51 :: [])) p20_45))
def p20_49 : PC := (.cond (.t 31) (.seq (.reg (oo 4 (.mv (.c (.int .i64 11))) :: [])) .ret) (.seq (.reg (oo 35 (.ldA 22 (.t 2)) :: oo 36 (.fa 0 (.t 6)) :: oo 37 (.ld1 (.t 36)) :: oo 38 (.fa 1 (.t 3)) :: oo 39 (.ld1 (.t 38)) :: ⟨some 40, .call 24 [.t 35, .t 37, .t 39], none⟩ :: oo 41 (.un .not (.t 40)) :: om 34 41 :: [])) p20_47))
def p20_52 : PC := (.seq (.reg (oo 25 (.ldA 22 (.t 2)) :: oo 26 (.fa 0 (.t 6)) :: oo 27 (.ld1 (.t 26)) :: ⟨some 28, .call 22 [.t 25, .t 27], none⟩ :: om 24 28 :: oo 29 (.ext 0 (.t 24)) :: oo 30 (.ext 1 (.t 24)) :: oo 7 (.new (.agg [.int .i64 0, .int .i64 0, .int .i64 0, .int .i64 0, .str [], .str [], .str []])) :: on_ (.st 7 (.t 7) (.t 29)) :: om 8 30 :: [])) (.block 2 (.seq (.reg (om 32 8 :: oo 33 (.un .not (.t 32)) :: om 31 33 :: [])) p20_49)))
def p20_17 : PC := (.cond (.t 23) (.exit 1) .skip)
def p20_57 : PC := (.seq (.block 1 (.seq (.reg (oo 19 (.ia 3 (.t 15) (.t 17)) :: oo 20 (.ldA 3 (.t 19)) :: oo 6 (.new (.agg [.int .i64 0, .int .i64 0, .str []])) :: on_ (.st 3 (.t 6) (.t 20)) :: [])) (.seq (.seq (.reg (oo 21 (.fa 0 (.t 6)) :: oo 22 (.ld1 (.t 21)) :: oo 23 (.bin .lss .other true (.t 22) (.c (.int .i64 1000))) :: [])) p20_17) p20_52))) p20_56)
def p20_12 : PC := (.cond (.t 18) .skip (.exit 0))
def p20_60 : PC := (.loop (.seq (.reg (oo 18 (.bin .lss .other false (.t 17) (.t 16)) :: [])) (.seq p20_12 p20_57)))
def p20_66 : PC := (.seq (.seq (.reg (oo 13 (.fa 8 (.t 3)) :: oo 14 (.ld1 (.t 13)) :: ⟨some 15, .call 53 [.t 14], none⟩ :: oo 16 (.len .slice (.t 15)) :: oo 17 (.mv (.c (.int .i64 0))) :: [])) (.block 0 p20_60)) p20_65)
def p20_6 : PC := (.cond (.t 12) (.seq (.reg (oo 4 (.mv (.c (.int .i64 0))) :: [])) .ret) .skip)
def p20_68 : PC := (.seq (.reg (oo 2 (.box (.t 0)) :: oo 3 (.box (.t 1)) :: oo 4 (.mv (.c (.int .i64 0))) :: [])) (.seq (.seq (.reg (oo 10 (.fa 4 (.t 3)) :: oo 11 (.ld1 (.t 10)) :: oo 12 (.bin .neq .other true (.t 11) (.c (.int .i64 0))) :: [])) p20_6) p20_66))
theorem fn20 : FnOk Tryz.prog 20 p20_68 68 [.t 4] := ⟨false, Tryz.f20, _, Tryz.func20, by decide, rfl, by kernel_rfl, rfl, by kernel_rfl⟩
def L_limit_Allowed_1 (N : Nat) (a1 : ApiBooks) (a2 : ApiEntry) (r4 : (List ApiLeg)) : Nat → Int → Option (Br (Int) (Unit))
  | 0, _ => none
  | m1 + 1, v1_0 =>
    bif decide (v1_0 < (r4.length : Int)) then
    ((getI r4 v1_0).bind fun y18 =>
    bif decide (y18.Account_ < 1000) then
    ((L_limit_Allowed_1 N a1 a2 r4 m1) (IntKind.wrap .i64 (v1_0 + 1)))
    else
    ((F_account_Find N a1 y18.Account_).bind fun r20 =>
    bif !r20.2 then
    (none)
    else
    ((F_account_Active N a1 y18.Account_ a2.Booked_).bind fun r22 =>
    bif !r22 then
    (none)
    else
    ((F_blocking_Denies N a1.Blocks_ y18.Account_ a2.Booked_ y18.Amount_).bind fun r24 =>
    bif r24 then
    (some (.ret 19))
    else
    (bif decide (0 < y18.Amount_) then
    ((F_limit_debit N a1 y18.Account_ a2.Booked_ y18.Amount_).bind fun r27 =>
    bif !decide (r27 = 0) then
    (some (.ret r27))
    else
    ((L_limit_Allowed_1 N a1 a2 r4 m1) (IntKind.wrap .i64 (v1_0 + 1))))
    else
    ((L_limit_Allowed_1 N a1 a2 r4 m1) (IntKind.wrap .i64 (v1_0 + 1))))))))
    else
    (some (.brk ()))
def K_limit_Allowed_1 (N : Nat)  : Br (Int) (Unit) → Option (Int)
  | .ret r => some r
  | .brk _ =>
    some 0
def F_limit_Allowed  (N : Nat) (a1 : ApiBooks) (a2 : ApiEntry) : Option (Int) :=
      bif !decide (a2.Auth_ = 0) then
    (none)
    else
    ((F_entry_Net N a2.Legs_).bind fun r4 =>
    (L_limit_Allowed_1 N a1 a2 r4 N 0).bind (K_limit_Allowed_1 N))
theorem P_limit_Allowed  {N : Nat} {a1 : ApiBooks} {a2 : ApiEntry} {r : Int} (h : F_limit_Allowed N a1 a2 = some r) : Pure Tryz.prog (Gl.at 0) 20 [(ApiBooks.v a1), (ApiEntry.v a2)] (i64 r) := by
  refine pure_run fn20 ?_
  rw [F_limit_Allowed] at h
  replace h := bs h
  change GG [.t 4] _ [.pc p20_68] (mk 68 [(0, (ApiBooks.v a1)), (1, (ApiEntry.v a2))]) []
  refine gx mo [.pc p20_6, .pc p20_66] 68 [(2, (.ref 0 0 0)), (3, (.ref 1 0 0)), (12, (.bool (!decide (a2.Auth_ = 0))))] [.row 22 [(ApiBooks.v a1)], .row 10 [(ApiEntry.v a2)]] 13 [] ?_
  refine go_if h (fun hb3 h => ?_) (fun hb3 h => ?_)
  · cases h
  · rw [hb3]
    refine go_bind h (fun r4 hr4 h => ?_)
    refine gx mo [.pc p20_60, .blk 0, .pc p20_65] 68 [(2, (.ref 0 0 0)), (3, (.ref 1 0 0)), (15, (.sl (r4.map ApiLeg.v))), (16, (i64 (r4.length : Int))), (17, (i64 0))] [.row 22 [(ApiBooks.v a1)], .row 10 [(ApiEntry.v a2)]] 12 [tcc 3 [.row 22 [(ApiBooks.v a1)], .row 10 [(ApiEntry.v a2)]] (P_entry_Net hr4) (fs fl_nil), tw 4 (E_len [.row 22 [(ApiBooks.v a1)], .row 10 [(ApiEntry.v a2)]] r4 ApiLeg.v)] ?_
    refine go_cut (X := Unit) (fun x => (K_limit_Allowed_1 N (.brk x)).bind some = some r) ([.pc p20_65]) (fun x => (mk 68 [])) (fun x => []) ?_ fun kont1_0 => ?_
    · rintro _ h
      rw [K_limit_Allowed_1] at h
      refine gx mo [.pc p20_64] 68 [(4, (i64 0))] [] 4 [] ?_
      obtain rfl := Option.some.inj h
      exact gf (i64 0) (.same rfl)
    refine go_loop' (fun m t s => ∃ (v1_0 : Int), (L_limit_Allowed_1 N a1 a2 r4 m v1_0).bind (fun q => (K_limit_Allowed_1 N q).bind some) = some r ∧ t = (mk 68 [(2, (.ref 0 0 0)), (3, (.ref 1 0 0)), (15, (.sl (r4.map ApiLeg.v))), (16, (i64 (r4.length : Int))), (17, (i64 v1_0))]) ∧ s = [.row 22 [(ApiBooks.v a1)], .row 10 [(ApiEntry.v a2)]]) N ⟨0, go_assoc h, rfl, rfl⟩ ?_
    intro m1 J1 hJ1 t s
    rintro ⟨v1_0, h, rfl, rfl⟩
    cases m1 with
    | zero => exact absurd h (by simp [L_limit_Allowed_1])
    | succ m1 =>
      rw [L_limit_Allowed_1] at h
      refine gx mo [.pc p20_12, .pc p20_57, .jp J1, .blk 0, .pc p20_65] 68 [(2, (.ref 0 0 0)), (3, (.ref 1 0 0)), (15, (.sl (r4.map ApiLeg.v))), (16, (i64 (r4.length : Int))), (17, (i64 v1_0)), (18, (.bool (decide (v1_0 < (r4.length : Int)))))] [.row 22 [(ApiBooks.v a1)], .row 10 [(ApiEntry.v a2)]] 5 [] ?_
      refine go_if h (fun hb17 h => ?_) (fun hb17 h => ?_)
      · rw [hb17]
        refine go_bind h (fun y18 hy18 h => ?_)
        refine gx mo [.pc p20_17, .pc p20_52, .blk 1, .pc p20_56, .jp J1, .blk 0, .pc p20_65] 68 [(2, (.ref 0 0 0)), (3, (.ref 1 0 0)), (6, (.ref 2 0 0)), (15, (.sl (r4.map ApiLeg.v))), (16, (i64 (r4.length : Int))), (17, (i64 v1_0)), (23, (.bool (decide (y18.Account_ < 1000))))] [.row 22 [(ApiBooks.v a1)], .row 10 [(ApiEntry.v a2)], .row 3 [(ApiLeg.v y18)]] 18 [tw 1 (E_ia [.row 22 [(ApiBooks.v a1)], .row 10 [(ApiEntry.v a2)]] ApiLeg.v .i64 hy18)] ?_
        refine go_if h (fun hb19 h => ?_) (fun hb19 h => ?_)
        · rw [hb19]
          refine gx mo [.jp J1, .blk 0, .pc p20_65] 68 [(2, (.ref 0 0 0)), (3, (.ref 1 0 0)), (15, (.sl (r4.map ApiLeg.v))), (16, (i64 (r4.length : Int))), (17, (i64 (IntKind.wrap .i64 (v1_0 + 1))))] [.row 22 [(ApiBooks.v a1)], .row 10 [(ApiEntry.v a2)], .row 3 [(ApiLeg.v y18)]] 6 [] ?_
          refine go_pick [0, 1] [] [(2, 0), (3, 0), (15, 0), (16, 0), (17, 0)] (t' := (mk 68 [(2, (.ref 0 0 0)), (3, (.ref 1 0 0)), (15, (.sl (r4.map ApiLeg.v))), (16, (i64 (r4.length : Int))), (17, (i64 (IntKind.wrap .i64 (v1_0 + 1))))])) (s' := [.row 22 [(ApiBooks.v a1)], .row 10 [(ApiEntry.v a2)]]) (by kernel_rfl) ⟨clo_one rfl, ⟨clo_one rfl, trivial⟩⟩ rfl ?_
          exact go_back rfl (hJ1 m1 _ _ (Nat.lt_succ_self m1) ⟨IntKind.wrap .i64 (v1_0 + 1), h, rfl, rfl⟩)
        · rw [hb19]
          refine go_bind h (fun r20 hr20 h => ?_)
          refine gx mo [.pc p20_49, .blk 2, .blk 1, .pc p20_56, .jp J1, .blk 0, .pc p20_65] 68 [(2, (.ref 0 0 0)), (3, (.ref 1 0 0)), (6, (.ref 2 0 0)), (15, (.sl (r4.map ApiLeg.v))), (16, (i64 (r4.length : Int))), (17, (i64 v1_0)), (31, (.bool (!r20.2)))] [.row 22 [(ApiBooks.v a1)], .row 10 [(ApiEntry.v a2)], .row 3 [(ApiLeg.v y18)], .row 7 [(ApiAccount.v r20.1)]] 22 [tc 4 [.row 22 [(ApiBooks.v a1)], .row 10 [(ApiEntry.v a2)], .row 3 [(ApiLeg.v y18)]] (P_account_Find hr20) (fg (fs fl_nil))] ?_
          refine go_if h (fun hb21 h => ?_) (fun hb21 h => ?_)
          · cases h
          · rw [hb21]
            refine go_bind h (fun r22 hr22 h => ?_)
            refine gx mo [.pc p20_47, .blk 2, .blk 1, .pc p20_56, .jp J1, .blk 0, .pc p20_65] 68 [(2, (.ref 0 0 0)), (3, (.ref 1 0 0)), (6, (.ref 2 0 0)), (15, (.sl (r4.map ApiLeg.v))), (16, (i64 (r4.length : Int))), (17, (i64 v1_0)), (34, (.bool (!r22)))] [.row 22 [(ApiBooks.v a1)], .row 10 [(ApiEntry.v a2)], .row 3 [(ApiLeg.v y18)], .row 7 [(ApiAccount.v r20.1)]] 12 [tc 6 [.row 22 [(ApiBooks.v a1)], .row 10 [(ApiEntry.v a2)], .row 3 [(ApiLeg.v y18)], .row 7 [(ApiAccount.v r20.1)]] (P_account_Active hr22) (fg (fs (fs fl_nil)))] ?_
            refine go_if h (fun hb23 h => ?_) (fun hb23 h => ?_)
            · cases h
            · rw [hb23]
              refine go_bind h (fun r24 hr24 h => ?_)
              refine gx mo [.pc p20_45, .blk 2, .blk 1, .pc p20_56, .jp J1, .blk 0, .pc p20_65] 68 [(2, (.ref 0 0 0)), (3, (.ref 1 0 0)), (6, (.ref 2 0 0)), (15, (.sl (r4.map ApiLeg.v))), (16, (i64 (r4.length : Int))), (17, (i64 v1_0)), (42, (.bool r24))] [.row 22 [(ApiBooks.v a1)], .row 10 [(ApiEntry.v a2)], .row 3 [(ApiLeg.v y18)], .row 7 [(ApiAccount.v r20.1)]] 14 [tc 9 [.row 22 [(ApiBooks.v a1)], .row 10 [(ApiEntry.v a2)], .row 3 [(ApiLeg.v y18)], .row 7 [(ApiAccount.v r20.1)]] (P_blocking_Denies hr24) (fs (fs (fs (fs fl_nil))))] ?_
              refine go_if h (fun hb25 h => ?_) (fun hb25 h => ?_)
              · rw [hb25]
                refine gx mo [.pc p20_30, .blk 2, .blk 1, .pc p20_56, .jp J1, .blk 0, .pc p20_65] 68 [(4, (i64 19))] [.row 22 [(ApiBooks.v a1)], .row 10 [(ApiEntry.v a2)], .row 3 [(ApiLeg.v y18)], .row 7 [(ApiAccount.v r20.1)]] 5 [] ?_
                obtain rfl := Option.some.inj h
                exact gf (i64 19) (.same rfl)
              · rw [hb25]
                refine gx mo [.pc p20_43, .blk 2, .blk 1, .pc p20_56, .jp J1, .blk 0, .pc p20_65] 68 [(2, (.ref 0 0 0)), (3, (.ref 1 0 0)), (6, (.ref 2 0 0)), (15, (.sl (r4.map ApiLeg.v))), (16, (i64 (r4.length : Int))), (17, (i64 v1_0)), (52, (.bool (decide (0 < y18.Amount_))))] [.row 22 [(ApiBooks.v a1)], .row 10 [(ApiEntry.v a2)], .row 3 [(ApiLeg.v y18)], .row 7 [(ApiAccount.v r20.1)]] 8 [] ?_
                refine go_if h (fun hb26 h => ?_) (fun hb26 h => ?_)
                · rw [hb26]
                  refine go_bind h (fun r27 hr27 h => ?_)
                  refine gx mo [.pc p20_39, .blk 2, .blk 1, .pc p20_56, .jp J1, .blk 0, .pc p20_65] 68 [(2, (.ref 0 0 0)), (3, (.ref 1 0 0)), (9, (i64 r27)), (15, (.sl (r4.map ApiLeg.v))), (16, (i64 (r4.length : Int))), (17, (i64 v1_0)), (65, (.bool (!decide (r27 = 0))))] [.row 22 [(ApiBooks.v a1)], .row 10 [(ApiEntry.v a2)], .row 3 [(ApiLeg.v y18)], .row 7 [(ApiAccount.v r20.1)]] 18 [tc 8 [.row 22 [(ApiBooks.v a1)], .row 10 [(ApiEntry.v a2)], .row 3 [(ApiLeg.v y18)], .row 7 [(ApiAccount.v r20.1)]] (P_limit_debit hr27) (fg (fs (fs (fs fl_nil))))] ?_
                  refine go_if h (fun hb28 h => ?_) (fun hb28 h => ?_)
                  · rw [hb28]
                    refine gx mo [.pc p20_36, .blk 2, .blk 1, .pc p20_56, .jp J1, .blk 0, .pc p20_65] 68 [(4, (i64 r27))] [.row 22 [(ApiBooks.v a1)], .row 10 [(ApiEntry.v a2)], .row 3 [(ApiLeg.v y18)], .row 7 [(ApiAccount.v r20.1)]] 6 [] ?_
                    obtain rfl := Option.some.inj h
                    exact gf (i64 r27) (.same rfl)
                  · rw [hb28]
                    refine gx mo [.jp J1, .blk 0, .pc p20_65] 68 [(2, (.ref 0 0 0)), (3, (.ref 1 0 0)), (15, (.sl (r4.map ApiLeg.v))), (16, (i64 (r4.length : Int))), (17, (i64 (IntKind.wrap .i64 (v1_0 + 1))))] [.row 22 [(ApiBooks.v a1)], .row 10 [(ApiEntry.v a2)], .row 3 [(ApiLeg.v y18)], .row 7 [(ApiAccount.v r20.1)]] 8 [] ?_
                    refine go_pick [0, 1] [] [(2, 0), (3, 0), (15, 0), (16, 0), (17, 0)] (t' := (mk 68 [(2, (.ref 0 0 0)), (3, (.ref 1 0 0)), (15, (.sl (r4.map ApiLeg.v))), (16, (i64 (r4.length : Int))), (17, (i64 (IntKind.wrap .i64 (v1_0 + 1))))])) (s' := [.row 22 [(ApiBooks.v a1)], .row 10 [(ApiEntry.v a2)]]) (by kernel_rfl) ⟨clo_one rfl, ⟨clo_one rfl, trivial⟩⟩ rfl ?_
                    exact go_back rfl (hJ1 m1 _ _ (Nat.lt_succ_self m1) ⟨IntKind.wrap .i64 (v1_0 + 1), h, rfl, rfl⟩)
                · rw [hb26]
                  refine gx mo [.jp J1, .blk 0, .pc p20_65] 68 [(2, (.ref 0 0 0)), (3, (.ref 1 0 0)), (15, (.sl (r4.map ApiLeg.v))), (16, (i64 (r4.length : Int))), (17, (i64 (IntKind.wrap .i64 (v1_0 + 1))))] [.row 22 [(ApiBooks.v a1)], .row 10 [(ApiEntry.v a2)], .row 3 [(ApiLeg.v y18)], .row 7 [(ApiAccount.v r20.1)]] 8 [] ?_
                  refine go_pick [0, 1] [] [(2, 0), (3, 0), (15, 0), (16, 0), (17, 0)] (t' := (mk 68 [(2, (.ref 0 0 0)), (3, (.ref 1 0 0)), (15, (.sl (r4.map ApiLeg.v))), (16, (i64 (r4.length : Int))), (17, (i64 (IntKind.wrap .i64 (v1_0 + 1))))])) (s' := [.row 22 [(ApiBooks.v a1)], .row 10 [(ApiEntry.v a2)]]) (by kernel_rfl) ⟨clo_one rfl, ⟨clo_one rfl, trivial⟩⟩ rfl ?_
                  exact go_back rfl (hJ1 m1 _ _ (Nat.lt_succ_self m1) ⟨IntKind.wrap .i64 (v1_0 + 1), h, rfl, rfl⟩)
      · rw [hb17]
        refine gx mo [.pc p20_65] 68 [] [.row 22 [(ApiBooks.v a1)], .row 10 [(ApiEntry.v a2)]] 2 [] ?_
        refine go_pick [] [] [] (t' := (mk 68 [])) (s' := []) (by kernel_rfl) trivial rfl ?_
        exact kont1_0 () h
/-! corebank/limit.counts -/
def p49_24 : PC := .ret
def p49_25 : PC := (.seq (.reg (oo 2 (.mv (.c (.bool false))) :: [])) p49_24)
def p49_19 : PC := (.cond (.t 5) (.seq (.reg (oo 10 (.fa 4 (.t 1)) :: oo 11 (.ld1 (.t 10)) :: oo 12 (.bin .eql .other true (.t 11) (.c (.int .i64 0))) :: om 2 12 :: [])) .ret) .skip)
def p49_9 : PC := (.cond (.t 5) .skip (.reg (oo 9 (.bin .eql .other true (.t 4) (.c (.int .i64 14))) :: om 5 9 :: [])))
def p49_11 : PC := (.cond (.t 5) .skip (.seq (.reg (oo 8 (.bin .eql .other true (.t 4) (.c (.int .i64 9))) :: om 5 8 :: [])) p49_9))
def p49_13 : PC := (.cond (.t 5) .skip (.seq (.reg (oo 7 (.bin .eql .other true (.t 4) (.c (.int .i64 3))) :: om 5 7 :: [])) p49_11))
def p49_27 : PC := (.seq (.reg (oo 1 (.box (.t 0)) :: oo 2 (.mv (.c (.bool false))) :: [])) (.seq (.seq (.reg (oo 3 (.fa 3 (.t 1)) :: oo 4 (.ld1 (.t 3)) :: [])) (.block 0 (.seq (.seq (.reg (oo 6 (.bin .eql .other true (.t 4) (.c (.int .i64 2))) :: om 5 6 :: [])) p49_13) p49_19))) p49_25))
theorem fn49 : FnOk Tryz.prog 49 p49_27 13 [.t 2] := ⟨false, Tryz.f49, _, Tryz.func49, by decide, rfl, by kernel_rfl, rfl, by kernel_rfl⟩
def F_limit_counts  (N : Nat) (a1 : ApiEntry) : Option (Bool) :=
      bif decide (a1.Kind_ = 2) then
    (none)
    else
    (bif decide (a1.Kind_ = 3) then
    (none)
    else
    (bif decide (a1.Kind_ = 9) then
    (none)
    else
    (bif decide (a1.Kind_ = 14) then
    (none)
    else
    (some false))))
theorem P_limit_counts  {N : Nat} {a1 : ApiEntry} {r : Bool} (h : F_limit_counts N a1 = some r) : Pure Tryz.prog (Gl.at 0) 49 [(ApiEntry.v a1)] (.bool r) := by
  refine pure_run fn49 ?_
  rw [F_limit_counts] at h
  replace h := bs h
  change GG [.t 2] _ [.pc p49_27] (mk 13 [(0, (ApiEntry.v a1))]) []
  refine gx mo [.pc p49_13, .pc p49_19, .blk 0, .pc p49_25] 13 [(1, (.ref 0 0 0)), (4, (i64 a1.Kind_)), (5, (.bool (decide (a1.Kind_ = 2))))] [.row 10 [(ApiEntry.v a1)]] 18 [] ?_
  refine go_if h (fun hb2 h => ?_) (fun hb2 h => ?_)
  · cases h
  · rw [hb2]
    refine gx mo [.pc p49_11, .pc p49_19, .blk 0, .pc p49_25] 13 [(1, (.ref 0 0 0)), (4, (i64 a1.Kind_)), (5, (.bool (decide (a1.Kind_ = 3))))] [.row 10 [(ApiEntry.v a1)]] 6 [] ?_
    refine go_if h (fun hb3 h => ?_) (fun hb3 h => ?_)
    · cases h
    · rw [hb3]
      refine gx mo [.pc p49_9, .pc p49_19, .blk 0, .pc p49_25] 13 [(1, (.ref 0 0 0)), (4, (i64 a1.Kind_)), (5, (.bool (decide (a1.Kind_ = 9))))] [.row 10 [(ApiEntry.v a1)]] 6 [] ?_
      refine go_if h (fun hb4 h => ?_) (fun hb4 h => ?_)
      · cases h
      · rw [hb4]
        refine gx mo [.pc p49_19, .blk 0, .pc p49_25] 13 [(1, (.ref 0 0 0)), (5, (.bool (decide (a1.Kind_ = 14))))] [.row 10 [(ApiEntry.v a1)]] 5 [] ?_
        refine go_if h (fun hb5 h => ?_) (fun hb5 h => ?_)
        · cases h
        · rw [hb5]
          refine gx mo [.pc p49_24] 13 [(2, (.bool false))] [.row 10 [(ApiEntry.v a1)]] 7 [] ?_
          obtain rfl := Option.some.inj h
          exact gf (.bool false) (.same rfl)
/-! corebank/limit.Spent -/
def p14_48 : PC := .ret
def p14_49 : PC := (.seq (.reg (om 58 9 :: om 8 58 :: [])) p14_48)
def p14_41 : PC := (.seq (.block 1 (.seq (.reg (oo 20 (.ia 10 (.t 16) (.t 18)) :: oo 21 (.ldA 10 (.t 20)) :: oo 11 (.new (.agg [.int .i64 0, .int .i64 0, .int .i64 0, .int .i64 0, .int .i64 0, .int .i64 0, .str [], .str [], .nils, .int .u64 0])) :: on_ (.st 10 (.t 11) (.t 21)) :: [])) (.seq (.seq (.reg (oo 22 (.ldA 10 (.t 11)) :: ⟨some 23, .call 49 [.t 22], none⟩ :: oo 24 (.un .not (.t 23)) :: om 25 24 :: ⟨some 26, .op (.fa 1 (.t 11)), some (25, false)⟩ :: ⟨some 27, .op (.ld1 (.t 26)), some (25, false)⟩ :: ⟨some 28, .op (.mv (.t 2)), some (25, false)⟩ :: ⟨some 29, .op (.bin .lss .other false (.t 27) (.t 28)), some (25, false)⟩ :: oo 30 (.pick (.t 25) (.c (.bool true)) (.t 29)) :: om 31 30 :: ⟨some 32, .op (.fa 1 (.t 11)), some (31, false)⟩ :: ⟨some 33, .op (.ld1 (.t 32)), some (31, false)⟩ :: ⟨some 34, .op (.mv (.t 3)), some (31, false)⟩ :: ⟨some 35, .op (.bin .gtr .other false (.t 33) (.t 34)), some (31, false)⟩ :: oo 36 (.pick (.t 31) (.c (.bool true)) (.t 35)) :: [])) (.cond (.t 36) (.exit 1) .skip)) (.seq (.reg (oo 12 (.mv (.c (.int .i64 0))) :: [])) (.seq (.seq (.reg (oo 37 (.fa 8 (.t 11)) :: oo 38 (.ld1 (.t 37)) :: oo 39 (.len .slice (.t 38)) :: oo 40 (.mv (.c (.int .i64 0))) :: [])) (.block 2 (.loop (.seq (.reg (oo 41 (.bin .lss .other false (.t 40) (.t 39)) :: [])) (.seq (.cond (.t 41) .skip (.exit 2)) (.seq (.block 3 (.seq (.reg (oo 42 (.ia 3 (.t 38) (.t 40)) :: oo 43 (.ldA 3 (.t 42)) :: oo 14 (.new (.agg [.int .i64 0, .int .i64 0, .str []])) :: on_ (.st 3 (.t 14) (.t 43)) :: [])) (.seq (.reg (oo 44 (.fa 0 (.t 14)) :: oo 45 (.ld1 (.t 44)) :: om 46 1 :: oo 47 (.bin .eql .other false (.t 45) (.t 46)) :: [])) (.cond (.t 47) (.reg (om 48 12 :: oo 49 (.fa 1 (.t 14)) :: oo 50 (.ld1 (.t 49)) :: oo 51 (.bin .add .other false (.t 48) (.t 50)) :: om 12 51 :: [])) .skip)))) (.reg (oo 52 (.bin .add .other true (.t 40) (.c (.int .i64 1))) :: om 40 52 :: [])))))))) (.reg (om 53 9 :: om 54 12 :: oo 55 (.max [.c (.int .i64 0), .t 54]) :: oo 56 (.bin .add .other false (.t 53) (.t 55)) :: om 9 56 :: []))))))) (.reg (oo 57 (.bin .add .other true (.t 18) (.c (.int .i64 1))) :: om 18 57 :: [])))
def p14_6 : PC := (.cond (.t 19) .skip (.exit 0))
def p14_44 : PC := (.loop (.seq (.reg (oo 19 (.bin .lss .other false (.t 18) (.t 17)) :: [])) (.seq p14_6 p14_41)))
def p14_52 : PC := (.seq (.reg (oo 4 (.box (.t 0)) :: oo 8 (.mv (.c (.int .i64 0))) :: [])) (.seq (.reg (oo 9 (.mv (.c (.int .i64 0))) :: [])) (.seq (.seq (.reg (oo 15 (.fa 19 (.t 4)) :: oo 16 (.ld1 (.t 15)) :: oo 17 (.len .slice (.t 16)) :: oo 18 (.mv (.c (.int .i64 0))) :: [])) (.block 0 p14_44)) p14_49)))
theorem fn14 : FnOk Tryz.prog 14 p14_52 59 [.t 8] := ⟨false, Tryz.f14, _, Tryz.func14, by decide, rfl, by kernel_rfl, rfl, by kernel_rfl⟩
def L_limit_Spent_1 (N : Nat) (a1 : ApiBooks) : Nat → Int → Int → Option (Int)
  | 0, _, _ => none
  | m1 + 1, v1_0, v1_1 =>
    bif decide (v1_1 < (a1.Journal_.length : Int)) then
    ((getI a1.Journal_ v1_1).bind fun y10 =>
    (F_limit_counts N y10).bind fun r11 =>
    bif !r11 then
    ((L_limit_Spent_1 N a1 m1) v1_0 (IntKind.wrap .i64 (v1_1 + 1)))
    else
    (none))
    else
    (some v1_0)
def K_limit_Spent_1 (N : Nat)  : (Int) → Option (Int)
  | x1_0 =>
    some x1_0
def F_limit_Spent  (N : Nat) (a1 : ApiBooks) (a2 : Int) (a3 : Int) (a4 : Int) : Option (Int) :=
      (L_limit_Spent_1 N a1 N 0 0).bind (K_limit_Spent_1 N)
theorem P_limit_Spent  {N : Nat} {a1 : ApiBooks} {a2 : Int} {a3 : Int} {a4 : Int} {r : Int} (h : F_limit_Spent N a1 a2 a3 a4 = some r) : Pure Tryz.prog (Gl.at 0) 14 [(ApiBooks.v a1), (i64 a2), (i64 a3), (i64 a4)] (i64 r) := by
  refine pure_run fn14 ?_
  rw [F_limit_Spent] at h
  replace h := bs h
  change GG [.t 8] _ [.pc p14_52] (mk 59 [(0, (ApiBooks.v a1)), (1, (i64 a2)), (2, (i64 a3)), (3, (i64 a4))]) []
  refine gx mo [.pc p14_44, .blk 0, .pc p14_49] 59 [(1, (i64 a2)), (2, (i64 a3)), (3, (i64 a4)), (9, (i64 0)), (16, (.sl (a1.Journal_.map ApiEntry.v))), (17, (i64 (a1.Journal_.length : Int))), (18, (i64 0))] [.row 22 [(ApiBooks.v a1)]] 18 [tw 5 (E_len [.row 22 [(ApiBooks.v a1)]] a1.Journal_ ApiEntry.v)] ?_
  refine go_pick [] [] [(1, 0), (2, 0), (3, 0), (9, 0), (16, 0), (17, 0), (18, 0)] (t' := (mk 59 [(1, (i64 a2)), (2, (i64 a3)), (3, (i64 a4)), (9, (i64 0)), (16, (.sl (a1.Journal_.map ApiEntry.v))), (17, (i64 (a1.Journal_.length : Int))), (18, (i64 0))])) (s' := []) (by kernel_rfl) trivial rfl ?_
  refine go_cut (X := Int) (fun x => (K_limit_Spent_1 N x).bind some = some r) ([.pc p14_49]) (fun x => (mk 59 [(9, (i64 x))])) (fun x => []) ?_ fun kont1_0 => ?_
  · rintro x1_0 h
    rw [K_limit_Spent_1] at h
    refine gx mo [.pc p14_48] 59 [(8, (i64 x1_0))] [] 5 [] ?_
    obtain rfl := Option.some.inj h
    exact gf (i64 x1_0) (.same rfl)
  refine go_loop' (fun m t s => ∃ (v1_0 : Int) (v1_1 : Int), (L_limit_Spent_1 N a1 m v1_0 v1_1).bind (fun q => (K_limit_Spent_1 N q).bind some) = some r ∧ t = (mk 59 [(1, (i64 a2)), (2, (i64 a3)), (3, (i64 a4)), (9, (i64 v1_0)), (16, (.sl (a1.Journal_.map ApiEntry.v))), (17, (i64 (a1.Journal_.length : Int))), (18, (i64 v1_1))]) ∧ s = []) N ⟨0, 0, go_assoc h, rfl, rfl⟩ ?_
  intro m1 J1 hJ1 t s
  rintro ⟨v1_0, v1_1, h, rfl, rfl⟩
  cases m1 with
  | zero => exact absurd h (by simp [L_limit_Spent_1])
  | succ m1 =>
    rw [L_limit_Spent_1] at h
    refine gx mo [.pc p14_6, .pc p14_41, .jp J1, .blk 0, .pc p14_49] 59 [(1, (i64 a2)), (2, (i64 a3)), (3, (i64 a4)), (9, (i64 v1_0)), (16, (.sl (a1.Journal_.map ApiEntry.v))), (17, (i64 (a1.Journal_.length : Int))), (18, (i64 v1_1)), (19, (.bool (decide (v1_1 < (a1.Journal_.length : Int)))))] [] 5 [] ?_
    refine go_if h (fun hb9 h => ?_) (fun hb9 h => ?_)
    · rw [hb9]
      refine go_bind h (fun y10 hy10 h => ?_)
      refine go_bind h (fun r11 hr11 h => ?_)
      refine go_if h (fun hb12 h => ?_) (fun hb12 h => ?_)
      · refine gx mo [.jp J1, .blk 0, .pc p14_49] 59 [(1, (i64 a2)), (2, (i64 a3)), (3, (i64 a4)), (9, (i64 v1_0)), (16, (.sl (a1.Journal_.map ApiEntry.v))), (17, (i64 (a1.Journal_.length : Int))), (18, (i64 (IntKind.wrap .i64 (v1_1 + 1))))] [.row 10 [(ApiEntry.v y10)]] 36 [tw 1 (E_ia [] ApiEntry.v .i64 hy10), tc 6 [.row 10 [(ApiEntry.v y10)]] (P_limit_counts hr11) (fg fl_nil), twb 7 [.row 10 [(ApiEntry.v y10)]] (.un .not (.c (.bool r11))) (!r11) true hb12] ?_
        refine go_pick [] [] [(1, 0), (2, 0), (3, 0), (9, 0), (16, 0), (17, 0), (18, 0)] (t' := (mk 59 [(1, (i64 a2)), (2, (i64 a3)), (3, (i64 a4)), (9, (i64 v1_0)), (16, (.sl (a1.Journal_.map ApiEntry.v))), (17, (i64 (a1.Journal_.length : Int))), (18, (i64 (IntKind.wrap .i64 (v1_1 + 1))))])) (s' := []) (by kernel_rfl) trivial rfl ?_
        exact go_back rfl (hJ1 m1 _ _ (Nat.lt_succ_self m1) ⟨v1_0, IntKind.wrap .i64 (v1_1 + 1), h, rfl, rfl⟩)
      · cases h
    · rw [hb9]
      refine gx mo [.pc p14_49] 59 [(9, (i64 v1_0))] [] 2 [] ?_
      exact kont1_0 v1_0 h
/-! corebank/corebanklaw25.live -/
def p6_16 : PC := .ret
def p6_19 : PC := (.seq (.reg (⟨some 95, .call 19 [], none⟩ :: oo 10 (.new (.agg [.nils, .nils, .nils, .int .i64 0, .int .i64 0, .int .i64 0, .int .i64 0, .int .i64 0, .int .i64 0, .int .i64 0, .int .i64 0, .int .i64 0, .int .i64 0, .int .i64 0, .int .i64 0, .int .i64 0, .int .i64 0, .nils, .nils, .nils, .nils, .nils])) :: on_ (.st 22 (.t 10) (.t 95)) :: [])) (.seq (.reg (oo 96 (.build [.int .i64 0, .int .i64 0, .int .i64 0, .int .i64 0, .int .i64 0, .int .i64 0, .str []] [(0, 1, .c (.int .i64 1)), (1, 1, .c (.int .i64 1000)), (2, 1, .c (.int .i64 2)), (4, 1, .c (.int .i64 0)), (5, 1, .c (.int .i64 10)), (6, 1, .c (.str [99, 111, 117, 114, 116]))]) :: oo 97 (.lit (.agg [.int .i64 0, .int .i64 0, .int .i64 0, .int .i64 0, .int .i64 0, .int .i64 0, .str []]) 1 [(0, .t 96)]) :: oo 98 (.fa 21 (.t 10)) :: on_ (.st 1 (.t 98) (.t 97)) :: [])) (.seq (.drawn (om 99 4 :: oo 100 (.bin .eql .other true (.t 99) (.c (.int .i64 (-500)))) :: om 101 100 :: ⟨some 102, .op (.mv (.t 5)), some (101, true)⟩ :: ⟨some 103, .op (.bin .eql .other true (.t 102) (.c (.int .i64 0))), some (101, true)⟩ :: oo 104 (.pick (.t 101) (.t 103) (.c (.bool false))) :: om 105 104 :: ⟨some 106, .op (.mv (.t 6)), some (105, true)⟩ :: ⟨some 107, .op (.bin .eql .other true (.t 106) (.c (.int .i64 700))), some (105, true)⟩ :: oo 108 (.pick (.t 105) (.t 107) (.c (.bool false))) :: om 109 108 :: ⟨some 110, .op (.mv (.t 7)), some (109, true)⟩ :: ⟨some 111, .op (.bin .eql .other true (.t 110) (.c (.int .i64 0))), some (109, true)⟩ :: oo 112 (.pick (.t 109) (.t 111) (.c (.bool false))) :: om 113 112 :: ⟨some 114, .op (.mv (.t 8)), some (113, true)⟩ :: ⟨some 115, .op (.bin .eql .other true (.t 114) (.c (.int .i64 800))), some (113, true)⟩ :: oo 116 (.pick (.t 113) (.t 115) (.c (.bool false))) :: om 117 116 :: ⟨some 118, .op (.mv (.t 9)), some (117, true)⟩ :: ⟨some 119, .op (.bin .eql .other true (.t 118) (.c (.int .i64 0))), some (117, true)⟩ :: oo 120 (.pick (.t 117) (.t 119) (.c (.bool false))) :: om 121 120 :: ⟨some 122, .op (.ldA 22 (.t 1)), some (121, true)⟩ :: ⟨some 123, .call 21 [.c (.int .i64 600)], some (121, true)⟩ :: ⟨some 124, .call 20 [.t 122, .t 123], some (121, true)⟩ :: ⟨some 125, .op (.bin .eql .other true (.t 124) (.c (.int .i64 0))), some (121, true)⟩ :: oo 126 (.pick (.t 121) (.t 125) (.c (.bool false))) :: om 127 126 :: ⟨some 128, .op (.ldA 22 (.t 1)), some (127, true)⟩ :: ⟨some 129, .call 21 [.c (.int .i64 601)], some (127, true)⟩ :: ⟨some 130, .call 20 [.t 128, .t 129], some (127, true)⟩ :: ⟨some 131, .op (.bin .eql .other true (.t 130) (.c (.int .i64 20))), some (127, true)⟩ :: oo 132 (.pick (.t 127) (.t 131) (.c (.bool false))) :: om 133 132 :: ⟨some 134, .op (.ldA 22 (.t 1)), some (133, true)⟩ :: ⟨some 135, .call 21 [.c (.int .i64 701)], some (133, true)⟩ :: ⟨some 136, .call 20 [.t 134, .t 135], some (133, true)⟩ :: ⟨some 137, .op (.bin .eql .other true (.t 136) (.c (.int .i64 18))), some (133, true)⟩ :: oo 138 (.pick (.t 133) (.t 137) (.c (.bool false))) :: om 139 138 :: ⟨some 140, .op (.ldA 22 (.t 10)), some (139, true)⟩ :: ⟨some 141, .call 21 [.c (.int .i64 1)], some (139, true)⟩ :: ⟨some 142, .call 20 [.t 140, .t 141], some (139, true)⟩ :: ⟨some 143, .op (.bin .eql .other true (.t 142) (.c (.int .i64 19))), some (139, true)⟩ :: oo 144 (.pick (.t 139) (.t 143) (.c (.bool false))) :: om 145 144 :: ⟨some 146, .op (.ldA 22 (.t 10)), some (145, true)⟩ :: ⟨some 147, .call 21 [.c (.int .i64 (-1))], some (145, true)⟩ :: ⟨some 148, .call 20 [.t 146, .t 147], some (145, true)⟩ :: ⟨some 149, .op (.bin .eql .other true (.t 148) (.c (.int .i64 0))), some (145, true)⟩ :: oo 150 (.pick (.t 145) (.t 149) (.c (.bool false))) :: om 151 150 :: ⟨some 152, .op (.ldA 22 (.t 1)), some (151, true)⟩ :: ⟨some 153, .call 14 [.t 152, .c (.int .i64 1000), .c (.int .i64 0), .c (.int .i64 10)], some (151, true)⟩ :: ⟨some 154, .op (.bin .eql .other true (.t 153) (.c (.int .i64 0))), some (151, true)⟩ :: oo 155 (.pick (.t 151) (.t 154) (.c (.bool false))) :: om 0 155 :: []) [[], [0], [1], [2], [3, 2], [2, 4], [5, 2], [6], [7, 6], [6, 8], [9, 6], [10], [11, 10], [10, 12], [13, 10], [14], [15, 14], [14, 16], [17, 14], [18], [19, 18], [18, 20], [21, 18], [22], [22, 22], [23, 24, 24, 22], [25, 22], [22, 26], [27, 25], [28], [28, 28], [29, 30, 30, 28], [31, 28], [28, 32], [33, 31], [34], [34, 34], [35, 36, 36, 34], [37, 34], [34, 38], [39, 37], [40], [40, 40], [41, 42, 42, 40], [43, 40], [40, 44], [45, 43], [46], [46, 46], [47, 48, 48, 46], [49, 46], [46, 50], [51, 49], [52], [53, 52, 52], [54, 52], [52, 55], [56, 54, 0, 1, 2, 3, 4, 5, 6, 7, 8, 9, 10, 11, 12, 13, 14, 15, 16, 17, 18, 19, 20, 21, 22, 23, 24, 25, 26, 27, 28, 29, 30, 31, 32, 33, 34, 35, 36, 37, 38, 39, 40, 41, 42, 43, 44, 45, 46, 47, 48, 49, 50, 51, 52, 53, 54, 55, 56]]) p6_16)))
def p6_11 : PC := (.cond (.t 94) (.seq (.reg (oo 0 (.mv (.c (.bool false))) :: [])) .ret) .skip)
def p6_26 : PC := (.seq (.reg (oo 0 (.mv (.c (.bool false))) :: [])) (.seq (.reg (⟨some 11, .call 19 [], none⟩ :: oo 1 (.new (.agg [.nils, .nils, .nils, .int .i64 0, .int .i64 0, .int .i64 0, .int .i64 0, .int .i64 0, .int .i64 0, .int .i64 0, .int .i64 0, .int .i64 0, .int .i64 0, .int .i64 0, .int .i64 0, .int .i64 0, .int .i64 0, .nils, .nils, .nils, .nils, .nils])) :: on_ (.st 22 (.t 1) (.t 11)) :: [])) (.seq (.reg (oo 13 (.ldA 22 (.t 1)) :: ⟨some 14, .call 7 [.t 13, .c (.int .i64 1000), .c (.int .i64 10), .c (.int .i64 7)], none⟩ :: om 12 14 :: oo 15 (.ext 0 (.t 12)) :: oo 16 (.ext 1 (.t 12)) :: om 2 15 :: om 3 16 :: [])) (.seq (.reg (oo 18 (.ldA 22 (.t 1)) :: ⟨some 19, .call 10 [.t 18, .c (.int .i64 1000), .c (.int .i64 10)], none⟩ :: om 17 19 :: oo 20 (.ext 0 (.t 17)) :: oo 21 (.ext 1 (.t 17)) :: om 4 20 :: om 5 21 :: [])) (.seq (.reg (oo 23 (.ldA 22 (.t 1)) :: ⟨some 24, .call 12 [.t 23, .c (.int .i64 1000), .c (.int .i64 10)], none⟩ :: om 22 24 :: oo 25 (.ext 0 (.t 22)) :: oo 26 (.ext 1 (.t 22)) :: om 6 25 :: om 7 26 :: [])) (.seq (.reg (oo 28 (.ldA 22 (.t 1)) :: ⟨some 29, .call 12 [.t 28, .c (.int .i64 1000), .c (.int .i64 11)], none⟩ :: om 27 29 :: oo 30 (.ext 0 (.t 27)) :: oo 31 (.ext 1 (.t 27)) :: om 8 30 :: om 9 31 :: [])) (.seq (.seq (.reg (om 32 3 :: oo 33 (.bin .neq .other true (.t 32) (.c (.int .i64 0))) :: om 34 33 :: ⟨some 35, .op (.mv (.t 2)), some (34, false)⟩ :: ⟨some 36, .op (.len .slice (.t 35)), some (34, false)⟩ :: ⟨some 37, .op (.bin .neq .other true (.t 36) (.c (.int .i64 7))), some (34, false)⟩ :: oo 38 (.pick (.t 34) (.c (.bool true)) (.t 37)) :: om 39 38 :: ⟨some 40, .op (.mv (.t 2)), some (39, false)⟩ :: ⟨some 41, .op (.ia 2 (.t 40) (.c (.int .i64 0))), some (39, false)⟩ :: ⟨some 42, .op (.fa 1 (.t 41)), some (39, false)⟩ :: ⟨some 43, .op (.ld1 (.t 42)), some (39, false)⟩ :: ⟨some 44, .op (.bin .neq .other true (.t 43) (.c (.int .i64 300))), some (39, false)⟩ :: oo 45 (.pick (.t 39) (.c (.bool true)) (.t 44)) :: om 46 45 :: ⟨some 47, .op (.mv (.t 2)), some (46, false)⟩ :: ⟨some 48, .op (.ia 2 (.t 47) (.c (.int .i64 1))), some (46, false)⟩ :: ⟨some 49, .op (.fa 1 (.t 48)), some (46, false)⟩ :: ⟨some 50, .op (.ld1 (.t 49)), some (46, false)⟩ :: ⟨some 51, .op (.bin .neq .other true (.t 50) (.c (.int .i64 0))), some (46, false)⟩ :: oo 52 (.pick (.t 46) (.c (.bool true)) (.t 51)) :: om 53 52 :: ⟨some 54, .op (.mv (.t 2)), some (53, false)⟩ :: ⟨some 55, .op (.ia 2 (.t 54) (.c (.int .i64 2))), some (53, false)⟩ :: ⟨some 56, .op (.fa 1 (.t 55)), some (53, false)⟩ :: ⟨some 57, .op (.ld1 (.t 56)), some (53, false)⟩ :: ⟨some 58, .op (.bin .neq .other true (.t 57) (.c (.int .i64 0))), some (53, false)⟩ :: oo 59 (.pick (.t 53) (.c (.bool true)) (.t 58)) :: om 60 59 :: ⟨some 61, .op (.mv (.t 2)), some (60, false)⟩ :: ⟨some 62, .op (.ia 2 (.t 61) (.c (.int .i64 3))), some (60, false)⟩ :: ⟨some 63, .op (.fa 1 (.t 62)), some (60, false)⟩ :: ⟨some 64, .op (.ld1 (.t 63)), some (60, false)⟩ :: ⟨some 65, .op (.bin .neq .other true (.t 64) (.c (.int .i64 7))), some (60, false)⟩ :: oo 66 (.pick (.t 60) (.c (.bool true)) (.t 65)) :: om 67 66 :: ⟨some 68, .op (.mv (.t 2)), some (67, false)⟩ :: ⟨some 69, .op (.ia 2 (.t 68) (.c (.int .i64 4))), some (67, false)⟩ :: ⟨some 70, .op (.fa 1 (.t 69)), some (67, false)⟩ :: ⟨some 71, .op (.ld1 (.t 70)), some (67, false)⟩ :: ⟨some 72, .op (.bin .neq .other true (.t 71) (.c (.int .i64 1))), some (67, false)⟩ :: oo 73 (.pick (.t 67) (.c (.bool true)) (.t 72)) :: om 74 73 :: ⟨some 75, .op (.mv (.t 2)), some (74, false)⟩ :: ⟨some 76, .op (.ia 2 (.t 75) (.c (.int .i64 5))), some (74, false)⟩ :: ⟨some 77, .op (.fa 1 (.t 76)), some (74, false)⟩ :: ⟨some 78, .op (.ld1 (.t 77)), some (74, false)⟩ :: ⟨some 79, .op (.bin .neq .other true (.t 78) (.c (.int .i64 5))), some (74, false)⟩ :: oo 80 (.pick (.t 74) (.c (.bool true)) (.t 79)) :: om 81 80 :: ⟨some 82, .op (.mv (.t 2)), some (81, false)⟩ :: ⟨some 83, .op (.ia 2 (.t 82) (.c (.int .i64 6))), some (81, false)⟩ :: ⟨some 84, .op (.fa 1 (.t 83)), some (81, false)⟩ :: ⟨some 85, .op (.ld1 (.t 84)), some (81, false)⟩ :: ⟨some 86, .op (.bin .neq .other true (.t 85) (.c (.int .i64 10))), some (81, false)⟩ :: oo 87 (.pick (.t 81) (.c (.bool true)) (.t 86)) :: om 88 87 :: ⟨some 89, .op (.mv (.t 2)), some (88, false)⟩ :: ⟨some 90, .op (.ia 2 (.t 89) (.c (.int .i64 6))), some (88, false)⟩ :: ⟨some 91, .op (.fa 0 (.t 90)), some (88, false)⟩ :: ⟨some 92, .op (.ld1 (.t 91)), some (88, false)⟩ :: ⟨some 93, .op (.bin .neq .other true (.t 92) (.c (.int .i64 4))), some (88, false)⟩ :: oo 94 (.pick (.t 88) (.c (.bool true)) (.t 93)) :: [])) p6_11) p6_19)))))))
theorem fn6 : FnOk Tryz.prog 6 p6_26 156 [.t 0] := ⟨false, Tryz.f6, _, Tryz.func6, by decide, rfl, by kernel_rfl, rfl, by kernel_rfl⟩
def F_law25_live  (N : Nat)  : Option (Bool) :=
      (F_law25_books N).bind fun r1 =>
    (F_limit_Env N r1 1000 10 7).bind fun r2 =>
    (F_limit_Floor N r1 1000 10).bind fun r3 =>
    (F_limit_Available N r1 1000 10).bind fun r4 =>
    (F_limit_Available N r1 1000 11).bind fun r5 =>
    bif !decide (r2.2 = 0) then
    (none)
    else
    (bif !decide ((r2.1.length : Int) = 7) then
    (none)
    else
    ((getI r2.1 0).bind fun y8 =>
    bif !decide (y8.N_ = 300) then
    (none)
    else
    ((getI r2.1 1).bind fun y10 =>
    bif !decide (y10.N_ = 0) then
    (none)
    else
    ((getI r2.1 2).bind fun y12 =>
    bif !decide (y12.N_ = 0) then
    (none)
    else
    ((getI r2.1 3).bind fun y14 =>
    bif !decide (y14.N_ = 7) then
    (none)
    else
    ((getI r2.1 4).bind fun y16 =>
    bif !decide (y16.N_ = 1) then
    (none)
    else
    ((getI r2.1 5).bind fun y18 =>
    bif !decide (y18.N_ = 5) then
    (none)
    else
    ((getI r2.1 6).bind fun y20 =>
    bif !decide (y20.N_ = 10) then
    (none)
    else
    ((getI r2.1 6).bind fun y22 =>
    bif !decide (y22.Type_ = 4) then
    (none)
    else
    ((F_law25_books N).bind fun r24 =>
    bif decide (r3.1 = (-500)) then
    (bif decide (r3.2 = 0) then
    (bif decide (r4.1 = 700) then
    (bif decide (r4.2 = 0) then
    (bif decide (r5.1 = 800) then
    (bif decide (r5.2 = 0) then
    ((F_law25_moved N 600).bind fun r31 =>
    (F_limit_Allowed N r1 r31).bind fun r32 =>
    bif decide (r32 = 0) then
    ((F_law25_moved N 601).bind fun r34 =>
    (F_limit_Allowed N r1 r34).bind fun r35 =>
    bif decide (r35 = 20) then
    ((F_law25_moved N 701).bind fun r37 =>
    (F_limit_Allowed N r1 r37).bind fun r38 =>
    bif decide (r38 = 18) then
    ((F_law25_moved N 1).bind fun r40 =>
    (F_limit_Allowed N (⟨r24.Currencies_, r24.Calendars_, r24.Chart_, r24.Plan_, r24.Products_, r24.Accounts_, r24.Journal_, r24.Holds_, [(⟨1, 1000, 2, 0, 0, 10, [99, 111, 117, 114, 116]⟩ : ApiBlock)]⟩ : ApiBooks) r40).bind fun r41 =>
    bif decide (r41 = 19) then
    ((F_law25_moved N (-1)).bind fun r43 =>
    (F_limit_Allowed N (⟨r24.Currencies_, r24.Calendars_, r24.Chart_, r24.Plan_, r24.Products_, r24.Accounts_, r24.Journal_, r24.Holds_, [(⟨1, 1000, 2, 0, 0, 10, [99, 111, 117, 114, 116]⟩ : ApiBlock)]⟩ : ApiBooks) r43).bind fun r44 =>
    bif decide (r44 = 0) then
    ((F_limit_Spent N r1 1000 0 10).bind fun r46 =>
    some (decide (r46 = 0)))
    else
    (none))
    else
    (none))
    else
    (none))
    else
    (none))
    else
    (none))
    else
    (none))
    else
    (none))
    else
    (none))
    else
    (none))
    else
    (none))
    else
    (none)))))))))))
theorem P_law25_live  {N : Nat}  {r : Bool} (h : F_law25_live N  = some r) : Pure Tryz.prog (Gl.at 0) 6 [] (.bool r) := by
  refine pure_run fn6 ?_
  rw [F_law25_live] at h
  replace h := bs h
  change GG [.t 0] _ [.pc p6_26] (mk 156 []) []
  refine go_bind h (fun r1 hr1 h => ?_)
  refine go_bind h (fun r2 hr2 h => ?_)
  refine go_bind h (fun r3 hr3 h => ?_)
  refine go_bind h (fun r4 hr4 h => ?_)
  refine go_bind h (fun r5 hr5 h => ?_)
  refine go_if h (fun hb6 h => ?_) (fun hb6 h => ?_)
  · cases h
  · refine go_if h (fun hb7 h => ?_) (fun hb7 h => ?_)
    · cases h
    · refine go_bind h (fun y8 hy8 h => ?_)
      refine go_if h (fun hb9 h => ?_) (fun hb9 h => ?_)
      · cases h
      · refine go_bind h (fun y10 hy10 h => ?_)
        refine go_if h (fun hb11 h => ?_) (fun hb11 h => ?_)
        · cases h
        · refine go_bind h (fun y12 hy12 h => ?_)
          refine go_if h (fun hb13 h => ?_) (fun hb13 h => ?_)
          · cases h
          · refine go_bind h (fun y14 hy14 h => ?_)
            refine go_if h (fun hb15 h => ?_) (fun hb15 h => ?_)
            · cases h
            · refine go_bind h (fun y16 hy16 h => ?_)
              refine go_if h (fun hb17 h => ?_) (fun hb17 h => ?_)
              · cases h
              · refine go_bind h (fun y18 hy18 h => ?_)
                refine go_if h (fun hb19 h => ?_) (fun hb19 h => ?_)
                · cases h
                · refine go_bind h (fun y20 hy20 h => ?_)
                  refine go_if h (fun hb21 h => ?_) (fun hb21 h => ?_)
                  · cases h
                  · refine go_bind h (fun y22 hy22 h => ?_)
                    refine gx mo [.pc p6_11, .pc p6_19] 156 [(1, (.ref 0 0 0)), (4, (i64 r3.1)), (5, (i64 r3.2)), (6, (i64 r4.1)), (7, (i64 r4.2)), (8, (i64 r5.1)), (9, (i64 r5.2)), (94, (.bool (!decide (y22.Type_ = 4))))] [.row 22 [(ApiBooks.v r1)]] 117 [tcc 1 [] (P_law25_books hr1) fl_nil, tcc 5 [.row 22 [(ApiBooks.v r1)]] (P_limit_Env hr2) (fg (fs (fs (fs fl_nil)))), tc 12 [.row 22 [(ApiBooks.v r1)]] (P_limit_Floor hr3) (fg (fs (fs fl_nil))), tc 19 [.row 22 [(ApiBooks.v r1)]] (P_limit_Available hr4) (fg (fs (fs fl_nil))), tc 26 [.row 22 [(ApiBooks.v r1)]] (P_limit_Available hr5) (fg (fs (fs fl_nil))), twb 33 [.row 22 [(ApiBooks.v r1)]] (.bin .neq .other true (.c (i64 r2.2)) (.c (i64 0))) (!decide (r2.2 = 0)) false hb6, tw 36 (E_len [.row 22 [(ApiBooks.v r1)]] r2.1 ApiValue.v), twb 38 [.row 22 [(ApiBooks.v r1)]] (.pick (.c (.bool false)) (.c (.bool true)) (.c (.bool (!decide ((r2.1.length : Int) = 7))))) (!decide ((r2.1.length : Int) = 7)) false hb7, tw 41 (E_ia [.row 22 [(ApiBooks.v r1)]] ApiValue.v .i64 hy8), twb 45 [.row 22 [(ApiBooks.v r1)]] (.pick (.c (.bool false)) (.c (.bool true)) (.c (.bool (!decide (y8.N_ = 300))))) (!decide (y8.N_ = 300)) false hb9, tw 48 (E_ia [.row 22 [(ApiBooks.v r1)]] ApiValue.v .i64 hy10), twb 52 [.row 22 [(ApiBooks.v r1)]] (.pick (.c (.bool false)) (.c (.bool true)) (.c (.bool (!decide (y10.N_ = 0))))) (!decide (y10.N_ = 0)) false hb11, tw 55 (E_ia [.row 22 [(ApiBooks.v r1)]] ApiValue.v .i64 hy12), twb 59 [.row 22 [(ApiBooks.v r1)]] (.pick (.c (.bool false)) (.c (.bool true)) (.c (.bool (!decide (y12.N_ = 0))))) (!decide (y12.N_ = 0)) false hb13, tw 62 (E_ia [.row 22 [(ApiBooks.v r1)]] ApiValue.v .i64 hy14), twb 66 [.row 22 [(ApiBooks.v r1)]] (.pick (.c (.bool false)) (.c (.bool true)) (.c (.bool (!decide (y14.N_ = 7))))) (!decide (y14.N_ = 7)) false hb15, tw 69 (E_ia [.row 22 [(ApiBooks.v r1)]] ApiValue.v .i64 hy16), twb 73 [.row 22 [(ApiBooks.v r1)]] (.pick (.c (.bool false)) (.c (.bool true)) (.c (.bool (!decide (y16.N_ = 1))))) (!decide (y16.N_ = 1)) false hb17, tw 76 (E_ia [.row 22 [(ApiBooks.v r1)]] ApiValue.v .i64 hy18), twb 80 [.row 22 [(ApiBooks.v r1)]] (.pick (.c (.bool false)) (.c (.bool true)) (.c (.bool (!decide (y18.N_ = 5))))) (!decide (y18.N_ = 5)) false hb19, tw 83 (E_ia [.row 22 [(ApiBooks.v r1)]] ApiValue.v .i64 hy20), twb 87 [.row 22 [(ApiBooks.v r1)]] (.pick (.c (.bool false)) (.c (.bool true)) (.c (.bool (!decide (y20.N_ = 10))))) (!decide (y20.N_ = 10)) false hb21, tw 90 (E_ia [.row 22 [(ApiBooks.v r1)]] ApiValue.v .i64 hy22)] ?_
                    refine go_if h (fun hb23 h => ?_) (fun hb23 h => ?_)
                    · cases h
                    · rw [hb23]
                      refine go_bind h (fun r24 hr24 h => ?_)
                      refine go_if h (fun hb25 h => ?_) (fun hb25 h => ?_)
                      · refine go_if h (fun hb26 h => ?_) (fun hb26 h => ?_)
                        · refine go_if h (fun hb27 h => ?_) (fun hb27 h => ?_)
                          · refine go_if h (fun hb28 h => ?_) (fun hb28 h => ?_)
                            · refine go_if h (fun hb29 h => ?_) (fun hb29 h => ?_)
                              · refine go_if h (fun hb30 h => ?_) (fun hb30 h => ?_)
                                · refine go_bind h (fun r31 hr31 h => ?_)
                                  refine go_bind h (fun r32 hr32 h => ?_)
                                  refine go_if h (fun hb33 h => ?_) (fun hb33 h => ?_)
                                  · refine go_bind h (fun r34 hr34 h => ?_)
                                    refine go_bind h (fun r35 hr35 h => ?_)
                                    refine go_if h (fun hb36 h => ?_) (fun hb36 h => ?_)
                                    · refine go_bind h (fun r37 hr37 h => ?_)
                                      refine go_bind h (fun r38 hr38 h => ?_)
                                      refine go_if h (fun hb39 h => ?_) (fun hb39 h => ?_)
                                      · refine go_bind h (fun r40 hr40 h => ?_)
                                        refine go_bind h (fun r41 hr41 h => ?_)
                                        refine go_if h (fun hb42 h => ?_) (fun hb42 h => ?_)
                                        · refine go_bind h (fun r43 hr43 h => ?_)
                                          refine go_bind h (fun r44 hr44 h => ?_)
                                          refine go_if h (fun hb45 h => ?_) (fun hb45 h => ?_)
                                          · refine go_bind h (fun r46 hr46 h => ?_)
                                            refine gx mo [.pc p6_16] 156 [(0, (.bool (decide (r46 = 0))))] [.row 22 [(ApiBooks.v r1)], .row 22 [(.agg [(.sl (r24.Currencies_.map ApiCurrency.v)), (.sl (r24.Calendars_.map ApiCalendar.v)), (.sl (r24.Chart_.map ApiGl.v)), (i64 r24.Plan_.Cash_), (i64 r24.Plan_.Deposits_), (i64 r24.Plan_.InterestPaid_), (i64 r24.Plan_.InterestEarned_), (i64 r24.Plan_.FeeEarned_), (i64 r24.Plan_.Tax_), (i64 r24.Plan_.Clearing_), (i64 r24.Plan_.Loans_), (i64 r24.Plan_.LoanInterest_), (i64 r24.Plan_.Penalty_), (i64 r24.Plan_.Provision_), (i64 r24.Plan_.ProvisionCost_), (i64 r24.Plan_.Loss_), (i64 r24.Plan_.Recovery_), (.sl (r24.Products_.map ApiProduct.v)), (.sl (r24.Accounts_.map ApiAccount.v)), (.sl (r24.Journal_.map ApiEntry.v)), (.sl (r24.Holds_.map ApiHold.v)), (.sl [(.agg [(i64 1), (i64 1000), (i64 2), (i64 0), (i64 0), (i64 10), (.str [99, 111, 117, 114, 116])])])])]] 17 [tcc 1 [.row 22 [(ApiBooks.v r1)]] (P_law25_books hr24) fl_nil, tgb 9 [.row 22 [(ApiBooks.v r1)], .row 22 [(.agg [(.sl (r24.Currencies_.map ApiCurrency.v)), (.sl (r24.Calendars_.map ApiCalendar.v)), (.sl (r24.Chart_.map ApiGl.v)), (i64 r24.Plan_.Cash_), (i64 r24.Plan_.Deposits_), (i64 r24.Plan_.InterestPaid_), (i64 r24.Plan_.InterestEarned_), (i64 r24.Plan_.FeeEarned_), (i64 r24.Plan_.Tax_), (i64 r24.Plan_.Clearing_), (i64 r24.Plan_.Loans_), (i64 r24.Plan_.LoanInterest_), (i64 r24.Plan_.Penalty_), (i64 r24.Plan_.Provision_), (i64 r24.Plan_.ProvisionCost_), (i64 r24.Plan_.Loss_), (i64 r24.Plan_.Recovery_), (.sl (r24.Products_.map ApiProduct.v)), (.sl (r24.Accounts_.map ApiAccount.v)), (.sl (r24.Journal_.map ApiEntry.v)), (.sl (r24.Holds_.map ApiHold.v)), (.sl [(.agg [(i64 1), (i64 1000), (i64 2), (i64 0), (i64 0), (i64 10), (.str [99, 111, 117, 114, 116])])])])]] (.bin .eql .other true (.c (i64 r3.1)) (.c (i64 (-500)))) (decide (r3.1 = (-500))) true hb25, tgb 13 [.row 22 [(ApiBooks.v r1)], .row 22 [(.agg [(.sl (r24.Currencies_.map ApiCurrency.v)), (.sl (r24.Calendars_.map ApiCalendar.v)), (.sl (r24.Chart_.map ApiGl.v)), (i64 r24.Plan_.Cash_), (i64 r24.Plan_.Deposits_), (i64 r24.Plan_.InterestPaid_), (i64 r24.Plan_.InterestEarned_), (i64 r24.Plan_.FeeEarned_), (i64 r24.Plan_.Tax_), (i64 r24.Plan_.Clearing_), (i64 r24.Plan_.Loans_), (i64 r24.Plan_.LoanInterest_), (i64 r24.Plan_.Penalty_), (i64 r24.Plan_.Provision_), (i64 r24.Plan_.ProvisionCost_), (i64 r24.Plan_.Loss_), (i64 r24.Plan_.Recovery_), (.sl (r24.Products_.map ApiProduct.v)), (.sl (r24.Accounts_.map ApiAccount.v)), (.sl (r24.Journal_.map ApiEntry.v)), (.sl (r24.Holds_.map ApiHold.v)), (.sl [(.agg [(i64 1), (i64 1000), (i64 2), (i64 0), (i64 0), (i64 10), (.str [99, 111, 117, 114, 116])])])])]] (.pick (.c (.bool true)) (.c (.bool (decide (r3.2 = 0)))) (.c (.bool false))) (decide (r3.2 = 0)) true hb26, tgb 17 [.row 22 [(ApiBooks.v r1)], .row 22 [(.agg [(.sl (r24.Currencies_.map ApiCurrency.v)), (.sl (r24.Calendars_.map ApiCalendar.v)), (.sl (r24.Chart_.map ApiGl.v)), (i64 r24.Plan_.Cash_), (i64 r24.Plan_.Deposits_), (i64 r24.Plan_.InterestPaid_), (i64 r24.Plan_.InterestEarned_), (i64 r24.Plan_.FeeEarned_), (i64 r24.Plan_.Tax_), (i64 r24.Plan_.Clearing_), (i64 r24.Plan_.Loans_), (i64 r24.Plan_.LoanInterest_), (i64 r24.Plan_.Penalty_), (i64 r24.Plan_.Provision_), (i64 r24.Plan_.ProvisionCost_), (i64 r24.Plan_.Loss_), (i64 r24.Plan_.Recovery_), (.sl (r24.Products_.map ApiProduct.v)), (.sl (r24.Accounts_.map ApiAccount.v)), (.sl (r24.Journal_.map ApiEntry.v)), (.sl (r24.Holds_.map ApiHold.v)), (.sl [(.agg [(i64 1), (i64 1000), (i64 2), (i64 0), (i64 0), (i64 10), (.str [99, 111, 117, 114, 116])])])])]] (.pick (.c (.bool true)) (.c (.bool (decide (r4.1 = 700)))) (.c (.bool false))) (decide (r4.1 = 700)) true hb27, tgb 21 [.row 22 [(ApiBooks.v r1)], .row 22 [(.agg [(.sl (r24.Currencies_.map ApiCurrency.v)), (.sl (r24.Calendars_.map ApiCalendar.v)), (.sl (r24.Chart_.map ApiGl.v)), (i64 r24.Plan_.Cash_), (i64 r24.Plan_.Deposits_), (i64 r24.Plan_.InterestPaid_), (i64 r24.Plan_.InterestEarned_), (i64 r24.Plan_.FeeEarned_), (i64 r24.Plan_.Tax_), (i64 r24.Plan_.Clearing_), (i64 r24.Plan_.Loans_), (i64 r24.Plan_.LoanInterest_), (i64 r24.Plan_.Penalty_), (i64 r24.Plan_.Provision_), (i64 r24.Plan_.ProvisionCost_), (i64 r24.Plan_.Loss_), (i64 r24.Plan_.Recovery_), (.sl (r24.Products_.map ApiProduct.v)), (.sl (r24.Accounts_.map ApiAccount.v)), (.sl (r24.Journal_.map ApiEntry.v)), (.sl (r24.Holds_.map ApiHold.v)), (.sl [(.agg [(i64 1), (i64 1000), (i64 2), (i64 0), (i64 0), (i64 10), (.str [99, 111, 117, 114, 116])])])])]] (.pick (.c (.bool true)) (.c (.bool (decide (r4.2 = 0)))) (.c (.bool false))) (decide (r4.2 = 0)) true hb28, tgb 25 [.row 22 [(ApiBooks.v r1)], .row 22 [(.agg [(.sl (r24.Currencies_.map ApiCurrency.v)), (.sl (r24.Calendars_.map ApiCalendar.v)), (.sl (r24.Chart_.map ApiGl.v)), (i64 r24.Plan_.Cash_), (i64 r24.Plan_.Deposits_), (i64 r24.Plan_.InterestPaid_), (i64 r24.Plan_.InterestEarned_), (i64 r24.Plan_.FeeEarned_), (i64 r24.Plan_.Tax_), (i64 r24.Plan_.Clearing_), (i64 r24.Plan_.Loans_), (i64 r24.Plan_.LoanInterest_), (i64 r24.Plan_.Penalty_), (i64 r24.Plan_.Provision_), (i64 r24.Plan_.ProvisionCost_), (i64 r24.Plan_.Loss_), (i64 r24.Plan_.Recovery_), (.sl (r24.Products_.map ApiProduct.v)), (.sl (r24.Accounts_.map ApiAccount.v)), (.sl (r24.Journal_.map ApiEntry.v)), (.sl (r24.Holds_.map ApiHold.v)), (.sl [(.agg [(i64 1), (i64 1000), (i64 2), (i64 0), (i64 0), (i64 10), (.str [99, 111, 117, 114, 116])])])])]] (.pick (.c (.bool true)) (.c (.bool (decide (r5.1 = 800)))) (.c (.bool false))) (decide (r5.1 = 800)) true hb29, tgb 29 [.row 22 [(ApiBooks.v r1)], .row 22 [(.agg [(.sl (r24.Currencies_.map ApiCurrency.v)), (.sl (r24.Calendars_.map ApiCalendar.v)), (.sl (r24.Chart_.map ApiGl.v)), (i64 r24.Plan_.Cash_), (i64 r24.Plan_.Deposits_), (i64 r24.Plan_.InterestPaid_), (i64 r24.Plan_.InterestEarned_), (i64 r24.Plan_.FeeEarned_), (i64 r24.Plan_.Tax_), (i64 r24.Plan_.Clearing_), (i64 r24.Plan_.Loans_), (i64 r24.Plan_.LoanInterest_), (i64 r24.Plan_.Penalty_), (i64 r24.Plan_.Provision_), (i64 r24.Plan_.ProvisionCost_), (i64 r24.Plan_.Loss_), (i64 r24.Plan_.Recovery_), (.sl (r24.Products_.map ApiProduct.v)), (.sl (r24.Accounts_.map ApiAccount.v)), (.sl (r24.Journal_.map ApiEntry.v)), (.sl (r24.Holds_.map ApiHold.v)), (.sl [(.agg [(i64 1), (i64 1000), (i64 2), (i64 0), (i64 0), (i64 10), (.str [99, 111, 117, 114, 116])])])])]] (.pick (.c (.bool true)) (.c (.bool (decide (r5.2 = 0)))) (.c (.bool false))) (decide (r5.2 = 0)) true hb30, tgcc 32 [.row 22 [(ApiBooks.v r1)], .row 22 [(.agg [(.sl (r24.Currencies_.map ApiCurrency.v)), (.sl (r24.Calendars_.map ApiCalendar.v)), (.sl (r24.Chart_.map ApiGl.v)), (i64 r24.Plan_.Cash_), (i64 r24.Plan_.Deposits_), (i64 r24.Plan_.InterestPaid_), (i64 r24.Plan_.InterestEarned_), (i64 r24.Plan_.FeeEarned_), (i64 r24.Plan_.Tax_), (i64 r24.Plan_.Clearing_), (i64 r24.Plan_.Loans_), (i64 r24.Plan_.LoanInterest_), (i64 r24.Plan_.Penalty_), (i64 r24.Plan_.Provision_), (i64 r24.Plan_.ProvisionCost_), (i64 r24.Plan_.Loss_), (i64 r24.Plan_.Recovery_), (.sl (r24.Products_.map ApiProduct.v)), (.sl (r24.Accounts_.map ApiAccount.v)), (.sl (r24.Journal_.map ApiEntry.v)), (.sl (r24.Holds_.map ApiHold.v)), (.sl [(.agg [(i64 1), (i64 1000), (i64 2), (i64 0), (i64 0), (i64 10), (.str [99, 111, 117, 114, 116])])])])]] (P_law25_moved hr31) (fs fl_nil), tgc 33 [.row 22 [(ApiBooks.v r1)], .row 22 [(.agg [(.sl (r24.Currencies_.map ApiCurrency.v)), (.sl (r24.Calendars_.map ApiCalendar.v)), (.sl (r24.Chart_.map ApiGl.v)), (i64 r24.Plan_.Cash_), (i64 r24.Plan_.Deposits_), (i64 r24.Plan_.InterestPaid_), (i64 r24.Plan_.InterestEarned_), (i64 r24.Plan_.FeeEarned_), (i64 r24.Plan_.Tax_), (i64 r24.Plan_.Clearing_), (i64 r24.Plan_.Loans_), (i64 r24.Plan_.LoanInterest_), (i64 r24.Plan_.Penalty_), (i64 r24.Plan_.Provision_), (i64 r24.Plan_.ProvisionCost_), (i64 r24.Plan_.Loss_), (i64 r24.Plan_.Recovery_), (.sl (r24.Products_.map ApiProduct.v)), (.sl (r24.Accounts_.map ApiAccount.v)), (.sl (r24.Journal_.map ApiEntry.v)), (.sl (r24.Holds_.map ApiHold.v)), (.sl [(.agg [(i64 1), (i64 1000), (i64 2), (i64 0), (i64 0), (i64 10), (.str [99, 111, 117, 114, 116])])])])]] (P_limit_Allowed hr32) (fg (fg fl_nil)), tgb 35 [.row 22 [(ApiBooks.v r1)], .row 22 [(.agg [(.sl (r24.Currencies_.map ApiCurrency.v)), (.sl (r24.Calendars_.map ApiCalendar.v)), (.sl (r24.Chart_.map ApiGl.v)), (i64 r24.Plan_.Cash_), (i64 r24.Plan_.Deposits_), (i64 r24.Plan_.InterestPaid_), (i64 r24.Plan_.InterestEarned_), (i64 r24.Plan_.FeeEarned_), (i64 r24.Plan_.Tax_), (i64 r24.Plan_.Clearing_), (i64 r24.Plan_.Loans_), (i64 r24.Plan_.LoanInterest_), (i64 r24.Plan_.Penalty_), (i64 r24.Plan_.Provision_), (i64 r24.Plan_.ProvisionCost_), (i64 r24.Plan_.Loss_), (i64 r24.Plan_.Recovery_), (.sl (r24.Products_.map ApiProduct.v)), (.sl (r24.Accounts_.map ApiAccount.v)), (.sl (r24.Journal_.map ApiEntry.v)), (.sl (r24.Holds_.map ApiHold.v)), (.sl [(.agg [(i64 1), (i64 1000), (i64 2), (i64 0), (i64 0), (i64 10), (.str [99, 111, 117, 114, 116])])])])]] (.pick (.c (.bool true)) (.c (.bool (decide (r32 = 0)))) (.c (.bool false))) (decide (r32 = 0)) true hb33, tgcc 38 [.row 22 [(ApiBooks.v r1)], .row 22 [(.agg [(.sl (r24.Currencies_.map ApiCurrency.v)), (.sl (r24.Calendars_.map ApiCalendar.v)), (.sl (r24.Chart_.map ApiGl.v)), (i64 r24.Plan_.Cash_), (i64 r24.Plan_.Deposits_), (i64 r24.Plan_.InterestPaid_), (i64 r24.Plan_.InterestEarned_), (i64 r24.Plan_.FeeEarned_), (i64 r24.Plan_.Tax_), (i64 r24.Plan_.Clearing_), (i64 r24.Plan_.Loans_), (i64 r24.Plan_.LoanInterest_), (i64 r24.Plan_.Penalty_), (i64 r24.Plan_.Provision_), (i64 r24.Plan_.ProvisionCost_), (i64 r24.Plan_.Loss_), (i64 r24.Plan_.Recovery_), (.sl (r24.Products_.map ApiProduct.v)), (.sl (r24.Accounts_.map ApiAccount.v)), (.sl (r24.Journal_.map ApiEntry.v)), (.sl (r24.Holds_.map ApiHold.v)), (.sl [(.agg [(i64 1), (i64 1000), (i64 2), (i64 0), (i64 0), (i64 10), (.str [99, 111, 117, 114, 116])])])])]] (P_law25_moved hr34) (fs fl_nil), tgc 39 [.row 22 [(ApiBooks.v r1)], .row 22 [(.agg [(.sl (r24.Currencies_.map ApiCurrency.v)), (.sl (r24.Calendars_.map ApiCalendar.v)), (.sl (r24.Chart_.map ApiGl.v)), (i64 r24.Plan_.Cash_), (i64 r24.Plan_.Deposits_), (i64 r24.Plan_.InterestPaid_), (i64 r24.Plan_.InterestEarned_), (i64 r24.Plan_.FeeEarned_), (i64 r24.Plan_.Tax_), (i64 r24.Plan_.Clearing_), (i64 r24.Plan_.Loans_), (i64 r24.Plan_.LoanInterest_), (i64 r24.Plan_.Penalty_), (i64 r24.Plan_.Provision_), (i64 r24.Plan_.ProvisionCost_), (i64 r24.Plan_.Loss_), (i64 r24.Plan_.Recovery_), (.sl (r24.Products_.map ApiProduct.v)), (.sl (r24.Accounts_.map ApiAccount.v)), (.sl (r24.Journal_.map ApiEntry.v)), (.sl (r24.Holds_.map ApiHold.v)), (.sl [(.agg [(i64 1), (i64 1000), (i64 2), (i64 0), (i64 0), (i64 10), (.str [99, 111, 117, 114, 116])])])])]] (P_limit_Allowed hr35) (fg (fg fl_nil)), tgb 41 [.row 22 [(ApiBooks.v r1)], .row 22 [(.agg [(.sl (r24.Currencies_.map ApiCurrency.v)), (.sl (r24.Calendars_.map ApiCalendar.v)), (.sl (r24.Chart_.map ApiGl.v)), (i64 r24.Plan_.Cash_), (i64 r24.Plan_.Deposits_), (i64 r24.Plan_.InterestPaid_), (i64 r24.Plan_.InterestEarned_), (i64 r24.Plan_.FeeEarned_), (i64 r24.Plan_.Tax_), (i64 r24.Plan_.Clearing_), (i64 r24.Plan_.Loans_), (i64 r24.Plan_.LoanInterest_), (i64 r24.Plan_.Penalty_), (i64 r24.Plan_.Provision_), (i64 r24.Plan_.ProvisionCost_), (i64 r24.Plan_.Loss_), (i64 r24.Plan_.Recovery_), (.sl (r24.Products_.map ApiProduct.v)), (.sl (r24.Accounts_.map ApiAccount.v)), (.sl (r24.Journal_.map ApiEntry.v)), (.sl (r24.Holds_.map ApiHold.v)), (.sl [(.agg [(i64 1), (i64 1000), (i64 2), (i64 0), (i64 0), (i64 10), (.str [99, 111, 117, 114, 116])])])])]] (.pick (.c (.bool true)) (.c (.bool (decide (r35 = 20)))) (.c (.bool false))) (decide (r35 = 20)) true hb36, tgcc 44 [.row 22 [(ApiBooks.v r1)], .row 22 [(.agg [(.sl (r24.Currencies_.map ApiCurrency.v)), (.sl (r24.Calendars_.map ApiCalendar.v)), (.sl (r24.Chart_.map ApiGl.v)), (i64 r24.Plan_.Cash_), (i64 r24.Plan_.Deposits_), (i64 r24.Plan_.InterestPaid_), (i64 r24.Plan_.InterestEarned_), (i64 r24.Plan_.FeeEarned_), (i64 r24.Plan_.Tax_), (i64 r24.Plan_.Clearing_), (i64 r24.Plan_.Loans_), (i64 r24.Plan_.LoanInterest_), (i64 r24.Plan_.Penalty_), (i64 r24.Plan_.Provision_), (i64 r24.Plan_.ProvisionCost_), (i64 r24.Plan_.Loss_), (i64 r24.Plan_.Recovery_), (.sl (r24.Products_.map ApiProduct.v)), (.sl (r24.Accounts_.map ApiAccount.v)), (.sl (r24.Journal_.map ApiEntry.v)), (.sl (r24.Holds_.map ApiHold.v)), (.sl [(.agg [(i64 1), (i64 1000), (i64 2), (i64 0), (i64 0), (i64 10), (.str [99, 111, 117, 114, 116])])])])]] (P_law25_moved hr37) (fs fl_nil), tgc 45 [.row 22 [(ApiBooks.v r1)], .row 22 [(.agg [(.sl (r24.Currencies_.map ApiCurrency.v)), (.sl (r24.Calendars_.map ApiCalendar.v)), (.sl (r24.Chart_.map ApiGl.v)), (i64 r24.Plan_.Cash_), (i64 r24.Plan_.Deposits_), (i64 r24.Plan_.InterestPaid_), (i64 r24.Plan_.InterestEarned_), (i64 r24.Plan_.FeeEarned_), (i64 r24.Plan_.Tax_), (i64 r24.Plan_.Clearing_), (i64 r24.Plan_.Loans_), (i64 r24.Plan_.LoanInterest_), (i64 r24.Plan_.Penalty_), (i64 r24.Plan_.Provision_), (i64 r24.Plan_.ProvisionCost_), (i64 r24.Plan_.Loss_), (i64 r24.Plan_.Recovery_), (.sl (r24.Products_.map ApiProduct.v)), (.sl (r24.Accounts_.map ApiAccount.v)), (.sl (r24.Journal_.map ApiEntry.v)), (.sl (r24.Holds_.map ApiHold.v)), (.sl [(.agg [(i64 1), (i64 1000), (i64 2), (i64 0), (i64 0), (i64 10), (.str [99, 111, 117, 114, 116])])])])]] (P_limit_Allowed hr38) (fg (fg fl_nil)), tgb 47 [.row 22 [(ApiBooks.v r1)], .row 22 [(.agg [(.sl (r24.Currencies_.map ApiCurrency.v)), (.sl (r24.Calendars_.map ApiCalendar.v)), (.sl (r24.Chart_.map ApiGl.v)), (i64 r24.Plan_.Cash_), (i64 r24.Plan_.Deposits_), (i64 r24.Plan_.InterestPaid_), (i64 r24.Plan_.InterestEarned_), (i64 r24.Plan_.FeeEarned_), (i64 r24.Plan_.Tax_), (i64 r24.Plan_.Clearing_), (i64 r24.Plan_.Loans_), (i64 r24.Plan_.LoanInterest_), (i64 r24.Plan_.Penalty_), (i64 r24.Plan_.Provision_), (i64 r24.Plan_.ProvisionCost_), (i64 r24.Plan_.Loss_), (i64 r24.Plan_.Recovery_), (.sl (r24.Products_.map ApiProduct.v)), (.sl (r24.Accounts_.map ApiAccount.v)), (.sl (r24.Journal_.map ApiEntry.v)), (.sl (r24.Holds_.map ApiHold.v)), (.sl [(.agg [(i64 1), (i64 1000), (i64 2), (i64 0), (i64 0), (i64 10), (.str [99, 111, 117, 114, 116])])])])]] (.pick (.c (.bool true)) (.c (.bool (decide (r38 = 18)))) (.c (.bool false))) (decide (r38 = 18)) true hb39, tgcc 50 [.row 22 [(ApiBooks.v r1)], .row 22 [(.agg [(.sl (r24.Currencies_.map ApiCurrency.v)), (.sl (r24.Calendars_.map ApiCalendar.v)), (.sl (r24.Chart_.map ApiGl.v)), (i64 r24.Plan_.Cash_), (i64 r24.Plan_.Deposits_), (i64 r24.Plan_.InterestPaid_), (i64 r24.Plan_.InterestEarned_), (i64 r24.Plan_.FeeEarned_), (i64 r24.Plan_.Tax_), (i64 r24.Plan_.Clearing_), (i64 r24.Plan_.Loans_), (i64 r24.Plan_.LoanInterest_), (i64 r24.Plan_.Penalty_), (i64 r24.Plan_.Provision_), (i64 r24.Plan_.ProvisionCost_), (i64 r24.Plan_.Loss_), (i64 r24.Plan_.Recovery_), (.sl (r24.Products_.map ApiProduct.v)), (.sl (r24.Accounts_.map ApiAccount.v)), (.sl (r24.Journal_.map ApiEntry.v)), (.sl (r24.Holds_.map ApiHold.v)), (.sl [(.agg [(i64 1), (i64 1000), (i64 2), (i64 0), (i64 0), (i64 10), (.str [99, 111, 117, 114, 116])])])])]] (P_law25_moved hr40) (fs fl_nil), tgc 51 [.row 22 [(ApiBooks.v r1)], .row 22 [(.agg [(.sl (r24.Currencies_.map ApiCurrency.v)), (.sl (r24.Calendars_.map ApiCalendar.v)), (.sl (r24.Chart_.map ApiGl.v)), (i64 r24.Plan_.Cash_), (i64 r24.Plan_.Deposits_), (i64 r24.Plan_.InterestPaid_), (i64 r24.Plan_.InterestEarned_), (i64 r24.Plan_.FeeEarned_), (i64 r24.Plan_.Tax_), (i64 r24.Plan_.Clearing_), (i64 r24.Plan_.Loans_), (i64 r24.Plan_.LoanInterest_), (i64 r24.Plan_.Penalty_), (i64 r24.Plan_.Provision_), (i64 r24.Plan_.ProvisionCost_), (i64 r24.Plan_.Loss_), (i64 r24.Plan_.Recovery_), (.sl (r24.Products_.map ApiProduct.v)), (.sl (r24.Accounts_.map ApiAccount.v)), (.sl (r24.Journal_.map ApiEntry.v)), (.sl (r24.Holds_.map ApiHold.v)), (.sl [(.agg [(i64 1), (i64 1000), (i64 2), (i64 0), (i64 0), (i64 10), (.str [99, 111, 117, 114, 116])])])])]] (P_limit_Allowed hr41) (fl_cons (f_aggl (fs (fs (fs (fs (fs (fs (fs (fs (fs (fs (fs (fs (fs (fs (fs (fs (fs (fs (fs (fs (fs (fs fl_nil))))))))))))))))))))))) (fg fl_nil)), tgb 53 [.row 22 [(ApiBooks.v r1)], .row 22 [(.agg [(.sl (r24.Currencies_.map ApiCurrency.v)), (.sl (r24.Calendars_.map ApiCalendar.v)), (.sl (r24.Chart_.map ApiGl.v)), (i64 r24.Plan_.Cash_), (i64 r24.Plan_.Deposits_), (i64 r24.Plan_.InterestPaid_), (i64 r24.Plan_.InterestEarned_), (i64 r24.Plan_.FeeEarned_), (i64 r24.Plan_.Tax_), (i64 r24.Plan_.Clearing_), (i64 r24.Plan_.Loans_), (i64 r24.Plan_.LoanInterest_), (i64 r24.Plan_.Penalty_), (i64 r24.Plan_.Provision_), (i64 r24.Plan_.ProvisionCost_), (i64 r24.Plan_.Loss_), (i64 r24.Plan_.Recovery_), (.sl (r24.Products_.map ApiProduct.v)), (.sl (r24.Accounts_.map ApiAccount.v)), (.sl (r24.Journal_.map ApiEntry.v)), (.sl (r24.Holds_.map ApiHold.v)), (.sl [(.agg [(i64 1), (i64 1000), (i64 2), (i64 0), (i64 0), (i64 10), (.str [99, 111, 117, 114, 116])])])])]] (.pick (.c (.bool true)) (.c (.bool (decide (r41 = 19)))) (.c (.bool false))) (decide (r41 = 19)) true hb42, tgcc 56 [.row 22 [(ApiBooks.v r1)], .row 22 [(.agg [(.sl (r24.Currencies_.map ApiCurrency.v)), (.sl (r24.Calendars_.map ApiCalendar.v)), (.sl (r24.Chart_.map ApiGl.v)), (i64 r24.Plan_.Cash_), (i64 r24.Plan_.Deposits_), (i64 r24.Plan_.InterestPaid_), (i64 r24.Plan_.InterestEarned_), (i64 r24.Plan_.FeeEarned_), (i64 r24.Plan_.Tax_), (i64 r24.Plan_.Clearing_), (i64 r24.Plan_.Loans_), (i64 r24.Plan_.LoanInterest_), (i64 r24.Plan_.Penalty_), (i64 r24.Plan_.Provision_), (i64 r24.Plan_.ProvisionCost_), (i64 r24.Plan_.Loss_), (i64 r24.Plan_.Recovery_), (.sl (r24.Products_.map ApiProduct.v)), (.sl (r24.Accounts_.map ApiAccount.v)), (.sl (r24.Journal_.map ApiEntry.v)), (.sl (r24.Holds_.map ApiHold.v)), (.sl [(.agg [(i64 1), (i64 1000), (i64 2), (i64 0), (i64 0), (i64 10), (.str [99, 111, 117, 114, 116])])])])]] (P_law25_moved hr43) (fs fl_nil), tgc 57 [.row 22 [(ApiBooks.v r1)], .row 22 [(.agg [(.sl (r24.Currencies_.map ApiCurrency.v)), (.sl (r24.Calendars_.map ApiCalendar.v)), (.sl (r24.Chart_.map ApiGl.v)), (i64 r24.Plan_.Cash_), (i64 r24.Plan_.Deposits_), (i64 r24.Plan_.InterestPaid_), (i64 r24.Plan_.InterestEarned_), (i64 r24.Plan_.FeeEarned_), (i64 r24.Plan_.Tax_), (i64 r24.Plan_.Clearing_), (i64 r24.Plan_.Loans_), (i64 r24.Plan_.LoanInterest_), (i64 r24.Plan_.Penalty_), (i64 r24.Plan_.Provision_), (i64 r24.Plan_.ProvisionCost_), (i64 r24.Plan_.Loss_), (i64 r24.Plan_.Recovery_), (.sl (r24.Products_.map ApiProduct.v)), (.sl (r24.Accounts_.map ApiAccount.v)), (.sl (r24.Journal_.map ApiEntry.v)), (.sl (r24.Holds_.map ApiHold.v)), (.sl [(.agg [(i64 1), (i64 1000), (i64 2), (i64 0), (i64 0), (i64 10), (.str [99, 111, 117, 114, 116])])])])]] (P_limit_Allowed hr44) (fl_cons (f_aggl (fs (fs (fs (fs (fs (fs (fs (fs (fs (fs (fs (fs (fs (fs (fs (fs (fs (fs (fs (fs (fs (fs fl_nil))))))))))))))))))))))) (fg fl_nil)), tgb 59 [.row 22 [(ApiBooks.v r1)], .row 22 [(.agg [(.sl (r24.Currencies_.map ApiCurrency.v)), (.sl (r24.Calendars_.map ApiCalendar.v)), (.sl (r24.Chart_.map ApiGl.v)), (i64 r24.Plan_.Cash_), (i64 r24.Plan_.Deposits_), (i64 r24.Plan_.InterestPaid_), (i64 r24.Plan_.InterestEarned_), (i64 r24.Plan_.FeeEarned_), (i64 r24.Plan_.Tax_), (i64 r24.Plan_.Clearing_), (i64 r24.Plan_.Loans_), (i64 r24.Plan_.LoanInterest_), (i64 r24.Plan_.Penalty_), (i64 r24.Plan_.Provision_), (i64 r24.Plan_.ProvisionCost_), (i64 r24.Plan_.Loss_), (i64 r24.Plan_.Recovery_), (.sl (r24.Products_.map ApiProduct.v)), (.sl (r24.Accounts_.map ApiAccount.v)), (.sl (r24.Journal_.map ApiEntry.v)), (.sl (r24.Holds_.map ApiHold.v)), (.sl [(.agg [(i64 1), (i64 1000), (i64 2), (i64 0), (i64 0), (i64 10), (.str [99, 111, 117, 114, 116])])])])]] (.pick (.c (.bool true)) (.c (.bool (decide (r44 = 0)))) (.c (.bool false))) (decide (r44 = 0)) true hb45, tgc 62 [.row 22 [(ApiBooks.v r1)], .row 22 [(.agg [(.sl (r24.Currencies_.map ApiCurrency.v)), (.sl (r24.Calendars_.map ApiCalendar.v)), (.sl (r24.Chart_.map ApiGl.v)), (i64 r24.Plan_.Cash_), (i64 r24.Plan_.Deposits_), (i64 r24.Plan_.InterestPaid_), (i64 r24.Plan_.InterestEarned_), (i64 r24.Plan_.FeeEarned_), (i64 r24.Plan_.Tax_), (i64 r24.Plan_.Clearing_), (i64 r24.Plan_.Loans_), (i64 r24.Plan_.LoanInterest_), (i64 r24.Plan_.Penalty_), (i64 r24.Plan_.Provision_), (i64 r24.Plan_.ProvisionCost_), (i64 r24.Plan_.Loss_), (i64 r24.Plan_.Recovery_), (.sl (r24.Products_.map ApiProduct.v)), (.sl (r24.Accounts_.map ApiAccount.v)), (.sl (r24.Journal_.map ApiEntry.v)), (.sl (r24.Holds_.map ApiHold.v)), (.sl [(.agg [(i64 1), (i64 1000), (i64 2), (i64 0), (i64 0), (i64 10), (.str [99, 111, 117, 114, 116])])])])]] (P_limit_Spent hr46) (fg (fs (fs (fs fl_nil))))] ?_
                                            obtain rfl := Option.some.inj h
                                            exact gf (.bool (decide (r46 = 0))) (.same rfl)
                                          · cases h
                                        · cases h
                                      · cases h
                                    · cases h
                                  · cases h
                                · cases h
                              · cases h
                            · cases h
                          · cases h
                        · cases h
                      · cases h
/-! corebank/corebanklaw25.LimitEnv -/
def p3_11 : PC := .ret
def p3_14 : PC := (.seq (.reg (oo 13 (.ldA 22 (.t 2)) :: oo 14 (.fa 0 (.t 3)) :: oo 15 (.ld1 (.t 14)) :: oo 16 (.fa 1 (.t 3)) :: oo 17 (.ld1 (.t 16)) :: oo 18 (.fa 2 (.t 3)) :: oo 19 (.ld1 (.t 18)) :: ⟨some 20, .call 7 [.t 13, .t 15, .t 17, .t 19], none⟩ :: om 12 20 :: oo 21 (.ext 0 (.t 12)) :: oo 22 (.ext 1 (.t 12)) :: om 5 21 :: om 6 22 :: [])) (.seq (.reg (oo 24 (.ldA 22 (.t 2)) :: oo 25 (.fa 0 (.t 3)) :: oo 26 (.ld1 (.t 25)) :: oo 27 (.fa 1 (.t 3)) :: oo 28 (.ld1 (.t 27)) :: oo 29 (.fa 2 (.t 3)) :: oo 30 (.ld1 (.t 29)) :: ⟨some 31, .call 8 [.t 24, .t 26, .t 28, .t 30], none⟩ :: om 23 31 :: oo 32 (.ext 0 (.t 23)) :: oo 33 (.ext 1 (.t 23)) :: om 7 32 :: om 8 33 :: [])) (.seq (.reg (om 34 6 :: om 35 8 :: oo 36 (.bin .eql .other false (.t 34) (.t 35)) :: om 37 36 :: ⟨some 38, .op (.mv (.t 5)), some (37, true)⟩ :: ⟨some 39, .op (.mv (.t 7)), some (37, true)⟩ :: ⟨some 40, .call 9 [.t 38, .t 39], some (37, true)⟩ :: oo 41 (.pick (.t 37) (.t 40) (.c (.bool false))) :: om 42 41 :: ⟨some 43, .call 6 [], some (42, true)⟩ :: oo 44 (.pick (.t 42) (.t 43) (.c (.bool false))) :: om 4 44 :: [])) p3_11)))
def p3_3 : PC := .ret
def p3_6 : PC := (.cond (.t 10) (.seq (.reg (⟨some 11, .call 6 [], none⟩ :: om 4 11 :: [])) p3_3) .skip)
def p3_16 : PC := (.seq (.reg (oo 2 (.box (.t 0)) :: oo 3 (.box (.t 1)) :: oo 4 (.mv (.c (.bool false))) :: [])) (.seq (.seq (.reg (oo 9 (.ldA 22 (.t 2)) :: ⟨some 10, .call 5 [.t 9], none⟩ :: [])) p3_6) p3_14))
theorem fn3 : FnOk Tryz.prog 3 p3_16 45 [.t 4] := ⟨false, Tryz.f3, _, Tryz.func3, by decide, rfl, by kernel_rfl, rfl, by kernel_rfl⟩
def F_law25_LimitEnv  (N : Nat) (a1 : ApiBooks) (a2 : Corebanklaw25Query) : Option (Bool) :=
      (F_r25_Great N a1).bind fun r3 =>
    bif r3 then
    ((F_law25_live N).bind fun r5 =>
    some r5)
    else
    ((F_limit_Env N a1 a2.Id_ a2.Day_ a2.Amount_).bind fun r6 =>
    (F_r25_Env N a1 a2.Id_ a2.Day_ a2.Amount_).bind fun r7 =>
    bif decide (r6.2 = r7.2) then
    ((F_r13_SameValues N r6.1 r7.1).bind fun r9 =>
    bif r9 then
    ((F_law25_live N).bind fun r11 =>
    some r11)
    else
    (some false))
    else
    (some false))
theorem P_law25_LimitEnv  {N : Nat} {a1 : ApiBooks} {a2 : Corebanklaw25Query} {r : Bool} (h : F_law25_LimitEnv N a1 a2 = some r) : Pure Tryz.prog (Gl.at 0) 3 [(ApiBooks.v a1), (Corebanklaw25Query.v a2)] (.bool r) := by
  refine pure_run fn3 ?_
  rw [F_law25_LimitEnv] at h
  replace h := bs h
  change GG [.t 4] _ [.pc p3_16] (mk 45 [(0, (ApiBooks.v a1)), (1, (Corebanklaw25Query.v a2))]) []
  refine go_bind h (fun r3 hr3 h => ?_)
  refine gx mo [.pc p3_6, .pc p3_14] 45 [(2, (.ref 0 0 0)), (3, (.ref 1 0 0)), (10, (.bool r3))] [.row 22 [(ApiBooks.v a1)], .row 3 [(Corebanklaw25Query.v a2)]] 12 [tc 4 [.row 22 [(ApiBooks.v a1)], .row 3 [(Corebanklaw25Query.v a2)]] (P_r25_Great hr3) (fg fl_nil)] ?_
  refine go_if h (fun hb4 h => ?_) (fun hb4 h => ?_)
  · rw [hb4]
    refine go_bind h (fun r5 hr5 h => ?_)
    refine gx mo [.pc p3_3, .pc p3_14] 45 [(4, (.bool r5))] [.row 22 [(ApiBooks.v a1)], .row 3 [(Corebanklaw25Query.v a2)]] 6 [tc 1 [.row 22 [(ApiBooks.v a1)], .row 3 [(Corebanklaw25Query.v a2)]] (P_law25_live hr5) fl_nil] ?_
    obtain rfl := Option.some.inj h
    exact gf (.bool r5) (.same rfl)
  · rw [hb4]
    refine go_bind h (fun r6 hr6 h => ?_)
    refine go_bind h (fun r7 hr7 h => ?_)
    refine go_if h (fun hb8 h => ?_) (fun hb8 h => ?_)
    · refine go_bind h (fun r9 hr9 h => ?_)
      refine go_if h (fun hb10 h => ?_) (fun hb10 h => ?_)
      · refine go_bind h (fun r11 hr11 h => ?_)
        refine gx mo [.pc p3_11] 45 [(4, (.bool r11))] [.row 22 [(ApiBooks.v a1)], .row 3 [(Corebanklaw25Query.v a2)]] 49 [tcc 8 [.row 22 [(ApiBooks.v a1)], .row 3 [(Corebanklaw25Query.v a2)]] (P_limit_Env hr6) (fg (fs (fs (fs fl_nil)))), tcc 21 [.row 22 [(ApiBooks.v a1)], .row 3 [(Corebanklaw25Query.v a2)]] (P_r25_Env hr7) (fg (fs (fs (fs fl_nil)))), twb 29 [.row 22 [(ApiBooks.v a1)], .row 3 [(Corebanklaw25Query.v a2)]] (.bin .eql .other false (.c (i64 r6.2)) (.c (i64 r7.2))) (decide (r6.2 = r7.2)) true hb8, tc 33 [.row 22 [(ApiBooks.v a1)], .row 3 [(Corebanklaw25Query.v a2)]] (P_r13_SameValues hr9) (fs (fs fl_nil)), twb 34 [.row 22 [(ApiBooks.v a1)], .row 3 [(Corebanklaw25Query.v a2)]] (.pick (.c (.bool true)) (.c (.bool r9)) (.c (.bool false))) (r9) true hb10, tc 36 [.row 22 [(ApiBooks.v a1)], .row 3 [(Corebanklaw25Query.v a2)]] (P_law25_live hr11) fl_nil] ?_
        obtain rfl := Option.some.inj h
        exact gf (.bool r11) (.same rfl)
      · refine gx mo [.pc p3_11] 45 [(4, (.bool false))] [.row 22 [(ApiBooks.v a1)], .row 3 [(Corebanklaw25Query.v a2)]] 49 [tcc 8 [.row 22 [(ApiBooks.v a1)], .row 3 [(Corebanklaw25Query.v a2)]] (P_limit_Env hr6) (fg (fs (fs (fs fl_nil)))), tcc 21 [.row 22 [(ApiBooks.v a1)], .row 3 [(Corebanklaw25Query.v a2)]] (P_r25_Env hr7) (fg (fs (fs (fs fl_nil)))), twb 29 [.row 22 [(ApiBooks.v a1)], .row 3 [(Corebanklaw25Query.v a2)]] (.bin .eql .other false (.c (i64 r6.2)) (.c (i64 r7.2))) (decide (r6.2 = r7.2)) true hb8, tc 33 [.row 22 [(ApiBooks.v a1)], .row 3 [(Corebanklaw25Query.v a2)]] (P_r13_SameValues hr9) (fs (fs fl_nil)), twb 34 [.row 22 [(ApiBooks.v a1)], .row 3 [(Corebanklaw25Query.v a2)]] (.pick (.c (.bool true)) (.c (.bool r9)) (.c (.bool false))) (r9) false hb10] ?_
        obtain rfl := Option.some.inj h
        exact gf (.bool false) (.same rfl)
    · refine gx mo [.pc p3_11] 45 [(4, (.bool false))] [.row 22 [(ApiBooks.v a1)], .row 3 [(Corebanklaw25Query.v a2)]] 49 [tcc 8 [.row 22 [(ApiBooks.v a1)], .row 3 [(Corebanklaw25Query.v a2)]] (P_limit_Env hr6) (fg (fs (fs (fs fl_nil)))), tcc 21 [.row 22 [(ApiBooks.v a1)], .row 3 [(Corebanklaw25Query.v a2)]] (P_r25_Env hr7) (fg (fs (fs (fs fl_nil)))), twb 29 [.row 22 [(ApiBooks.v a1)], .row 3 [(Corebanklaw25Query.v a2)]] (.bin .eql .other false (.c (i64 r6.2)) (.c (i64 r7.2))) (decide (r6.2 = r7.2)) false hb8] ?_
      obtain rfl := Option.some.inj h
      exact gf (.bool false) (.same rfl)

end
end Go.TL
