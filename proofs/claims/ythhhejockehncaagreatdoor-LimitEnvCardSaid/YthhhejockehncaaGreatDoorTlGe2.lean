/- The program's functions as Lean's own, with proofs. -/
import Derived.Test.YthhhejockehncaaGreatDoorTlGe1
set_option maxRecDepth 20000
set_option linter.all false
set_option linter.unusedVariables false
namespace Go.TL
open Go Go.Proofs
noncomputable section
open Go.RowKit Go.Lib
/-! slices.BinarySearchFunc[[]corebank/api.Leg,corebank/api.Leg,corebank/api.Leg] -/
def p87_20 : PC := .ret
def p87_21 : PC := (.seq (.drawn (om 35 9 :: om 36 9 :: om 37 8 :: oo 38 (.bin .lss .other false (.t 36) (.t 37)) :: om 39 38 :: ⟨some 40, .op (.mv (.t 2)), some (39, true)⟩ :: ⟨some 41, .op (.mv (.t 0)), some (39, true)⟩ :: ⟨some 42, .op (.mv (.t 9)), some (39, true)⟩ :: ⟨some 43, .op (.ia 3 (.t 41) (.t 42)), some (39, true)⟩ :: ⟨some 44, .op (.ldA 3 (.t 43)), some (39, true)⟩ :: ⟨some 45, .op (.ldA 3 (.t 4)), some (39, true)⟩ :: ⟨some 46, .dyn (.t 40) [.t 44, .t 45], some (39, true)⟩ :: ⟨some 47, .op (.bin .eql .other true (.t 46) (.c (.int .i64 0))), some (39, true)⟩ :: oo 48 (.pick (.t 39) (.t 47) (.c (.bool false))) :: om 6 35 :: om 7 48 :: []) [[], [], [], [1, 2], [3], [4], [4], [4], [6, 7, 4], [8, 4], [4], [5, 9, 10, 4, 4], [11, 4], [4, 12], [0, 11, 0], [13, 14, 0, 1, 2, 3, 4, 5, 6, 7, 8, 9, 10, 11, 12, 13, 14]]) p87_20)
def p87_12 : PC := (.cond (.t 31) (.reg (om 32 11 :: oo 33 (.bin .add .other true (.t 32) (.c (.int .i64 1))) :: om 9 33 :: [])) (.reg (om 34 11 :: om 10 34 :: [])))
def p87_15 : PC := (.block 1 (.seq (.reg (om 18 9 :: om 19 10 :: oo 20 (.bin .add .other false (.t 18) (.t 19)) :: oo 21 (.cvI .u64 (.t 20)) :: oo 22 (.bin .shr .other true (.t 21) (.c (.int .u64 1))) :: oo 23 (.cvI .i64 (.t 22)) :: om 11 23 :: [])) (.seq (.drawn (om 24 2 :: om 25 0 :: om 26 11 :: oo 27 (.ia 3 (.t 25) (.t 26)) :: oo 28 (.ldA 3 (.t 27)) :: oo 29 (.ldA 3 (.t 4)) :: ⟨some 30, .dyn (.t 24) [.t 28, .t 29], none⟩ :: oo 31 (.bin .lss .other true (.t 30) (.c (.int .i64 0))) :: []) [[], [], [], [1, 2], [3], [], [0, 4, 5], [6]]) p87_12)))
def p87_6 : PC := (.cond (.t 17) .skip (.exit 0))
def p87_17 : PC := (.loop (.seq (.seq (.reg (om 15 9 :: om 16 10 :: oo 17 (.bin .lss .other false (.t 15) (.t 16)) :: [])) p87_6) p87_15))
def p87_25 : PC := (.seq (.reg (oo 4 (.box (.t 1)) :: oo 6 (.mv (.c (.int .i64 0))) :: oo 7 (.mv (.c (.bool false))) :: [])) (.seq (.reg (om 12 0 :: oo 13 (.len .slice (.t 12)) :: om 8 13 :: [])) (.seq (.reg (om 14 8 :: oo 9 (.mv (.c (.int .i64 0))) :: om 10 14 :: [])) (.seq (.block 0 p87_17) p87_21))))
theorem fn87 : FnOk Tryz.prog 87 p87_25 49 [.t 6, .t 7] := ⟨false, Tryz.f87, _, Tryz.func87, by decide, rfl, by kernel_rfl, rfl, by kernel_rfl⟩
def L_slices_BinarySearchFunc_api_Leg_v28a_1 (N : Nat) (a1 : List ApiLeg) (a2 : ApiLeg) : Nat → Int → Int → Option (Int)
  | 0, _, _ => none
  | m1 + 1, v1_0, v1_1 =>
    bif decide (v1_0 < v1_1) then
    ((shrI .u64 (IntKind.wrap .u64 (IntKind.wrap .i64 (v1_0 + v1_1))) 1).bind fun q12 =>
    (getI a1 (IntKind.wrap .i64 q12)).bind fun y13 =>
    (F_entry_compare N y13 a2).bind fun r14 =>
    bif decide (r14 < 0) then
    (none)
    else
    ((L_slices_BinarySearchFunc_api_Leg_v28a_1 N a1 a2 m1) v1_0 (IntKind.wrap .i64 q12)))
    else
    (some v1_0)
def K_slices_BinarySearchFunc_api_Leg_v28a_1 (N : Nat) (a1 : List ApiLeg) (a2 : ApiLeg) : (Int) → Option (Int × Bool)
  | x1_0 =>
    bif decide (x1_0 < (a1.length : Int)) then
    ((getI a1 x1_0).bind fun y9 =>
    (F_entry_compare N y9 a2).bind fun r10 =>
    some (x1_0, decide (r10 = 0)))
    else
    (some (x1_0, false))
def F_slices_BinarySearchFunc_api_Leg_v28a  (N : Nat) (a1 : List ApiLeg) (a2 : ApiLeg) : Option (Int × Bool) :=
      (L_slices_BinarySearchFunc_api_Leg_v28a_1 N a1 a2 N 0 (a1.length : Int)).bind (K_slices_BinarySearchFunc_api_Leg_v28a_1 N a1 a2)
theorem P_slices_BinarySearchFunc_api_Leg_v28a  {N : Nat} {a1 : List ApiLeg} {a2 : ApiLeg} {r : Int × Bool} (h : F_slices_BinarySearchFunc_api_Leg_v28a N a1 a2 = some r) : Pure Tryz.prog (Gl.at 0) 87 [(.sl (a1.map ApiLeg.v)), (ApiLeg.v a2), (.fn (.func 88) [] [])] (.tup [(i64 r.1), (.bool r.2)]) := by
  refine pure_run fn87 ?_
  rw [F_slices_BinarySearchFunc_api_Leg_v28a] at h
  replace h := bs h
  change GG [.t 6, .t 7] _ [.pc p87_25] (mk 49 [(0, (.sl (a1.map ApiLeg.v))), (1, (ApiLeg.v a2)), (2, (.fn (.func 88) [] []))]) []
  refine gx mo [.pc p87_17, .blk 0, .pc p87_21] 49 [(0, (.sl (a1.map ApiLeg.v))), (2, (.fn (.func 88) [] [])), (4, (.ref 0 0 0)), (8, (i64 (a1.length : Int))), (9, (i64 0)), (10, (i64 (a1.length : Int)))] [.row 3 [(ApiLeg.v a2)]] 20 [tw 4 (E_len [.row 3 [(ApiLeg.v a2)]] a1 ApiLeg.v)] ?_
  refine go_cut (X := Int) (fun x => (K_slices_BinarySearchFunc_api_Leg_v28a_1 N a1 a2 x).bind some = some r) ([.pc p87_21]) (fun x => (mk 49 [(0, (.sl (a1.map ApiLeg.v))), (2, (.fn (.func 88) [] [])), (4, (.ref 0 0 0)), (8, (i64 (a1.length : Int))), (9, (i64 x))])) (fun x => [.row 3 [(ApiLeg.v a2)]]) ?_ fun kont1_0 => ?_
  · rintro x1_0 h
    rw [K_slices_BinarySearchFunc_api_Leg_v28a_1] at h
    refine go_if h (fun hb8 h => ?_) (fun hb8 h => ?_)
    · refine go_bind h (fun y9 hy9 h => ?_)
      refine go_bind h (fun r10 hr10 h => ?_)
      refine gx mo [.pc p87_20] 49 [(6, (i64 x1_0)), (7, (.bool (decide (r10 = 0))))] [.row 3 [(ApiLeg.v a2)]] 2 [tgb 3 [.row 3 [(ApiLeg.v a2)]] (.bin .lss .other false (.c (i64 x1_0)) (.c (i64 (a1.length : Int)))) (decide (x1_0 < (a1.length : Int))) true hb8, tg 8 (E_ia [.row 3 [(ApiLeg.v a2)]] ApiLeg.v .i64 hy9), tgd 11 [.row 3 [(ApiLeg.v a2)]] [] [] [(ApiLeg.v y9), (ApiLeg.v a2)] (P_entry_compare hr10) (fg (fg fl_nil))] ?_
      obtain rfl := Option.some.inj h
      exact gf (.tup [(i64 x1_0), (.bool (decide (r10 = 0)))]) (f_tupl (fs (fs fl_nil)))
    · refine gx mo [.pc p87_20] 49 [(6, (i64 x1_0)), (7, (.bool false))] [.row 3 [(ApiLeg.v a2)]] 2 [tgb 3 [.row 3 [(ApiLeg.v a2)]] (.bin .lss .other false (.c (i64 x1_0)) (.c (i64 (a1.length : Int)))) (decide (x1_0 < (a1.length : Int))) false hb8] ?_
      obtain rfl := Option.some.inj h
      exact gf (.tup [(i64 x1_0), (.bool false)]) (f_tupl (fs (fs fl_nil)))
  refine go_loop' (fun m t s => ∃ (v1_0 : Int) (v1_1 : Int), (L_slices_BinarySearchFunc_api_Leg_v28a_1 N a1 a2 m v1_0 v1_1).bind (fun q => (K_slices_BinarySearchFunc_api_Leg_v28a_1 N a1 a2 q).bind some) = some r ∧ t = (mk 49 [(0, (.sl (a1.map ApiLeg.v))), (2, (.fn (.func 88) [] [])), (4, (.ref 0 0 0)), (8, (i64 (a1.length : Int))), (9, (i64 v1_0)), (10, (i64 v1_1))]) ∧ s = [.row 3 [(ApiLeg.v a2)]]) N ⟨0, (a1.length : Int), go_assoc h, rfl, rfl⟩ ?_
  intro m1 J1 hJ1 t s
  rintro ⟨v1_0, v1_1, h, rfl, rfl⟩
  cases m1 with
  | zero => exact absurd h (by simp [L_slices_BinarySearchFunc_api_Leg_v28a_1])
  | succ m1 =>
    rw [L_slices_BinarySearchFunc_api_Leg_v28a_1] at h
    refine gx mo [.pc p87_6, .pc p87_15, .jp J1, .blk 0, .pc p87_21] 49 [(0, (.sl (a1.map ApiLeg.v))), (2, (.fn (.func 88) [] [])), (4, (.ref 0 0 0)), (8, (i64 (a1.length : Int))), (9, (i64 v1_0)), (10, (i64 v1_1)), (17, (.bool (decide (v1_0 < v1_1))))] [.row 3 [(ApiLeg.v a2)]] 7 [] ?_
    refine go_if h (fun hb11 h => ?_) (fun hb11 h => ?_)
    · rw [hb11]
      refine go_bind h (fun q12 hq12 h => ?_)
      refine go_bind h (fun y13 hy13 h => ?_)
      refine go_bind h (fun r14 hr14 h => ?_)
      refine gx mo [.pc p87_12, .blk 1, .jp J1, .blk 0, .pc p87_21] 49 [(0, (.sl (a1.map ApiLeg.v))), (2, (.fn (.func 88) [] [])), (4, (.ref 0 0 0)), (8, (i64 (a1.length : Int))), (9, (i64 v1_0)), (10, (i64 v1_1)), (11, (i64 (IntKind.wrap .i64 q12))), (31, (.bool (decide (r14 < 0))))] [.row 3 [(ApiLeg.v a2)]] 15 [tw 5 (s := [.row 3 [(ApiLeg.v a2)]]) (s' := [.row 3 [(ApiLeg.v a2)]]) (q := (.bin .shr .other true (.c (.int .u64 (IntKind.wrap .u64 (IntKind.wrap .i64 (v1_0 + v1_1))))) (.c (.int .u64 1)))) (v := (.int .u64 q12)) (e_shr hq12), tg 11 (E_ia [.row 3 [(ApiLeg.v a2)]] ApiLeg.v .i64 hy13), tgd 14 [.row 3 [(ApiLeg.v a2)]] [] [] [(ApiLeg.v y13), (ApiLeg.v a2)] (P_entry_compare hr14) (fg (fg fl_nil))] ?_
      refine go_if h (fun hb15 h => ?_) (fun hb15 h => ?_)
      · cases h
      · rw [hb15]
        refine gx mo [.jp J1, .blk 0, .pc p87_21] 49 [(0, (.sl (a1.map ApiLeg.v))), (2, (.fn (.func 88) [] [])), (4, (.ref 0 0 0)), (8, (i64 (a1.length : Int))), (9, (i64 v1_0)), (10, (i64 (IntKind.wrap .i64 q12)))] [.row 3 [(ApiLeg.v a2)]] 6 [] ?_
        exact go_back rfl (hJ1 m1 _ _ (Nat.lt_succ_self m1) ⟨v1_0, IntKind.wrap .i64 q12, h, rfl, rfl⟩)
    · rw [hb11]
      refine gx mo [.pc p87_21] 49 [(0, (.sl (a1.map ApiLeg.v))), (2, (.fn (.func 88) [] [])), (4, (.ref 0 0 0)), (8, (i64 (a1.length : Int))), (9, (i64 v1_0))] [.row 3 [(ApiLeg.v a2)]] 2 [] ?_
      exact kont1_0 v1_0 h
/-! corebank/entry.Net$1 -/
def p74_2 : PC := .ret
def p74_4 : PC := (.seq (.reg (oo 1 (.box (.t 0)) :: oo 2 (.mv (.c (.bool false))) :: [])) (.seq (.reg (oo 3 (.fa 1 (.t 1)) :: oo 4 (.ld1 (.t 3)) :: oo 5 (.bin .eql .other true (.t 4) (.c (.int .i64 0))) :: om 2 5 :: [])) p74_2))
theorem fn74 : FnOk Tryz.prog 74 p74_4 6 [.t 2] := ⟨false, Tryz.f74, _, Tryz.func74, by decide, rfl, by kernel_rfl, rfl, by kernel_rfl⟩
def F_entry_Net_c1  (N : Nat) (a1 : ApiLeg) : Option (Bool) :=
      some (decide (a1.Amount_ = 0))
theorem P_entry_Net_c1  {N : Nat} {a1 : ApiLeg} {r : Bool} (h : F_entry_Net_c1 N a1 = some r) : Pure Tryz.prog (Gl.at 0) 74 [(ApiLeg.v a1)] (.bool r) := by
  refine pure_run fn74 ?_
  rw [F_entry_Net_c1] at h
  replace h := bs h
  change GG [.t 2] _ [.pc p74_4] (mk 6 [(0, (ApiLeg.v a1))]) []
  refine gx mo [.pc p74_2] 6 [(2, (.bool (decide (a1.Amount_ = 0))))] [.row 3 [(ApiLeg.v a1)]] 12 [] ?_
  obtain rfl := Option.some.inj h
  exact gf (.bool (decide (a1.Amount_ = 0))) (.same rfl)
def L_slices_IndexFunc_api_Leg_v763_1 (N : Nat) (a1 : List ApiLeg) : Nat → Int → Option (Unit)
  | 0, _ => none
  | m1 + 1, v1_0 =>
    bif decide (v1_0 < (a1.length : Int)) then
    ((getI a1 v1_0).bind fun y7 =>
    (F_entry_Net_c1 N y7).bind fun r8 =>
    bif r8 then
    (none)
    else
    ((L_slices_IndexFunc_api_Leg_v763_1 N a1 m1) (IntKind.wrap .i64 (v1_0 + 1))))
    else
    (some ())
def K_slices_IndexFunc_api_Leg_v763_1 (N : Nat)  : (Unit) → Option (Int)
  | _ =>
    some (-1)
def F_slices_IndexFunc_api_Leg_v763  (N : Nat) (a1 : List ApiLeg) : Option (Int) :=
      (L_slices_IndexFunc_api_Leg_v763_1 N a1 N 0).bind (K_slices_IndexFunc_api_Leg_v763_1 N)
theorem P_slices_IndexFunc_api_Leg_v763  {N : Nat} {a1 : List ApiLeg} {r : Int} (h : F_slices_IndexFunc_api_Leg_v763 N a1 = some r) : Pure Tryz.prog (Gl.at 0) 84 [(.sl (a1.map ApiLeg.v)), (.fn (.func 74) [] [])] (i64 r) := by
  refine pure_run fn84 ?_
  rw [F_slices_IndexFunc_api_Leg_v763] at h
  replace h := bs h
  change GG [.t 4] _ [.pc p84_27] (mk 19 [(0, (.sl (a1.map ApiLeg.v))), (1, (.fn (.func 74) [] []))]) []
  refine gx mo [.pc p84_20, .blk 0, .pc p84_25] 19 [(0, (.sl (a1.map ApiLeg.v))), (1, (.fn (.func 74) [] [])), (7, (i64 (a1.length : Int))), (8, (i64 0))] [] 12 [tw 2 (E_len [] a1 ApiLeg.v)] ?_
  refine go_cut (X := Unit) (fun x => (K_slices_IndexFunc_api_Leg_v763_1 N x).bind some = some r) ([.pc p84_25]) (fun x => (mk 19 [])) (fun x => []) ?_ fun kont1_0 => ?_
  · rintro _ h
    rw [K_slices_IndexFunc_api_Leg_v763_1] at h
    refine gx mo [.pc p84_24] 19 [(4, (i64 (-1)))] [] 4 [] ?_
    obtain rfl := Option.some.inj h
    exact gf (i64 (-1)) (.same rfl)
  refine go_loop' (fun m t s => ∃ (v1_0 : Int), (L_slices_IndexFunc_api_Leg_v763_1 N a1 m v1_0).bind (fun q => (K_slices_IndexFunc_api_Leg_v763_1 N q).bind some) = some r ∧ t = (mk 19 [(0, (.sl (a1.map ApiLeg.v))), (1, (.fn (.func 74) [] [])), (7, (i64 (a1.length : Int))), (8, (i64 v1_0))]) ∧ s = []) N ⟨0, go_assoc h, rfl, rfl⟩ ?_
  intro m1 J1 hJ1 t s
  rintro ⟨v1_0, h, rfl, rfl⟩
  cases m1 with
  | zero => exact absurd h (by simp [L_slices_IndexFunc_api_Leg_v763_1])
  | succ m1 =>
    rw [L_slices_IndexFunc_api_Leg_v763_1] at h
    refine gx mo [.pc p84_5, .pc p84_17, .jp J1, .blk 0, .pc p84_25] 19 [(0, (.sl (a1.map ApiLeg.v))), (1, (.fn (.func 74) [] [])), (7, (i64 (a1.length : Int))), (8, (i64 v1_0)), (9, (.bool (decide (v1_0 < (a1.length : Int)))))] [] 5 [] ?_
    refine go_if h (fun hb6 h => ?_) (fun hb6 h => ?_)
    · rw [hb6]
      refine go_bind h (fun y7 hy7 h => ?_)
      refine go_bind h (fun r8 hr8 h => ?_)
      refine gx mo [.pc p84_12, .blk 1, .pc p84_16, .jp J1, .blk 0, .pc p84_25] 19 [(0, (.sl (a1.map ApiLeg.v))), (1, (.fn (.func 74) [] [])), (5, (i64 v1_0)), (7, (i64 (a1.length : Int))), (8, (i64 v1_0)), (16, (.bool r8))] [] 18 [tw 6 (E_ia [] ApiLeg.v .i64 hy7), td 8 [] [] [] [(ApiLeg.v y7)] (P_entry_Net_c1 hr8) (fg fl_nil)] ?_
      refine go_if h (fun hb9 h => ?_) (fun hb9 h => ?_)
      · cases h
      · rw [hb9]
        refine gx mo [.jp J1, .blk 0, .pc p84_25] 19 [(0, (.sl (a1.map ApiLeg.v))), (1, (.fn (.func 74) [] [])), (7, (i64 (a1.length : Int))), (8, (i64 (IntKind.wrap .i64 (v1_0 + 1))))] [] 7 [] ?_
        exact go_back rfl (hJ1 m1 _ _ (Nat.lt_succ_self m1) ⟨IntKind.wrap .i64 (v1_0 + 1), h, rfl, rfl⟩)
    · rw [hb6]
      refine gx mo [.pc p84_25] 19 [] [] 2 [] ?_
      exact kont1_0 () h
/-! corebank/entry.Net -/
def p53_3 : PC := .ret
def o53_2_1 : List PO := ⟨some 7, .call 73 [.t 6, .c (.fn (.func 74) [] [])], none⟩ :: om 2 7 :: []
def p53_4 : PC := (.seq (.reg (om 6 3 :: o53_2_1)) p53_3)
def o53_1_1 : List PO := ⟨some 5, .call 72 [.c .nils, .t 4], none⟩ :: om 3 5 :: []
def p53_6 : PC := (.seq (.reg (oo 2 (.mv (.c .nils)) :: [])) (.seq (.reg (om 4 0 :: o53_1_1)) p53_4))
theorem fn53 : FnOk Tryz.prog 53 p53_6 8 [.t 2] := ⟨false, Tryz.f53, _, Tryz.func53, by decide, rfl, by kernel_rfl, rfl, by kernel_rfl⟩
def L_entry_Net_1 (N : Nat) (a1 : List ApiLeg) : Nat → (List ApiLeg) → Int → Option ((List ApiLeg))
  | 0, _, _ => none
  | m1 + 1, v1_0, v1_1 =>
    bif decide (v1_1 < (a1.length : Int)) then
    ((getI a1 v1_1).bind fun y10 =>
    (F_slices_BinarySearchFunc_api_Leg_v28a N v1_0 y10).bind fun r11 =>
    bif r11.2 then
    (none)
    else
    ((insI 32 v1_0 r11.1 y10).bind fun l13 =>
    (L_entry_Net_1 N a1 m1) l13 (IntKind.wrap .i64 (v1_1 + 1))))
    else
    (some v1_0)
def K_entry_Net_1 (N : Nat)  : ((List ApiLeg)) → Option ((List ApiLeg))
  | x1_0 =>
    (F_slices_IndexFunc_api_Leg_v763 N x1_0).bind fun r7 =>
    bif decide (r7 = (-1)) then
    (some x1_0)
    else
    (none)
def F_entry_Net  (N : Nat) (a1 : List ApiLeg) : Option ((List ApiLeg)) :=
      (L_entry_Net_1 N a1 N [] 0).bind (K_entry_Net_1 N)
theorem P_entry_Net  {N : Nat} {a1 : List ApiLeg} {r : (List ApiLeg)} (h : F_entry_Net N a1 = some r) : Pure Tryz.prog (Gl.at 0) 53 [(.sl (a1.map ApiLeg.v))] (.sl (r.map ApiLeg.v)) := by
  refine pure_run fn53 ?_
  rw [F_entry_Net] at h
  replace h := bs h
  change GG [.t 2] _ [.pc p53_6] (mk 8 [(0, (.sl (a1.map ApiLeg.v)))]) []
  refine gx mo [.ops o53_1_1, .pc p53_4] 8 [(4, (.sl (a1.map ApiLeg.v)))] [] 7 [] ?_
  refine go_inl (pc := p72_27) rfl fn72 ?_
  refine gx mo [.pc p72_20, .blk 0, .pc p72_25] 39 [(0, .nils), (9, (.sl (a1.map ApiLeg.v))), (10, (i64 (a1.length : Int))), (11, (i64 0))] [] 12 [tw 2 (E_len [] a1 ApiLeg.v)] ?_
  refine go_cut (X := (List ApiLeg)) (fun x => x = [] ∧ (K_entry_Net_1 N x).bind some = some r) ([.pc p72_25]) (fun x => (mk 39 [(0, .nils)])) (fun x => []) ?_ fun kont1_0 => ?_
  · rintro x1_0 ⟨hx0, h⟩
    obtain rfl : x1_0 = [] := hx0
    rw [K_entry_Net_1] at h
    refine gx mo [.pc p72_24] 39 [(4, .nils)] [] 5 [] ?_
    refine go_inret .nils (by kernel_rfl) (noMark_ofB rfl) rfl ?_
    refine gx mo [.ops o53_2_1, .pc p53_3] 8 [(6, .nils)] [] 5 [] ?_
    refine go_inl (pc := p73_39) rfl fn73 ?_
    refine go_bind h (fun r7 hr7 h => ?_)
    refine gx mo [.pc p73_7, .pc p73_36] 42 [(0, .nils), (1, (.fn (.func 74) [] [])), (5, (i64 r7)), (12, (.bool (decide (r7 = (-1)))))] [] 17 [tc 3 [] (P_slices_IndexFunc_api_Leg_v763 hr7) (fl_cons .nil0 (fl_cons (f_fn fl_nil fl_nil) fl_nil))] ?_
    refine go_if h (fun hb8 h => ?_) (fun hb8 h => ?_)
    · rw [hb8]
      refine gx mo [.pc p73_4, .pc p73_36] 42 [(4, .nils)] [] 6 [] ?_
      refine go_inret .nils (by kernel_rfl) (noMark_ofB rfl) rfl ?_
      refine gx mo [.pc p53_3] 8 [(2, .nils)] [] 2 [] ?_
      obtain rfl := Option.some.inj h
      exact gf .nils .nil0
    · cases h
  refine go_cut (X := (List ApiLeg)) (fun x => (K_entry_Net_1 N x).bind some = some r) ([.pc p72_25]) (fun x => (mk 39 [(0, (.osl 0 0 x.length))])) (fun x => [.row 3 (x.map ApiLeg.v)]) ?_ fun kont1_1 => ?_
  · rintro x1_0 h
    rw [K_entry_Net_1] at h
    refine gx mo [.pc p72_24] 39 [(4, (.osl 0 0 x1_0.length))] [.row 3 (x1_0.map ApiLeg.v)] 5 [] ?_
    refine go_inret (.osl 0 0 x1_0.length) (by kernel_rfl) (noMark_ofB rfl) rfl ?_
    refine gx mo [.ops o53_2_1, .pc p53_3] 8 [(6, (.osl 0 0 x1_0.length))] [.row 3 (x1_0.map ApiLeg.v)] 5 [] ?_
    refine go_inl (pc := p73_39) rfl fn73 ?_
    refine go_bind h (fun r7 hr7 h => ?_)
    refine gx mo [.pc p73_7, .pc p73_36] 42 [(0, (.osl 0 0 x1_0.length)), (1, (.fn (.func 74) [] [])), (5, (i64 r7)), (12, (.bool (decide (r7 = (-1)))))] [.row 3 (x1_0.map ApiLeg.v)] 17 [tc 3 [.row 3 (x1_0.map ApiLeg.v)] (P_slices_IndexFunc_api_Leg_v763 hr7) (fl_cons (f_osl (c := 0) rfl (fun _ => rfl) (fun _ => rfl) rfl) (fl_cons (f_fn fl_nil fl_nil) fl_nil))] ?_
    refine go_if h (fun hb8 h => ?_) (fun hb8 h => ?_)
    · rw [hb8]
      refine gx mo [.pc p73_4, .pc p73_36] 42 [(4, (.osl 0 0 x1_0.length))] [.row 3 (x1_0.map ApiLeg.v)] 6 [] ?_
      refine go_inret (.osl 0 0 x1_0.length) (by kernel_rfl) (noMark_ofB rfl) rfl ?_
      refine gx mo [.pc p53_3] 8 [(2, (.osl 0 0 x1_0.length))] [.row 3 (x1_0.map ApiLeg.v)] 2 [] ?_
      obtain rfl := Option.some.inj h
      exact gf (.osl 0 0 x1_0.length) (f_osl (c := 0) rfl (fun _ => rfl) (fun _ => rfl) rfl)
    · cases h
  refine go_loop' (fun m t s => ∃ (v1_0 : List ApiLeg) (v1_1 : Int), (L_entry_Net_1 N a1 m v1_0 v1_1).bind (fun q => (K_entry_Net_1 N q).bind some) = some r ∧ ((v1_0 = [] ∧ t = (mk 39 [(0, .nils), (9, (.sl (a1.map ApiLeg.v))), (10, (i64 (a1.length : Int))), (11, (i64 v1_1))]) ∧ s = []) ∨ (t = (mk 39 [(0, (.osl 0 0 v1_0.length)), (9, (.sl (a1.map ApiLeg.v))), (10, (i64 (a1.length : Int))), (11, (i64 v1_1))]) ∧ s = [.row 3 (v1_0.map ApiLeg.v)]))) N ⟨[], 0, go_assoc h, .inl ⟨rfl, rfl, rfl⟩⟩ ?_
  intro m1 J1 hJ1 t s
  rintro ⟨v1_0, v1_1, h, hsh⟩
  cases m1 with
  | zero => exact absurd h (by simp [L_entry_Net_1])
  | succ m1 =>
    rw [L_entry_Net_1] at h
    rcases hsh with ⟨rfl, rfl, rfl⟩ | ⟨rfl, rfl⟩
    · refine gx mo [.pc p72_5, .pc p72_17, .jp J1, .blk 0, .pc p72_25] 39 [(0, .nils), (9, (.sl (a1.map ApiLeg.v))), (10, (i64 (a1.length : Int))), (11, (i64 v1_1)), (12, (.bool (decide (v1_1 < (a1.length : Int)))))] [] 5 [] ?_
      refine go_if h (fun hb9 h => ?_) (fun hb9 h => ?_)
      · rw [hb9]
        refine go_bind h (fun y10 hy10 h => ?_)
        refine go_bind h (fun r11 hr11 h => ?_)
        refine gx mo [.pc p72_11, .blk 1, .pc p72_16, .jp J1, .blk 0, .pc p72_25] 39 [(0, .nils), (6, (.ref 0 0 0)), (7, (i64 r11.1)), (9, (.sl (a1.map ApiLeg.v))), (10, (i64 (a1.length : Int))), (11, (i64 v1_1)), (21, (.bool r11.2))] [.row 3 [(ApiLeg.v y10)]] 26 [tw 1 (E_ia [] ApiLeg.v .i64 hy10), tc 7 [.row 3 [(ApiLeg.v y10)]] (P_slices_BinarySearchFunc_api_Leg_v28a hr11) (fl_cons .nil0 (fg (fl_cons (f_fn fl_nil fl_nil) fl_nil)))] ?_
        refine go_if h (fun hb12 h => ?_) (fun hb12 h => ?_)
        · cases h
        · rw [hb12]
          refine go_bind h (fun l13 hl13 h => ?_)
          refine gx mo [.jp J1, .blk 0, .pc p72_25] 39 [(0, (.osl 1 0 l13.length)), (9, (.sl (a1.map ApiLeg.v))), (10, (i64 (a1.length : Int))), (11, (i64 (IntKind.wrap .i64 (v1_1 + 1))))] [.row 3 [(ApiLeg.v y10)], .row 3 (l13.map ApiLeg.v)] 14 [tp 5 [.row 3 [(ApiLeg.v y10)]] (ins_nil_ApiLeg (.inl rfl) hl13)] ?_
          refine go_pick [1] [] [(0, 0), (9, 0), (10, 0), (11, 0)] (t' := (mk 39 [(0, (.osl 0 0 l13.length)), (9, (.sl (a1.map ApiLeg.v))), (10, (i64 (a1.length : Int))), (11, (i64 (IntKind.wrap .i64 (v1_1 + 1))))])) (s' := [.row 3 (l13.map ApiLeg.v)]) (by kernel_rfl) ⟨clo_map (fun _ => rfl) _, trivial⟩ rfl ?_
          exact go_back rfl (hJ1 m1 _ _ (Nat.lt_succ_self m1) ⟨l13, IntKind.wrap .i64 (v1_1 + 1), h, .inr (⟨rfl, rfl⟩)⟩)
      · rw [hb9]
        refine gx mo [.pc p72_25] 39 [(0, .nils)] [] 2 [] ?_
        exact kont1_0 [] ⟨rfl, h⟩
    · refine gx mo [.pc p72_5, .pc p72_17, .jp J1, .blk 0, .pc p72_25] 39 [(0, (.osl 0 0 v1_0.length)), (9, (.sl (a1.map ApiLeg.v))), (10, (i64 (a1.length : Int))), (11, (i64 v1_1)), (12, (.bool (decide (v1_1 < (a1.length : Int)))))] [.row 3 (v1_0.map ApiLeg.v)] 5 [] ?_
      refine go_if h (fun hb9 h => ?_) (fun hb9 h => ?_)
      · rw [hb9]
        refine go_bind h (fun y10 hy10 h => ?_)
        refine go_bind h (fun r11 hr11 h => ?_)
        refine gx mo [.pc p72_11, .blk 1, .pc p72_16, .jp J1, .blk 0, .pc p72_25] 39 [(0, (.osl 0 0 v1_0.length)), (6, (.ref 1 0 0)), (7, (i64 r11.1)), (9, (.sl (a1.map ApiLeg.v))), (10, (i64 (a1.length : Int))), (11, (i64 v1_1)), (21, (.bool r11.2))] [.row 3 (v1_0.map ApiLeg.v), .row 3 [(ApiLeg.v y10)]] 26 [tw 1 (E_ia [.row 3 (v1_0.map ApiLeg.v)] ApiLeg.v .i64 hy10), tc 7 [.row 3 (v1_0.map ApiLeg.v), .row 3 [(ApiLeg.v y10)]] (P_slices_BinarySearchFunc_api_Leg_v28a hr11) (fl_cons (f_osl (c := 0) rfl (fun _ => rfl) (fun _ => rfl) rfl) (fg (fl_cons (f_fn fl_nil fl_nil) fl_nil)))] ?_
        refine go_if h (fun hb12 h => ?_) (fun hb12 h => ?_)
        · cases h
        · rw [hb12]
          refine go_bind h (fun l13 hl13 h => ?_)
          refine gx mo [.jp J1, .blk 0, .pc p72_25] 39 [(0, (.osl 2 0 l13.length)), (9, (.sl (a1.map ApiLeg.v))), (10, (i64 (a1.length : Int))), (11, (i64 (IntKind.wrap .i64 (v1_1 + 1))))] [.dead, .row 3 [(ApiLeg.v y10)], .row 3 (l13.map ApiLeg.v)] 14 [tp 5 [.row 3 (v1_0.map ApiLeg.v), .row 3 [(ApiLeg.v y10)]] (ins_ok_ApiLeg (c := 0) rfl hl13)] ?_
          refine go_pick [2] [] [(0, 0), (9, 0), (10, 0), (11, 0)] (t' := (mk 39 [(0, (.osl 0 0 l13.length)), (9, (.sl (a1.map ApiLeg.v))), (10, (i64 (a1.length : Int))), (11, (i64 (IntKind.wrap .i64 (v1_1 + 1))))])) (s' := [.row 3 (l13.map ApiLeg.v)]) (by kernel_rfl) ⟨clo_map (fun _ => rfl) _, trivial⟩ rfl ?_
          exact go_back rfl (hJ1 m1 _ _ (Nat.lt_succ_self m1) ⟨l13, IntKind.wrap .i64 (v1_1 + 1), h, .inr (⟨rfl, rfl⟩)⟩)
      · rw [hb9]
        refine gx mo [.pc p72_25] 39 [(0, (.osl 0 0 v1_0.length))] [.row 3 (v1_0.map ApiLeg.v)] 2 [] ?_
        exact kont1_1 v1_0 h
/-! corebank/blocking.denies -/
def p77_25 : PC := (.seq (.reg (oo 4 (.mv (.c (.bool false))) :: [])) .ret)
def p77_8 : PC := .ret
def p77_21 : PC := (.block 0 (.seq (.reg (oo 7 (.ta 136 (.agg []) true (.t 6)) :: oo 8 (.ext 1 (.t 7)) :: oo 9 (.ext 0 (.t 7)) :: [])) (.cond (.t 8) (.seq (.reg (oo 4 (.mv (.c (.bool true))) :: [])) .ret) (.seq (.reg (oo 10 (.ta 137 (.agg []) true (.t 6)) :: oo 11 (.ext 1 (.t 10)) :: oo 12 (.ext 0 (.t 10)) :: [])) (.cond (.t 11) (.seq (.reg (om 13 1 :: oo 14 (.bin .gtr .other true (.t 13) (.c (.int .i64 0))) :: om 4 14 :: [])) p77_8) (.seq (.reg (oo 15 (.ta 138 (.agg []) true (.t 6)) :: oo 16 (.ext 1 (.t 15)) :: oo 17 (.ext 0 (.t 15)) :: [])) (.cond (.t 16) (.seq (.reg (om 18 1 :: oo 19 (.bin .lss .other true (.t 18) (.c (.int .i64 0))) :: om 4 19 :: [])) .ret) .skip)))))))
def o77_1_1 : List PO := ⟨some 6, .call 69 [.t 5], none⟩ :: []
def p77_27 : PC := (.seq (.reg (oo 2 (.box (.t 0)) :: oo 4 (.mv (.c (.bool false))) :: [])) (.seq (.seq (.reg (oo 5 (.ldA 7 (.t 2)) :: o77_1_1)) p77_21) p77_25))
theorem fn77 : FnOk Tryz.prog 77 p77_27 20 [.t 4] := ⟨false, Tryz.f77, _, Tryz.func77, by decide, rfl, by kernel_rfl, rfl, by kernel_rfl⟩
def F_blocking_denies  (N : Nat) (a1 : ApiBlock) (a2 : Int) : Option (Bool) :=
      bif decide (a1.Kind_ = 1) then
    (none)
    else
    (bif decide (a1.Kind_ = 2) then
    (some (decide (0 < a2)))
    else
    (none))
theorem P_blocking_denies  {N : Nat} {a1 : ApiBlock} {a2 : Int} {r : Bool} (h : F_blocking_denies N a1 a2 = some r) : Pure Tryz.prog (Gl.at 0) 77 [(ApiBlock.v a1), (i64 a2)] (.bool r) := by
  refine pure_run fn77 ?_
  rw [F_blocking_denies] at h
  replace h := bs h
  change GG [.t 4] _ [.pc p77_27] (mk 20 [(0, (ApiBlock.v a1)), (1, (i64 a2))]) []
  refine gx mo [.ops o77_1_1, .pc p77_21, .pc p77_25] 20 [(1, (i64 a2)), (5, (ApiBlock.v a1))] [.row 7 [(ApiBlock.v a1)]] 9 [] ?_
  refine go_inl (pc := p69_33) rfl fn69 ?_
  refine gx mo [.pc p69_25, .blk 0, .pc p69_31] 25 [(1, (.ref 1 0 0)), (4, (i64 a1.Kind_)), (5, (.bool (decide (a1.Kind_ = 1))))] [.row 7 [(ApiBlock.v a1)], .row 7 [(ApiBlock.v a1)]] 17 [] ?_
  refine go_if h (fun hb3 h => ?_) (fun hb3 h => ?_)
  · cases h
  · rw [hb3]
    refine gx mo [.pc p69_23, .blk 0, .pc p69_31] 25 [(1, (.ref 1 0 0)), (4, (i64 a1.Kind_)), (9, (.bool (decide (a1.Kind_ = 2))))] [.row 7 [(ApiBlock.v a1)], .row 7 [(ApiBlock.v a1)]] 6 [] ?_
    refine go_if h (fun hb4 h => ?_) (fun hb4 h => ?_)
    · rw [hb4]
      refine gx mo [.pc p69_8, .blk 0, .pc p69_31] 25 [(2, (.ifc 137 (.agg [])))] [.row 7 [(ApiBlock.v a1)], .row 7 [(ApiBlock.v a1)]] 7 [] ?_
      refine go_inret (.ifc 137 (.agg [])) (by kernel_rfl) (noMark_ofB rfl) rfl ?_
      refine gx mo [.pc p77_8, .blk 0, .pc p77_25] 20 [(4, (.bool (decide (0 < a2))))] [.row 7 [(ApiBlock.v a1)], .row 7 [(ApiBlock.v a1)]] 22 [] ?_
      obtain rfl := Option.some.inj h
      exact gf (.bool (decide (0 < a2))) (.same rfl)
    · cases h
/-! corebank/blocking.Denies$1 -/
def p76_2 : PC := .ret
def p76_4 : PC := (.seq (.reg (oo 2 (.box (.t 0)) :: oo 3 (.mv (.c (.bool false))) :: [])) (.seq (.reg (oo 4 (.ldA 7 (.t 2)) :: oo 5 (.ld1 (.t 1)) :: ⟨some 6, .call 77 [.t 4, .t 5], none⟩ :: om 3 6 :: [])) p76_2))
theorem fn76 : FnOk Tryz.prog 76 p76_4 7 [.t 3] := ⟨false, Tryz.f76, _, Tryz.func76, by decide, rfl, by kernel_rfl, rfl, by kernel_rfl⟩
def F_blocking_Denies_c1_vb45  (N : Nat) (a1 : ApiBlock) (a2 : Int) : Option (Bool) :=
      (F_blocking_denies N a1 a2).bind fun r3 =>
    some r3
theorem P_blocking_Denies_c1_vb45  {N : Nat} {a1 : ApiBlock} {a2 : Int} {r : Bool} (h : F_blocking_Denies_c1_vb45 N a1 a2 = some r) : Pure Tryz.prog (Gl.at 0) 76 [(ApiBlock.v a1), (.imm [(i64 a2)] 0)] (.bool r) := by
  refine pure_run fn76 ?_
  rw [F_blocking_Denies_c1_vb45] at h
  replace h := bs h
  change GG [.t 3] _ [.pc p76_4] (mk 7 [(0, (ApiBlock.v a1)), (1, (.imm [(i64 a2)] 0))]) []
  refine go_bind h (fun r3 hr3 h => ?_)
  refine gx mo [.pc p76_2] 7 [(3, (.bool r3))] [.row 7 [(ApiBlock.v a1)]] 12 [tc 4 [.row 7 [(ApiBlock.v a1)]] (P_blocking_denies hr3) (fg (fs fl_nil))] ?_
  obtain rfl := Option.some.inj h
  exact gf (.bool r3) (.same rfl)
/-! slices.IndexFunc[[]corebank/api.Block,corebank/api.Block] -/
def p90_24 : PC := .ret
def p90_25 : PC := (.seq (.reg (oo 4 (.mv (.c (.int .i64 (-1)))) :: [])) p90_24)
def p90_16 : PC := (.reg (oo 18 (.bin .add .other true (.t 8) (.c (.int .i64 1))) :: om 8 18 :: []))
def p90_9 : PC := .ret
def p90_12 : PC := (.cond (.t 16) (.seq (.reg (om 17 5 :: om 4 17 :: [])) p90_9) .skip)
def p90_17 : PC := (.seq (.block 1 (.seq (.reg (om 10 8 :: om 5 10 :: [])) (.seq (.reg (om 11 1 :: om 12 0 :: om 13 5 :: oo 14 (.ia 7 (.t 12) (.t 13)) :: oo 15 (.ldA 7 (.t 14)) :: ⟨some 16, .dyn (.t 11) [.t 15], none⟩ :: [])) p90_12))) p90_16)
def p90_5 : PC := (.cond (.t 9) .skip (.exit 0))
def p90_20 : PC := (.loop (.seq (.reg (oo 9 (.bin .lss .other false (.t 8) (.t 7)) :: [])) (.seq p90_5 p90_17)))
def p90_27 : PC := (.seq (.reg (oo 4 (.mv (.c (.int .i64 0))) :: [])) (.seq (.seq (.reg (om 6 0 :: oo 7 (.len .slice (.t 6)) :: oo 8 (.mv (.c (.int .i64 0))) :: [])) (.block 0 p90_20)) p90_25))
theorem fn90 : FnOk Tryz.prog 90 p90_27 19 [.t 4] := ⟨false, Tryz.f90, _, Tryz.func90, by decide, rfl, by kernel_rfl, rfl, by kernel_rfl⟩
def L_slices_IndexFunc_api_Block_vf48_1 (N : Nat) (a1 : List ApiBlock) (a2 : Int) : Nat → Int → Option (Br (Int) (Unit))
  | 0, _ => none
  | m1 + 1, v1_0 =>
    bif decide (v1_0 < (a1.length : Int)) then
    ((getI a1 v1_0).bind fun y8 =>
    (F_blocking_Denies_c1_vb45 N y8 a2).bind fun r9 =>
    bif r9 then
    (some (.ret v1_0))
    else
    ((L_slices_IndexFunc_api_Block_vf48_1 N a1 a2 m1) (IntKind.wrap .i64 (v1_0 + 1))))
    else
    (some (.brk ()))
def K_slices_IndexFunc_api_Block_vf48_1 (N : Nat)  : Br (Int) (Unit) → Option (Int)
  | .ret r => some r
  | .brk _ =>
    some (-1)
def F_slices_IndexFunc_api_Block_vf48  (N : Nat) (a1 : List ApiBlock) (a2 : Int) : Option (Int) :=
      (L_slices_IndexFunc_api_Block_vf48_1 N a1 a2 N 0).bind (K_slices_IndexFunc_api_Block_vf48_1 N)
theorem P_slices_IndexFunc_api_Block_vf48  {N : Nat} {a1 : List ApiBlock} {a2 : Int} {r : Int} (h : F_slices_IndexFunc_api_Block_vf48 N a1 a2 = some r) : Pure Tryz.prog (Gl.at 0) 90 [(.sl (a1.map ApiBlock.v)), (.fn (.func 76) [] [(.imm [(i64 a2)] 0)])] (i64 r) := by
  refine pure_run fn90 ?_
  rw [F_slices_IndexFunc_api_Block_vf48] at h
  replace h := bs h
  change GG [.t 4] _ [.pc p90_27] (mk 19 [(0, (.sl (a1.map ApiBlock.v))), (1, (.fn (.func 76) [] [(.imm [(i64 a2)] 0)]))]) []
  refine gx mo [.pc p90_20, .blk 0, .pc p90_25] 19 [(0, (.sl (a1.map ApiBlock.v))), (1, (.fn (.func 76) [] [(.imm [(i64 a2)] 0)])), (7, (i64 (a1.length : Int))), (8, (i64 0))] [] 12 [tw 2 (E_len [] a1 ApiBlock.v)] ?_
  refine go_cut (X := Unit) (fun x => (K_slices_IndexFunc_api_Block_vf48_1 N (.brk x)).bind some = some r) ([.pc p90_25]) (fun x => (mk 19 [])) (fun x => []) ?_ fun kont1_0 => ?_
  · rintro _ h
    rw [K_slices_IndexFunc_api_Block_vf48_1] at h
    refine gx mo [.pc p90_24] 19 [(4, (i64 (-1)))] [] 4 [] ?_
    obtain rfl := Option.some.inj h
    exact gf (i64 (-1)) (.same rfl)
  refine go_loop' (fun m t s => ∃ (v1_0 : Int), (L_slices_IndexFunc_api_Block_vf48_1 N a1 a2 m v1_0).bind (fun q => (K_slices_IndexFunc_api_Block_vf48_1 N q).bind some) = some r ∧ t = (mk 19 [(0, (.sl (a1.map ApiBlock.v))), (1, (.fn (.func 76) [] [(.imm [(i64 a2)] 0)])), (7, (i64 (a1.length : Int))), (8, (i64 v1_0))]) ∧ s = []) N ⟨0, go_assoc h, rfl, rfl⟩ ?_
  intro m1 J1 hJ1 t s
  rintro ⟨v1_0, h, rfl, rfl⟩
  cases m1 with
  | zero => exact absurd h (by simp [L_slices_IndexFunc_api_Block_vf48_1])
  | succ m1 =>
    rw [L_slices_IndexFunc_api_Block_vf48_1] at h
    refine gx mo [.pc p90_5, .pc p90_17, .jp J1, .blk 0, .pc p90_25] 19 [(0, (.sl (a1.map ApiBlock.v))), (1, (.fn (.func 76) [] [(.imm [(i64 a2)] 0)])), (7, (i64 (a1.length : Int))), (8, (i64 v1_0)), (9, (.bool (decide (v1_0 < (a1.length : Int)))))] [] 5 [] ?_
    refine go_if h (fun hb7 h => ?_) (fun hb7 h => ?_)
    · rw [hb7]
      refine go_bind h (fun y8 hy8 h => ?_)
      refine go_bind h (fun r9 hr9 h => ?_)
      refine gx mo [.pc p90_12, .blk 1, .pc p90_16, .jp J1, .blk 0, .pc p90_25] 19 [(0, (.sl (a1.map ApiBlock.v))), (1, (.fn (.func 76) [] [(.imm [(i64 a2)] 0)])), (5, (i64 v1_0)), (7, (i64 (a1.length : Int))), (8, (i64 v1_0)), (16, (.bool r9))] [] 18 [tw 6 (E_ia [] ApiBlock.v .i64 hy8), td 8 [] [] [(.imm [(i64 a2)] 0)] [(ApiBlock.v y8)] (P_blocking_Denies_c1_vb45 hr9) (fg (fs fl_nil))] ?_
      refine go_if h (fun hb10 h => ?_) (fun hb10 h => ?_)
      · rw [hb10]
        refine gx mo [.pc p90_9, .blk 1, .pc p90_16, .jp J1, .blk 0, .pc p90_25] 19 [(4, (i64 v1_0))] [] 6 [] ?_
        obtain rfl := Option.some.inj h
        exact gf (i64 v1_0) (.same rfl)
      · rw [hb10]
        refine gx mo [.jp J1, .blk 0, .pc p90_25] 19 [(0, (.sl (a1.map ApiBlock.v))), (1, (.fn (.func 76) [] [(.imm [(i64 a2)] 0)])), (7, (i64 (a1.length : Int))), (8, (i64 (IntKind.wrap .i64 (v1_0 + 1))))] [] 7 [] ?_
        exact go_back rfl (hJ1 m1 _ _ (Nat.lt_succ_self m1) ⟨IntKind.wrap .i64 (v1_0 + 1), h, rfl, rfl⟩)
    · rw [hb7]
      refine gx mo [.pc p90_25] 19 [] [] 2 [] ?_
      exact kont1_0 () h
/-! slices.ContainsFunc[[]corebank/api.Block,corebank/api.Block] -/
def p75_2 : PC := .ret
def p75_4 : PC := (.seq (.reg (oo 4 (.mv (.c (.bool false))) :: [])) (.seq (.reg (om 5 0 :: om 6 1 :: ⟨some 7, .call 90 [.t 5, .t 6], none⟩ :: oo 8 (.bin .geq .other true (.t 7) (.c (.int .i64 0))) :: om 4 8 :: [])) p75_2))
theorem fn75 : FnOk Tryz.prog 75 p75_4 9 [.t 4] := ⟨false, Tryz.f75, _, Tryz.func75, by decide, rfl, by kernel_rfl, rfl, by kernel_rfl⟩
def F_slices_ContainsFunc_api_Block_vf48  (N : Nat) (a1 : List ApiBlock) (a2 : Int) : Option (Bool) :=
      (F_slices_IndexFunc_api_Block_vf48 N a1 a2).bind fun r3 =>
    some (decide (0 ≤ r3))
theorem P_slices_ContainsFunc_api_Block_vf48  {N : Nat} {a1 : List ApiBlock} {a2 : Int} {r : Bool} (h : F_slices_ContainsFunc_api_Block_vf48 N a1 a2 = some r) : Pure Tryz.prog (Gl.at 0) 75 [(.sl (a1.map ApiBlock.v)), (.fn (.func 76) [] [(.imm [(i64 a2)] 0)])] (.bool r) := by
  refine pure_run fn75 ?_
  rw [F_slices_ContainsFunc_api_Block_vf48] at h
  replace h := bs h
  change GG [.t 4] _ [.pc p75_4] (mk 9 [(0, (.sl (a1.map ApiBlock.v))), (1, (.fn (.func 76) [] [(.imm [(i64 a2)] 0)]))]) []
  refine go_bind h (fun r3 hr3 h => ?_)
  refine gx mo [.pc p75_2] 9 [(4, (.bool (decide (0 ≤ r3))))] [] 12 [tc 3 [] (P_slices_IndexFunc_api_Block_vf48 hr3) (fs (fl_cons (f_fn fl_nil (fl_cons (.same rfl) fl_nil)) fl_nil))] ?_
  obtain rfl := Option.some.inj h
  exact gf (.bool (decide (0 ≤ r3))) (.same rfl)
/-! corebank/blocking.Denies -/
def p54_2 : PC := .ret
def p54_4 : PC := (.seq (.reg (oo 7 (.box (.t 3)) :: oo 8 (.mv (.c (.bool false))) :: [])) (.seq (.reg (om 9 0 :: om 10 1 :: om 11 2 :: ⟨some 12, .call 68 [.t 9, .t 10, .t 11], none⟩ :: oo 13 (.fn (.func 76) [] [.t 7]) :: ⟨some 14, .call 75 [.t 12, .t 13], none⟩ :: om 8 14 :: [])) p54_2))
theorem fn54 : FnOk Tryz.prog 54 p54_4 15 [.t 8] := ⟨false, Tryz.f54, _, Tryz.func54, by decide, rfl, by kernel_rfl, rfl, by kernel_rfl⟩
def F_blocking_Denies  (N : Nat) (a1 : List ApiBlock) (a2 : Int) (a3 : Int) (a4 : Int) : Option (Bool) :=
      (F_blocking_Active N a1 a2 a3).bind fun r5 =>
    (F_slices_ContainsFunc_api_Block_vf48 N r5 a4).bind fun r6 =>
    some r6
theorem P_blocking_Denies  {N : Nat} {a1 : List ApiBlock} {a2 : Int} {a3 : Int} {a4 : Int} {r : Bool} (h : F_blocking_Denies N a1 a2 a3 a4 = some r) : Pure Tryz.prog (Gl.at 0) 54 [(.sl (a1.map ApiBlock.v)), (i64 a2), (i64 a3), (i64 a4)] (.bool r) := by
  refine pure_run fn54 ?_
  rw [F_blocking_Denies] at h
  replace h := bs h
  change GG [.t 8] _ [.pc p54_4] (mk 15 [(0, (.sl (a1.map ApiBlock.v))), (1, (i64 a2)), (2, (i64 a3)), (3, (i64 a4))]) []
  refine go_bind h (fun r5 hr5 h => ?_)
  refine go_bind h (fun r6 hr6 h => ?_)
  refine gx mo [.pc p54_2] 15 [(8, (.bool r6))] [.row 1 [(i64 a4)]] 15 [tcc 5 [.row 1 [(i64 a4)]] (P_blocking_Active hr5) (fs (fs (fs fl_nil))), tc 7 [.row 1 [(i64 a4)]] (P_slices_ContainsFunc_api_Block_vf48 hr6) (fs (fl_cons (f_fn fl_nil (fl_cons (f_ref (c := 0) (u := (i64 a4)) rfl (.same rfl)) fl_nil)) fl_nil))] ?_
  obtain rfl := Option.some.inj h
  exact gf (.bool r6) (.same rfl)
/-! corebank/product.Vars -/
def p92_35 : PC := .ret
def p92_36 : PC := (.seq (.reg (om 26 1 :: oo 27 (.build [.str [], .int .i64 0] [(0, 1, .c (.str [100, 97, 121])), (1, 1, .c (.int .i64 4))]) :: oo 28 (.lit (.agg [.str [], .int .i64 0]) 1 [(0, .t 27)]) :: oo 29 (.app 2 24 (.t 26) (.t 28)) :: om 0 29 :: [])) p92_35)
def p92_28 : PC := (.seq (.block 3 (.seq (.reg (oo 19 (.ixA 2 none 1 (.t 16) (.t 17)) :: om 5 19 :: [])) (.reg (om 20 1 :: om 21 5 :: oo 22 (.build [.str [], .int .i64 0] [(0, 1, .t 21), (1, 1, .c (.int .i64 1))]) :: oo 23 (.lit (.agg [.str [], .int .i64 0]) 1 [(0, .t 22)]) :: oo 24 (.app 2 24 (.t 20) (.t 23)) :: om 1 24 :: [])))) (.reg (oo 25 (.bin .add .other true (.t 17) (.c (.int .i64 1))) :: om 17 25 :: [])))
def p92_22 : PC := (.cond (.t 18) .skip (.exit 2))
def p92_31 : PC := (.loop (.seq (.reg (oo 18 (.bin .lss .other true (.t 17) (.c (.int .i64 2))) :: [])) (.seq p92_22 p92_28)))
def p92_37 : PC := (.seq (.seq (.reg (oo 16 (.build [.str [], .str []] [(0, 1, .c (.str [99, 111, 117, 110, 116])), (1, 1, .c (.str [97, 103, 101]))]) :: oo 17 (.mv (.c (.int .i64 0))) :: [])) (.block 2 p92_31)) p92_36)
def p92_12 : PC := (.seq (.block 1 (.seq (.reg (oo 9 (.ixA 4 none 1 (.t 6) (.t 7)) :: om 3 9 :: [])) (.reg (om 10 1 :: om 11 3 :: oo 12 (.build [.str [], .int .i64 0] [(0, 1, .t 11), (1, 1, .c (.int .i64 2))]) :: oo 13 (.lit (.agg [.str [], .int .i64 0]) 1 [(0, .t 12)]) :: oo 14 (.app 2 24 (.t 10) (.t 13)) :: om 1 14 :: [])))) (.reg (oo 15 (.bin .add .other true (.t 7) (.c (.int .i64 1))) :: om 7 15 :: [])))
def p92_6 : PC := (.cond (.t 8) .skip (.exit 0))
def p92_15 : PC := (.loop (.seq (.reg (oo 8 (.bin .lss .other true (.t 7) (.c (.int .i64 4))) :: [])) (.seq p92_6 p92_12)))
def p92_40 : PC := (.seq (.reg (oo 0 (.mv (.c .nils)) :: [])) (.seq (.reg (oo 1 (.mv (.c .nils)) :: [])) (.seq (.seq (.reg (oo 6 (.build [.str [], .str [], .str [], .str []] [(0, 1, .c (.str [98, 97, 108, 97, 110, 99, 101])), (1, 1, .c (.str [108, 111, 119, 101, 115, 116])), (2, 1, .c (.str [118, 111, 108, 117, 109, 101])), (3, 1, .c (.str [97, 109, 111, 117, 110, 116]))]) :: oo 7 (.mv (.c (.int .i64 0))) :: [])) (.block 0 p92_15)) p92_37)))
theorem fn92 : FnOk Tryz.prog 92 p92_40 30 [.t 0] := ⟨false, Tryz.f92, _, Tryz.func92, by decide, rfl, by kernel_rfl, rfl, by kernel_rfl⟩
def L_product_Vars_2 (N : Nat)  : Nat → (List ApiVar) → Int → Option ((List ApiVar))
  | 0, _, _ => none
  | m2 + 1, v2_0, v2_1 =>
    bif decide (v2_1 < 2) then
    ((getI ([[99, 111, 117, 110, 116], [97, 103, 101]] : List (List UInt8)) v2_1).bind fun y9 =>
    (appI 24 v2_0 ([(⟨y9, 1⟩ : ApiVar)] : List ApiVar)).bind fun l10 =>
    (L_product_Vars_2 N m2) l10 (IntKind.wrap .i64 (v2_1 + 1)))
    else
    (some v2_0)
def K_product_Vars_2 (N : Nat)  : ((List ApiVar)) → Option ((List ApiVar))
  | x2_0 =>
    (appI 24 x2_0 ([(⟨[100, 97, 121], 4⟩ : ApiVar)] : List ApiVar)).bind fun l7 =>
    some l7
def L_product_Vars_1 (N : Nat)  : Nat → (List ApiVar) → Int → Option ((List ApiVar))
  | 0, _, _ => none
  | m1 + 1, v1_0, v1_1 =>
    bif decide (v1_1 < 4) then
    ((getI ([[98, 97, 108, 97, 110, 99, 101], [108, 111, 119, 101, 115, 116], [118, 111, 108, 117, 109, 101], [97, 109, 111, 117, 110, 116]] : List (List UInt8)) v1_1).bind fun y12 =>
    (appI 24 v1_0 ([(⟨y12, 2⟩ : ApiVar)] : List ApiVar)).bind fun l13 =>
    (L_product_Vars_1 N m1) l13 (IntKind.wrap .i64 (v1_1 + 1)))
    else
    (some v1_0)
def K_product_Vars_1 (N : Nat)  : ((List ApiVar)) → Option ((List ApiVar))
  | x1_0 =>
    (L_product_Vars_2 N N x1_0 0).bind (K_product_Vars_2 N)
def F_product_Vars  (N : Nat)  : Option ((List ApiVar)) :=
      (L_product_Vars_1 N N [] 0).bind (K_product_Vars_1 N)
theorem P_product_Vars  {N : Nat}  {r : (List ApiVar)} (h : F_product_Vars N  = some r) : Pure Tryz.prog (Gl.at 0) 92 [] (.sl (r.map ApiVar.v)) := by
  refine pure_run fn92 ?_
  rw [F_product_Vars] at h
  replace h := bs h
  change GG [.t 0] _ [.pc p92_40] (mk 30 []) []
  refine gx mo [.pc p92_15, .blk 0, .pc p92_37] 30 [(1, .nils), (6, (.agg [(.str [98, 97, 108, 97, 110, 99, 101]), (.str [108, 111, 119, 101, 115, 116]), (.str [118, 111, 108, 117, 109, 101]), (.str [97, 109, 111, 117, 110, 116])])), (7, (i64 0))] [] 15 [] ?_
  refine go_cut (X := (List ApiVar)) (fun x => x = [] ∧ (K_product_Vars_1 N x).bind some = some r) ([.pc p92_37]) (fun x => (mk 30 [(1, .nils)])) (fun x => []) ?_ fun kont1_0 => ?_
  · rintro x1_0 ⟨hx0, h⟩
    obtain rfl : x1_0 = [] := hx0
    rw [K_product_Vars_1] at h
    refine gx mo [.pc p92_31, .blk 2, .pc p92_36] 30 [(1, .nils), (16, (.agg [(.str [99, 111, 117, 110, 116]), (.str [97, 103, 101])])), (17, (i64 0))] [] 7 [] ?_
    refine go_cut (X := (List ApiVar)) (fun x => x = [] ∧ (K_product_Vars_2 N x).bind some = some r) ([.pc p92_36]) (fun x => (mk 30 [(1, .nils)])) (fun x => []) ?_ fun kont2_0 => ?_
    · rintro x2_0 ⟨hx0, h⟩
      obtain rfl : x2_0 = [] := hx0
      rw [K_product_Vars_2] at h
      refine go_bind h (fun l7 hl7 h => ?_)
      refine gx mo [.pc p92_35] 30 [(0, (.osl 0 0 l7.length))] [.row 2 (l7.map ApiVar.v)] 8 [tw 3 (s := []) (s' := [.row 2 (l7.map ApiVar.v)]) (q := (.app 2 24 (.c .nils) (.c (.sl [(.agg [(.str [100, 97, 121]), (i64 4)])])))) (v := (.osl 0 0 l7.length)) (e_app0 (f := ApiVar.v) (ys := ([(⟨[100, 97, 121], 4⟩ : ApiVar)] : List ApiVar)) (.inl rfl) (fun _ => rfl) (fun _ => rfl) rfl hl7)] ?_
      obtain rfl := Option.some.inj h
      exact gf (.osl 0 0 l7.length) (f_osl (c := 0) rfl (fun _ => rfl) (fun _ => rfl) rfl)
    refine go_cut (X := (List ApiVar)) (fun x => (K_product_Vars_2 N x).bind some = some r) ([.pc p92_36]) (fun x => (mk 30 [(1, (.osl 0 0 x.length))])) (fun x => [.row 2 (x.map ApiVar.v)]) ?_ fun kont2_1 => ?_
    · rintro x2_0 h
      rw [K_product_Vars_2] at h
      refine go_bind h (fun l7 hl7 h => ?_)
      refine gx mo [.pc p92_35] 30 [(0, (.osl 1 0 l7.length))] [.dead, .row 2 (l7.map ApiVar.v)] 8 [tw 3 (s := [.row 2 (x2_0.map ApiVar.v)]) (s' := [.dead, .row 2 (l7.map ApiVar.v)]) (q := (.app 2 24 (.c (.osl 0 0 x2_0.length)) (.c (.sl [(.agg [(.str [100, 97, 121]), (i64 4)])])))) (v := (.osl 1 0 l7.length)) (e_app (f := ApiVar.v) (ys := ([(⟨[100, 97, 121], 4⟩ : ApiVar)] : List ApiVar)) rfl (fun _ => rfl) (fun _ => rfl) rfl hl7 rfl)] ?_
      obtain rfl := Option.some.inj h
      exact gf (.osl 1 0 l7.length) (f_osl (c := 1) rfl (fun _ => rfl) (fun _ => rfl) rfl)
    refine go_loop' (fun m t s => ∃ (v2_0 : List ApiVar) (v2_1 : Int), (L_product_Vars_2 N m v2_0 v2_1).bind (fun q => (K_product_Vars_2 N q).bind some) = some r ∧ ((v2_0 = [] ∧ t = (mk 30 [(1, .nils), (16, (.agg [(.str [99, 111, 117, 110, 116]), (.str [97, 103, 101])])), (17, (i64 v2_1))]) ∧ s = []) ∨ (t = (mk 30 [(1, (.osl 0 0 v2_0.length)), (16, (.agg [(.str [99, 111, 117, 110, 116]), (.str [97, 103, 101])])), (17, (i64 v2_1))]) ∧ s = [.row 2 (v2_0.map ApiVar.v)]))) N ⟨[], 0, go_assoc h, .inl ⟨rfl, rfl, rfl⟩⟩ ?_
    intro m2 J2 hJ2 t s
    rintro ⟨v2_0, v2_1, h, hsh⟩
    cases m2 with
    | zero => exact absurd h (by simp [L_product_Vars_2])
    | succ m2 =>
      rw [L_product_Vars_2] at h
      rcases hsh with ⟨rfl, rfl, rfl⟩ | ⟨rfl, rfl⟩
      · refine gx mo [.pc p92_22, .pc p92_28, .jp J2, .blk 2, .pc p92_36] 30 [(1, .nils), (16, (.agg [(.str [99, 111, 117, 110, 116]), (.str [97, 103, 101])])), (17, (i64 v2_1)), (18, (.bool (decide (v2_1 < 2))))] [] 5 [] ?_
        refine go_if h (fun hb8 h => ?_) (fun hb8 h => ?_)
        · rw [hb8]
          refine go_bind h (fun y9 hy9 h => ?_)
          refine go_bind h (fun l10 hl10 h => ?_)
          refine gx mo [.jp J2, .blk 2, .pc p92_36] 30 [(1, (.osl 0 0 l10.length)), (16, (.agg [(.str [99, 111, 117, 110, 116]), (.str [97, 103, 101])])), (17, (i64 (IntKind.wrap .i64 (v2_1 + 1))))] [.row 2 (l10.map ApiVar.v)] 22 [tw 1 (s := []) (s' := []) (q := (.ixA 2 none 1 (.c (.agg [(.str [99, 111, 117, 110, 116]), (.str [97, 103, 101])])) (.c (i64 v2_1)))) (v := (.str y9)) (e_ixA (f := V.str) (l := ([[99, 111, 117, 110, 116], [97, 103, 101]] : List (List UInt8))) hy9 rfl), tw 7 (s := []) (s' := [.row 2 (l10.map ApiVar.v)]) (q := (.app 2 24 (.c .nils) (.c (.sl [(.agg [(.str y9), (i64 1)])])))) (v := (.osl 0 0 l10.length)) (e_app0 (f := ApiVar.v) (ys := ([(⟨y9, 1⟩ : ApiVar)] : List ApiVar)) (.inl rfl) (fun _ => rfl) (fun _ => rfl) rfl hl10)] ?_
          exact go_back rfl (hJ2 m2 _ _ (Nat.lt_succ_self m2) ⟨l10, IntKind.wrap .i64 (v2_1 + 1), h, .inr (⟨rfl, rfl⟩)⟩)
        · rw [hb8]
          refine gx mo [.pc p92_36] 30 [(1, .nils)] [] 2 [] ?_
          exact kont2_0 [] ⟨rfl, h⟩
      · refine gx mo [.pc p92_22, .pc p92_28, .jp J2, .blk 2, .pc p92_36] 30 [(1, (.osl 0 0 v2_0.length)), (16, (.agg [(.str [99, 111, 117, 110, 116]), (.str [97, 103, 101])])), (17, (i64 v2_1)), (18, (.bool (decide (v2_1 < 2))))] [.row 2 (v2_0.map ApiVar.v)] 5 [] ?_
        refine go_if h (fun hb8 h => ?_) (fun hb8 h => ?_)
        · rw [hb8]
          refine go_bind h (fun y9 hy9 h => ?_)
          refine go_bind h (fun l10 hl10 h => ?_)
          refine gx mo [.jp J2, .blk 2, .pc p92_36] 30 [(1, (.osl 1 0 l10.length)), (16, (.agg [(.str [99, 111, 117, 110, 116]), (.str [97, 103, 101])])), (17, (i64 (IntKind.wrap .i64 (v2_1 + 1))))] [.dead, .row 2 (l10.map ApiVar.v)] 22 [tw 1 (s := [.row 2 (v2_0.map ApiVar.v)]) (s' := [.row 2 (v2_0.map ApiVar.v)]) (q := (.ixA 2 none 1 (.c (.agg [(.str [99, 111, 117, 110, 116]), (.str [97, 103, 101])])) (.c (i64 v2_1)))) (v := (.str y9)) (e_ixA (f := V.str) (l := ([[99, 111, 117, 110, 116], [97, 103, 101]] : List (List UInt8))) hy9 rfl), tw 7 (s := [.row 2 (v2_0.map ApiVar.v)]) (s' := [.dead, .row 2 (l10.map ApiVar.v)]) (q := (.app 2 24 (.c (.osl 0 0 v2_0.length)) (.c (.sl [(.agg [(.str y9), (i64 1)])])))) (v := (.osl 1 0 l10.length)) (e_app (f := ApiVar.v) (ys := ([(⟨y9, 1⟩ : ApiVar)] : List ApiVar)) rfl (fun _ => rfl) (fun _ => rfl) rfl hl10 rfl)] ?_
          refine go_pick [1] [] [(1, 0), (16, 0), (17, 0)] (t' := (mk 30 [(1, (.osl 0 0 l10.length)), (16, (.agg [(.str [99, 111, 117, 110, 116]), (.str [97, 103, 101])])), (17, (i64 (IntKind.wrap .i64 (v2_1 + 1))))])) (s' := [.row 2 (l10.map ApiVar.v)]) (by kernel_rfl) ⟨clo_map (fun _ => rfl) _, trivial⟩ rfl ?_
          exact go_back rfl (hJ2 m2 _ _ (Nat.lt_succ_self m2) ⟨l10, IntKind.wrap .i64 (v2_1 + 1), h, .inr (⟨rfl, rfl⟩)⟩)
        · rw [hb8]
          refine gx mo [.pc p92_36] 30 [(1, (.osl 0 0 v2_0.length))] [.row 2 (v2_0.map ApiVar.v)] 2 [] ?_
          exact kont2_1 v2_0 h
  refine go_cut (X := (List ApiVar)) (fun x => (K_product_Vars_1 N x).bind some = some r) ([.pc p92_37]) (fun x => (mk 30 [(1, (.osl 0 0 x.length))])) (fun x => [.row 2 (x.map ApiVar.v)]) ?_ fun kont1_1 => ?_
  · rintro x1_0 h
    rw [K_product_Vars_1] at h
    refine gx mo [.pc p92_31, .blk 2, .pc p92_36] 30 [(1, (.osl 0 0 x1_0.length)), (16, (.agg [(.str [99, 111, 117, 110, 116]), (.str [97, 103, 101])])), (17, (i64 0))] [.row 2 (x1_0.map ApiVar.v)] 7 [] ?_
    refine go_cut (X := (List ApiVar)) (fun x => (K_product_Vars_2 N x).bind some = some r) ([.pc p92_36]) (fun x => (mk 30 [(1, (.osl 0 0 x.length))])) (fun x => [.row 2 (x.map ApiVar.v)]) ?_ fun kont2_0 => ?_
    · rintro x2_0 h
      rw [K_product_Vars_2] at h
      refine go_bind h (fun l7 hl7 h => ?_)
      refine gx mo [.pc p92_35] 30 [(0, (.osl 1 0 l7.length))] [.dead, .row 2 (l7.map ApiVar.v)] 8 [tw 3 (s := [.row 2 (x2_0.map ApiVar.v)]) (s' := [.dead, .row 2 (l7.map ApiVar.v)]) (q := (.app 2 24 (.c (.osl 0 0 x2_0.length)) (.c (.sl [(.agg [(.str [100, 97, 121]), (i64 4)])])))) (v := (.osl 1 0 l7.length)) (e_app (f := ApiVar.v) (ys := ([(⟨[100, 97, 121], 4⟩ : ApiVar)] : List ApiVar)) rfl (fun _ => rfl) (fun _ => rfl) rfl hl7 rfl)] ?_
      obtain rfl := Option.some.inj h
      exact gf (.osl 1 0 l7.length) (f_osl (c := 1) rfl (fun _ => rfl) (fun _ => rfl) rfl)
    refine go_loop' (fun m t s => ∃ (v2_0 : List ApiVar) (v2_1 : Int), (L_product_Vars_2 N m v2_0 v2_1).bind (fun q => (K_product_Vars_2 N q).bind some) = some r ∧ t = (mk 30 [(1, (.osl 0 0 v2_0.length)), (16, (.agg [(.str [99, 111, 117, 110, 116]), (.str [97, 103, 101])])), (17, (i64 v2_1))]) ∧ s = [.row 2 (v2_0.map ApiVar.v)]) N ⟨x1_0, 0, go_assoc h, rfl, rfl⟩ ?_
    intro m2 J2 hJ2 t s
    rintro ⟨v2_0, v2_1, h, rfl, rfl⟩
    cases m2 with
    | zero => exact absurd h (by simp [L_product_Vars_2])
    | succ m2 =>
      rw [L_product_Vars_2] at h
      refine gx mo [.pc p92_22, .pc p92_28, .jp J2, .blk 2, .pc p92_36] 30 [(1, (.osl 0 0 v2_0.length)), (16, (.agg [(.str [99, 111, 117, 110, 116]), (.str [97, 103, 101])])), (17, (i64 v2_1)), (18, (.bool (decide (v2_1 < 2))))] [.row 2 (v2_0.map ApiVar.v)] 5 [] ?_
      refine go_if h (fun hb8 h => ?_) (fun hb8 h => ?_)
      · rw [hb8]
        refine go_bind h (fun y9 hy9 h => ?_)
        refine go_bind h (fun l10 hl10 h => ?_)
        refine gx mo [.jp J2, .blk 2, .pc p92_36] 30 [(1, (.osl 1 0 l10.length)), (16, (.agg [(.str [99, 111, 117, 110, 116]), (.str [97, 103, 101])])), (17, (i64 (IntKind.wrap .i64 (v2_1 + 1))))] [.dead, .row 2 (l10.map ApiVar.v)] 22 [tw 1 (s := [.row 2 (v2_0.map ApiVar.v)]) (s' := [.row 2 (v2_0.map ApiVar.v)]) (q := (.ixA 2 none 1 (.c (.agg [(.str [99, 111, 117, 110, 116]), (.str [97, 103, 101])])) (.c (i64 v2_1)))) (v := (.str y9)) (e_ixA (f := V.str) (l := ([[99, 111, 117, 110, 116], [97, 103, 101]] : List (List UInt8))) hy9 rfl), tw 7 (s := [.row 2 (v2_0.map ApiVar.v)]) (s' := [.dead, .row 2 (l10.map ApiVar.v)]) (q := (.app 2 24 (.c (.osl 0 0 v2_0.length)) (.c (.sl [(.agg [(.str y9), (i64 1)])])))) (v := (.osl 1 0 l10.length)) (e_app (f := ApiVar.v) (ys := ([(⟨y9, 1⟩ : ApiVar)] : List ApiVar)) rfl (fun _ => rfl) (fun _ => rfl) rfl hl10 rfl)] ?_
        refine go_pick [1] [] [(1, 0), (16, 0), (17, 0)] (t' := (mk 30 [(1, (.osl 0 0 l10.length)), (16, (.agg [(.str [99, 111, 117, 110, 116]), (.str [97, 103, 101])])), (17, (i64 (IntKind.wrap .i64 (v2_1 + 1))))])) (s' := [.row 2 (l10.map ApiVar.v)]) (by kernel_rfl) ⟨clo_map (fun _ => rfl) _, trivial⟩ rfl ?_
        exact go_back rfl (hJ2 m2 _ _ (Nat.lt_succ_self m2) ⟨l10, IntKind.wrap .i64 (v2_1 + 1), h, rfl, rfl⟩)
      · rw [hb8]
        refine gx mo [.pc p92_36] 30 [(1, (.osl 0 0 v2_0.length))] [.row 2 (v2_0.map ApiVar.v)] 2 [] ?_
        exact kont2_0 v2_0 h
  refine go_loop' (fun m t s => ∃ (v1_0 : List ApiVar) (v1_1 : Int), (L_product_Vars_1 N m v1_0 v1_1).bind (fun q => (K_product_Vars_1 N q).bind some) = some r ∧ ((v1_0 = [] ∧ t = (mk 30 [(1, .nils), (6, (.agg [(.str [98, 97, 108, 97, 110, 99, 101]), (.str [108, 111, 119, 101, 115, 116]), (.str [118, 111, 108, 117, 109, 101]), (.str [97, 109, 111, 117, 110, 116])])), (7, (i64 v1_1))]) ∧ s = []) ∨ (t = (mk 30 [(1, (.osl 0 0 v1_0.length)), (6, (.agg [(.str [98, 97, 108, 97, 110, 99, 101]), (.str [108, 111, 119, 101, 115, 116]), (.str [118, 111, 108, 117, 109, 101]), (.str [97, 109, 111, 117, 110, 116])])), (7, (i64 v1_1))]) ∧ s = [.row 2 (v1_0.map ApiVar.v)]))) N ⟨[], 0, go_assoc h, .inl ⟨rfl, rfl, rfl⟩⟩ ?_
  intro m1 J1 hJ1 t s
  rintro ⟨v1_0, v1_1, h, hsh⟩
  cases m1 with
  | zero => exact absurd h (by simp [L_product_Vars_1])
  | succ m1 =>
    rw [L_product_Vars_1] at h
    rcases hsh with ⟨rfl, rfl, rfl⟩ | ⟨rfl, rfl⟩
    · refine gx mo [.pc p92_6, .pc p92_12, .jp J1, .blk 0, .pc p92_37] 30 [(1, .nils), (6, (.agg [(.str [98, 97, 108, 97, 110, 99, 101]), (.str [108, 111, 119, 101, 115, 116]), (.str [118, 111, 108, 117, 109, 101]), (.str [97, 109, 111, 117, 110, 116])])), (7, (i64 v1_1)), (8, (.bool (decide (v1_1 < 4))))] [] 5 [] ?_
      refine go_if h (fun hb11 h => ?_) (fun hb11 h => ?_)
      · rw [hb11]
        refine go_bind h (fun y12 hy12 h => ?_)
        refine go_bind h (fun l13 hl13 h => ?_)
        refine gx mo [.jp J1, .blk 0, .pc p92_37] 30 [(1, (.osl 0 0 l13.length)), (6, (.agg [(.str [98, 97, 108, 97, 110, 99, 101]), (.str [108, 111, 119, 101, 115, 116]), (.str [118, 111, 108, 117, 109, 101]), (.str [97, 109, 111, 117, 110, 116])])), (7, (i64 (IntKind.wrap .i64 (v1_1 + 1))))] [.row 2 (l13.map ApiVar.v)] 22 [tw 1 (s := []) (s' := []) (q := (.ixA 4 none 1 (.c (.agg [(.str [98, 97, 108, 97, 110, 99, 101]), (.str [108, 111, 119, 101, 115, 116]), (.str [118, 111, 108, 117, 109, 101]), (.str [97, 109, 111, 117, 110, 116])])) (.c (i64 v1_1)))) (v := (.str y12)) (e_ixA (f := V.str) (l := ([[98, 97, 108, 97, 110, 99, 101], [108, 111, 119, 101, 115, 116], [118, 111, 108, 117, 109, 101], [97, 109, 111, 117, 110, 116]] : List (List UInt8))) hy12 rfl), tw 7 (s := []) (s' := [.row 2 (l13.map ApiVar.v)]) (q := (.app 2 24 (.c .nils) (.c (.sl [(.agg [(.str y12), (i64 2)])])))) (v := (.osl 0 0 l13.length)) (e_app0 (f := ApiVar.v) (ys := ([(⟨y12, 2⟩ : ApiVar)] : List ApiVar)) (.inl rfl) (fun _ => rfl) (fun _ => rfl) rfl hl13)] ?_
        exact go_back rfl (hJ1 m1 _ _ (Nat.lt_succ_self m1) ⟨l13, IntKind.wrap .i64 (v1_1 + 1), h, .inr (⟨rfl, rfl⟩)⟩)
      · rw [hb11]
        refine gx mo [.pc p92_37] 30 [(1, .nils)] [] 2 [] ?_
        exact kont1_0 [] ⟨rfl, h⟩
    · refine gx mo [.pc p92_6, .pc p92_12, .jp J1, .blk 0, .pc p92_37] 30 [(1, (.osl 0 0 v1_0.length)), (6, (.agg [(.str [98, 97, 108, 97, 110, 99, 101]), (.str [108, 111, 119, 101, 115, 116]), (.str [118, 111, 108, 117, 109, 101]), (.str [97, 109, 111, 117, 110, 116])])), (7, (i64 v1_1)), (8, (.bool (decide (v1_1 < 4))))] [.row 2 (v1_0.map ApiVar.v)] 5 [] ?_
      refine go_if h (fun hb11 h => ?_) (fun hb11 h => ?_)
      · rw [hb11]
        refine go_bind h (fun y12 hy12 h => ?_)
        refine go_bind h (fun l13 hl13 h => ?_)
        refine gx mo [.jp J1, .blk 0, .pc p92_37] 30 [(1, (.osl 1 0 l13.length)), (6, (.agg [(.str [98, 97, 108, 97, 110, 99, 101]), (.str [108, 111, 119, 101, 115, 116]), (.str [118, 111, 108, 117, 109, 101]), (.str [97, 109, 111, 117, 110, 116])])), (7, (i64 (IntKind.wrap .i64 (v1_1 + 1))))] [.dead, .row 2 (l13.map ApiVar.v)] 22 [tw 1 (s := [.row 2 (v1_0.map ApiVar.v)]) (s' := [.row 2 (v1_0.map ApiVar.v)]) (q := (.ixA 4 none 1 (.c (.agg [(.str [98, 97, 108, 97, 110, 99, 101]), (.str [108, 111, 119, 101, 115, 116]), (.str [118, 111, 108, 117, 109, 101]), (.str [97, 109, 111, 117, 110, 116])])) (.c (i64 v1_1)))) (v := (.str y12)) (e_ixA (f := V.str) (l := ([[98, 97, 108, 97, 110, 99, 101], [108, 111, 119, 101, 115, 116], [118, 111, 108, 117, 109, 101], [97, 109, 111, 117, 110, 116]] : List (List UInt8))) hy12 rfl), tw 7 (s := [.row 2 (v1_0.map ApiVar.v)]) (s' := [.dead, .row 2 (l13.map ApiVar.v)]) (q := (.app 2 24 (.c (.osl 0 0 v1_0.length)) (.c (.sl [(.agg [(.str y12), (i64 2)])])))) (v := (.osl 1 0 l13.length)) (e_app (f := ApiVar.v) (ys := ([(⟨y12, 2⟩ : ApiVar)] : List ApiVar)) rfl (fun _ => rfl) (fun _ => rfl) rfl hl13 rfl)] ?_
        refine go_pick [1] [] [(1, 0), (6, 0), (7, 0)] (t' := (mk 30 [(1, (.osl 0 0 l13.length)), (6, (.agg [(.str [98, 97, 108, 97, 110, 99, 101]), (.str [108, 111, 119, 101, 115, 116]), (.str [118, 111, 108, 117, 109, 101]), (.str [97, 109, 111, 117, 110, 116])])), (7, (i64 (IntKind.wrap .i64 (v1_1 + 1))))])) (s' := [.row 2 (l13.map ApiVar.v)]) (by kernel_rfl) ⟨clo_map (fun _ => rfl) _, trivial⟩ rfl ?_
        exact go_back rfl (hJ1 m1 _ _ (Nat.lt_succ_self m1) ⟨l13, IntKind.wrap .i64 (v1_1 + 1), h, .inr (⟨rfl, rfl⟩)⟩)
      · rw [hb11]
        refine gx mo [.pc p92_37] 30 [(1, (.osl 0 0 v1_0.length))] [.row 2 (v1_0.map ApiVar.v)] 2 [] ?_
        exact kont1_1 v1_0 h
/-! corebank/expr.Nodes -/
def p115_19 : PC := .ret
def p115_20 : PC := (.seq (.reg (om 18 3 :: om 2 18 :: [])) p115_19)
def p115_12 : PC := (.seq (.block 1 (.seq (.reg (oo 11 (.ia 4 (.t 7) (.t 9)) :: oo 12 (.ldA 4 (.t 11)) :: oo 5 (.new (.agg [.int .i64 0, .int .i64 0, .str [], .nils])) :: on_ (.st 4 (.t 5) (.t 12)) :: [])) (.reg (om 13 3 :: oo 14 (.ldA 4 (.t 5)) :: ⟨some 15, .call 115 [.t 14], none⟩ :: oo 16 (.bin .add .other false (.t 13) (.t 15)) :: om 3 16 :: [])))) (.reg (oo 17 (.bin .add .other true (.t 9) (.c (.int .i64 1))) :: om 9 17 :: [])))
def p115_6 : PC := (.cond (.t 10) .skip (.exit 0))
def p115_15 : PC := (.loop (.seq (.reg (oo 10 (.bin .lss .other false (.t 9) (.t 8)) :: [])) (.seq p115_6 p115_12)))
def p115_23 : PC := (.seq (.reg (oo 1 (.box (.t 0)) :: oo 2 (.mv (.c (.int .i64 0))) :: [])) (.seq (.reg (oo 3 (.mv (.c (.int .i64 1))) :: [])) (.seq (.seq (.reg (oo 6 (.fa 3 (.t 1)) :: oo 7 (.ld1 (.t 6)) :: oo 8 (.len .slice (.t 7)) :: oo 9 (.mv (.c (.int .i64 0))) :: [])) (.block 0 p115_15)) p115_20)))
theorem fn115 : FnOk Tryz.prog 115 p115_23 19 [.t 2] := ⟨false, Tryz.f115, _, Tryz.func115, by decide, rfl, by kernel_rfl, rfl, by kernel_rfl⟩
def L_expr_Nodes_1 (N : Nat) (a1 : ApiExpr) : Nat → Int → Int → Option (Int)
  | 0, _, _ => none
  | m1 + 1, v1_0, v1_1 =>
    bif decide (v1_1 < (a1.Args_.length : Int)) then
    (none)
    else
    (some v1_0)
def K_expr_Nodes_1 (N : Nat)  : (Int) → Option (Int)
  | x1_0 =>
    some x1_0
def F_expr_Nodes  (N : Nat) (a1 : ApiExpr) : Option (Int) :=
      (L_expr_Nodes_1 N a1 N 1 0).bind (K_expr_Nodes_1 N)
theorem P_expr_Nodes  {N : Nat} {a1 : ApiExpr} {r : Int} (h : F_expr_Nodes N a1 = some r) : Pure Tryz.prog (Gl.at 0) 115 [(ApiExpr.v a1)] (i64 r) := by
  refine pure_run fn115 ?_
  rw [F_expr_Nodes] at h
  replace h := bs h
  change GG [.t 2] _ [.pc p115_23] (mk 19 [(0, (ApiExpr.v a1))]) []
  refine gx mo [.pc p115_15, .blk 0, .pc p115_20] 19 [(3, (i64 1)), (7, (.sl a1.va)), (8, (i64 (a1.Args_.length : Int))), (9, (i64 0))] [.row 4 [(ApiExpr.v a1)]] 18 [tw 5 (E_lenv [.row 4 [(ApiExpr.v a1)]] (ApiExpr.va_map a1))] ?_
  refine go_pick [] [] [(3, 0), (7, 0), (8, 0), (9, 0)] (t' := (mk 19 [(3, (i64 1)), (7, (.sl a1.va)), (8, (i64 (a1.Args_.length : Int))), (9, (i64 0))])) (s' := []) (by kernel_rfl) trivial rfl ?_
  refine go_cut (X := Int) (fun x => (K_expr_Nodes_1 N x).bind some = some r) ([.pc p115_20]) (fun x => (mk 19 [(3, (i64 x))])) (fun x => []) ?_ fun kont1_0 => ?_
  · rintro x1_0 h
    rw [K_expr_Nodes_1] at h
    refine gx mo [.pc p115_19] 19 [(2, (i64 x1_0))] [] 5 [] ?_
    obtain rfl := Option.some.inj h
    exact gf (i64 x1_0) (.same rfl)
  refine go_loop' (fun m t s => ∃ (v1_0 : Int) (v1_1 : Int), (L_expr_Nodes_1 N a1 m v1_0 v1_1).bind (fun q => (K_expr_Nodes_1 N q).bind some) = some r ∧ t = (mk 19 [(3, (i64 v1_0)), (7, (.sl a1.va)), (8, (i64 (a1.Args_.length : Int))), (9, (i64 v1_1))]) ∧ s = []) N ⟨1, 0, go_assoc h, rfl, rfl⟩ ?_
  intro m1 J1 hJ1 t s
  rintro ⟨v1_0, v1_1, h, rfl, rfl⟩
  cases m1 with
  | zero => exact absurd h (by simp [L_expr_Nodes_1])
  | succ m1 =>
    rw [L_expr_Nodes_1] at h
    refine gx mo [.pc p115_6, .pc p115_12, .jp J1, .blk 0, .pc p115_20] 19 [(3, (i64 v1_0)), (7, (.sl a1.va)), (8, (i64 (a1.Args_.length : Int))), (9, (i64 v1_1)), (10, (.bool (decide (v1_1 < (a1.Args_.length : Int)))))] [] 5 [] ?_
    refine go_if h (fun hb3 h => ?_) (fun hb3 h => ?_)
    · cases h
    · rw [hb3]
      refine gx mo [.pc p115_20] 19 [(3, (i64 v1_0))] [] 2 [] ?_
      exact kont1_0 v1_0 h
/-! corebank/expr.depth -/
def p116_19 : PC := .ret
def p116_20 : PC := (.seq (.reg (om 18 3 :: oo 19 (.bin .add .other true (.t 18) (.c (.int .i64 1))) :: om 2 19 :: [])) p116_19)
def p116_12 : PC := (.seq (.block 1 (.seq (.reg (oo 11 (.ia 4 (.t 7) (.t 9)) :: oo 12 (.ldA 4 (.t 11)) :: oo 5 (.new (.agg [.int .i64 0, .int .i64 0, .str [], .nils])) :: on_ (.st 4 (.t 5) (.t 12)) :: [])) (.reg (om 13 3 :: oo 14 (.ldA 4 (.t 5)) :: ⟨some 15, .call 116 [.t 14], none⟩ :: oo 16 (.max [.t 13, .t 15]) :: om 3 16 :: [])))) (.reg (oo 17 (.bin .add .other true (.t 9) (.c (.int .i64 1))) :: om 9 17 :: [])))
def p116_6 : PC := (.cond (.t 10) .skip (.exit 0))
def p116_15 : PC := (.loop (.seq (.reg (oo 10 (.bin .lss .other false (.t 9) (.t 8)) :: [])) (.seq p116_6 p116_12)))
def p116_23 : PC := (.seq (.reg (oo 1 (.box (.t 0)) :: oo 2 (.mv (.c (.int .i64 0))) :: [])) (.seq (.reg (oo 3 (.mv (.c (.int .i64 0))) :: [])) (.seq (.seq (.reg (oo 6 (.fa 3 (.t 1)) :: oo 7 (.ld1 (.t 6)) :: oo 8 (.len .slice (.t 7)) :: oo 9 (.mv (.c (.int .i64 0))) :: [])) (.block 0 p116_15)) p116_20)))
theorem fn116 : FnOk Tryz.prog 116 p116_23 20 [.t 2] := ⟨false, Tryz.f116, _, Tryz.func116, by decide, rfl, by kernel_rfl, rfl, by kernel_rfl⟩
def L_expr_depth_1 (N : Nat) (a1 : ApiExpr) : Nat → Int → Int → Option (Int)
  | 0, _, _ => none
  | m1 + 1, v1_0, v1_1 =>
    bif decide (v1_1 < (a1.Args_.length : Int)) then
    (none)
    else
    (some v1_0)
def K_expr_depth_1 (N : Nat)  : (Int) → Option (Int)
  | x1_0 =>
    some (IntKind.wrap .i64 (x1_0 + 1))
def F_expr_depth  (N : Nat) (a1 : ApiExpr) : Option (Int) :=
      (L_expr_depth_1 N a1 N 0 0).bind (K_expr_depth_1 N)
theorem P_expr_depth  {N : Nat} {a1 : ApiExpr} {r : Int} (h : F_expr_depth N a1 = some r) : Pure Tryz.prog (Gl.at 0) 116 [(ApiExpr.v a1)] (i64 r) := by
  refine pure_run fn116 ?_
  rw [F_expr_depth] at h
  replace h := bs h
  change GG [.t 2] _ [.pc p116_23] (mk 20 [(0, (ApiExpr.v a1))]) []
  refine gx mo [.pc p116_15, .blk 0, .pc p116_20] 20 [(3, (i64 0)), (7, (.sl a1.va)), (8, (i64 (a1.Args_.length : Int))), (9, (i64 0))] [.row 4 [(ApiExpr.v a1)]] 18 [tw 5 (E_lenv [.row 4 [(ApiExpr.v a1)]] (ApiExpr.va_map a1))] ?_
  refine go_pick [] [] [(3, 0), (7, 0), (8, 0), (9, 0)] (t' := (mk 20 [(3, (i64 0)), (7, (.sl a1.va)), (8, (i64 (a1.Args_.length : Int))), (9, (i64 0))])) (s' := []) (by kernel_rfl) trivial rfl ?_
  refine go_cut (X := Int) (fun x => (K_expr_depth_1 N x).bind some = some r) ([.pc p116_20]) (fun x => (mk 20 [(3, (i64 x))])) (fun x => []) ?_ fun kont1_0 => ?_
  · rintro x1_0 h
    rw [K_expr_depth_1] at h
    refine gx mo [.pc p116_19] 20 [(2, (i64 (IntKind.wrap .i64 (x1_0 + 1))))] [] 6 [] ?_
    obtain rfl := Option.some.inj h
    exact gf (i64 (IntKind.wrap .i64 (x1_0 + 1))) (.same rfl)
  refine go_loop' (fun m t s => ∃ (v1_0 : Int) (v1_1 : Int), (L_expr_depth_1 N a1 m v1_0 v1_1).bind (fun q => (K_expr_depth_1 N q).bind some) = some r ∧ t = (mk 20 [(3, (i64 v1_0)), (7, (.sl a1.va)), (8, (i64 (a1.Args_.length : Int))), (9, (i64 v1_1))]) ∧ s = []) N ⟨0, 0, go_assoc h, rfl, rfl⟩ ?_
  intro m1 J1 hJ1 t s
  rintro ⟨v1_0, v1_1, h, rfl, rfl⟩
  cases m1 with
  | zero => exact absurd h (by simp [L_expr_depth_1])
  | succ m1 =>
    rw [L_expr_depth_1] at h
    refine gx mo [.pc p116_6, .pc p116_12, .jp J1, .blk 0, .pc p116_20] 20 [(3, (i64 v1_0)), (7, (.sl a1.va)), (8, (i64 (a1.Args_.length : Int))), (9, (i64 v1_1)), (10, (.bool (decide (v1_1 < (a1.Args_.length : Int)))))] [] 5 [] ?_
    refine go_if h (fun hb3 h => ?_) (fun hb3 h => ?_)
    · cases h
    · rw [hb3]
      refine gx mo [.pc p116_20] 20 [(3, (i64 v1_0))] [] 2 [] ?_
      exact kont1_0 v1_0 h
/-! corebank/expr.operands -/
def p126_49 : PC := (.seq (.seq (.reg (om 14 0 :: oo 15 (.bin .geq .other true (.t 14) (.c (.int .i64 5))) :: om 16 15 :: ⟨some 17, .op (.mv (.t 0)), some (16, true)⟩ :: ⟨some 18, .op (.bin .leq .other true (.t 17) (.c (.int .i64 18))), some (16, true)⟩ :: oo 19 (.pick (.t 16) (.t 18) (.c (.bool false))) :: [])) (.cond (.t 19) (.seq (.reg (oo 2 (.mv (.c (.int .i64 2))) :: [])) .ret) .skip)) (.seq (.reg (oo 2 (.mv (.c (.int .i64 (-1)))) :: [])) .ret))
def p126_16 : PC := .ret
def p126_35 : PC := (.cond (.t 4) (.seq (.reg (oo 2 (.mv (.c (.int .i64 0))) :: [])) p126_16) (.seq (.seq (.reg (oo 10 (.bin .eql .other true (.t 3) (.c (.int .i64 9))) :: om 9 10 :: [])) (.cond (.t 9) .skip (.reg (oo 11 (.bin .eql .other true (.t 3) (.c (.int .i64 16))) :: om 9 11 :: [])))) (.cond (.t 9) (.seq (.reg (oo 2 (.mv (.c (.int .i64 1))) :: [])) .ret) (.seq (.reg (oo 13 (.bin .eql .other true (.t 3) (.c (.int .i64 19))) :: om 12 13 :: [])) (.cond (.t 12) (.seq (.reg (oo 2 (.mv (.c (.int .i64 3))) :: [])) .ret) .skip)))))
def p126_9 : PC := (.cond (.t 4) .skip (.reg (oo 8 (.bin .eql .other true (.t 3) (.c (.int .i64 4))) :: om 4 8 :: [])))
def p126_11 : PC := (.cond (.t 4) .skip (.seq (.reg (oo 7 (.bin .eql .other true (.t 3) (.c (.int .i64 3))) :: om 4 7 :: [])) p126_9))
def p126_13 : PC := (.cond (.t 4) .skip (.seq (.reg (oo 6 (.bin .eql .other true (.t 3) (.c (.int .i64 2))) :: om 4 6 :: [])) p126_11))
def p126_51 : PC := (.seq (.reg (oo 2 (.mv (.c (.int .i64 0))) :: [])) (.seq (.seq (.reg (om 3 0 :: [])) (.block 0 (.seq (.seq (.reg (oo 5 (.bin .eql .other true (.t 3) (.c (.int .i64 1))) :: om 4 5 :: [])) p126_13) p126_35))) p126_49))
theorem fn126 : FnOk Tryz.prog 126 p126_51 20 [.t 2] := ⟨false, Tryz.f126, _, Tryz.func126, by decide, rfl, by kernel_rfl, rfl, by kernel_rfl⟩
def F_expr_operands  (N : Nat) (a1 : Int) : Option (Int) :=
      bif decide (a1 = 1) then
    (none)
    else
    (bif decide (a1 = 2) then
    (some 0)
    else
    (bif decide (a1 = 3) then
    (none)
    else
    (bif decide (a1 = 4) then
    (some 0)
    else
    (none))))
theorem P_expr_operands  {N : Nat} {a1 : Int} {r : Int} (h : F_expr_operands N a1 = some r) : Pure Tryz.prog (Gl.at 0) 126 [(i64 a1)] (i64 r) := by
  refine pure_run fn126 ?_
  rw [F_expr_operands] at h
  replace h := bs h
  change GG [.t 2] _ [.pc p126_51] (mk 20 [(0, (i64 a1))]) []
  refine gx mo [.pc p126_13, .pc p126_35, .blk 0, .pc p126_49] 20 [(0, (i64 a1)), (3, (i64 a1)), (4, (.bool (decide (a1 = 1))))] [] 16 [] ?_
  refine go_if h (fun hb2 h => ?_) (fun hb2 h => ?_)
  · cases h
  · rw [hb2]
    refine gx mo [.pc p126_11, .pc p126_35, .blk 0, .pc p126_49] 20 [(0, (i64 a1)), (3, (i64 a1)), (4, (.bool (decide (a1 = 2))))] [] 6 [] ?_
    refine go_if h (fun hb3 h => ?_) (fun hb3 h => ?_)
    · rw [hb3]
      refine gx mo [.pc p126_16, .blk 0, .pc p126_49] 20 [(2, (i64 0))] [] 7 [] ?_
      obtain rfl := Option.some.inj h
      exact gf (i64 0) (.same rfl)
    · rw [hb3]
      refine gx mo [.pc p126_9, .pc p126_35, .blk 0, .pc p126_49] 20 [(0, (i64 a1)), (3, (i64 a1)), (4, (.bool (decide (a1 = 3))))] [] 6 [] ?_
      refine go_if h (fun hb4 h => ?_) (fun hb4 h => ?_)
      · cases h
      · rw [hb4]
        refine gx mo [.pc p126_35, .blk 0, .pc p126_49] 20 [(0, (i64 a1)), (3, (i64 a1)), (4, (.bool (decide (a1 = 4))))] [] 5 [] ?_
        refine go_if h (fun hb5 h => ?_) (fun hb5 h => ?_)
        · rw [hb5]
          refine gx mo [.pc p126_16, .blk 0, .pc p126_49] 20 [(2, (i64 0))] [] 5 [] ?_
          obtain rfl := Option.some.inj h
          exact gf (i64 0) (.same rfl)
        · cases h
/-! corebank/expr.formed -/
def p118_19 : PC := .ret
def p118_20 : PC := (.seq (.drawn (oo 12 (.fa 0 (.t 1)) :: oo 13 (.ld1 (.t 12)) :: ⟨some 14, .call 126 [.t 13], none⟩ :: oo 15 (.fa 3 (.t 1)) :: oo 16 (.ld1 (.t 15)) :: oo 17 (.len .slice (.t 16)) :: oo 18 (.bin .eql .other false (.t 14) (.t 17)) :: om 19 18 :: ⟨some 20, .op (.fa 1 (.t 1)), some (19, true)⟩ :: ⟨some 21, .op (.ld1 (.t 20)), some (19, true)⟩ :: ⟨some 22, .op (.bin .geq .other true (.t 21) (.c (.int .i64 0))), some (19, true)⟩ :: oo 23 (.pick (.t 19) (.t 22) (.c (.bool false))) :: om 24 23 :: ⟨some 25, .op (.fa 1 (.t 1)), some (24, true)⟩ :: ⟨some 26, .op (.ld1 (.t 25)), some (24, true)⟩ :: ⟨some 27, .op (.mv (.t 3)), some (24, true)⟩ :: ⟨some 28, .op (.bin .leq .other false (.t 26) (.t 27)), some (24, true)⟩ :: oo 29 (.pick (.t 24) (.t 28) (.c (.bool false))) :: om 30 29 :: ⟨some 31, .op (.fa 2 (.t 1)), some (30, true)⟩ :: ⟨some 32, .op (.ld1 (.t 31)), some (30, true)⟩ :: ⟨some 33, .op (.bin .eql .other true (.t 32) (.c (.str []))), some (30, true)⟩ :: ⟨some 34, .op (.mv (.t 33)), some (30, true)⟩ :: ⟨some 35, .op (.fa 0 (.t 1)), some (34, false)⟩ :: ⟨some 36, .op (.ld1 (.t 35)), some (34, false)⟩ :: ⟨some 37, .op (.bin .eql .other true (.t 36) (.c (.int .i64 4))), some (34, false)⟩ :: ⟨some 38, .op (.pick (.t 34) (.c (.bool true)) (.t 37)), some (30, true)⟩ :: oo 39 (.pick (.t 30) (.t 38) (.c (.bool false))) :: om 2 39 :: []) [[], [0], [1], [], [3], [4], [2, 5], [6, 2], [7], [8, 7], [9, 7], [7, 10], [11, 7], [12], [13, 12], [12], [14, 15, 12], [12, 16], [17, 12], [18], [19, 18], [20, 18], [21, 18, 18], [22], [23, 22], [24, 22], [22, 25, 18], [18, 26], [27, 22, 0, 1, 2, 3, 4, 5, 6, 7, 8, 9, 10, 11, 12, 13, 14, 15, 16, 17, 18, 19, 20, 21, 22, 23, 24, 25, 26, 27]]) p118_19)
def p118_10 : PC := (.cond (.t 10) (.reg (oo 3 (.mv (.c (.int .i64 1000000))) :: [])) .skip)
def p118_12 : PC := (.cond (.t 8) (.reg (oo 3 (.mv (.c (.int .i64 1000000000000))) :: [])) (.seq (.reg (oo 11 (.bin .eql .other true (.t 5) (.c (.int .i64 3))) :: om 10 11 :: [])) p118_10))
def p118_14 : PC := (.cond (.t 6) (.reg (oo 3 (.mv (.c (.int .i64 9223372036854775807))) :: [])) (.seq (.reg (oo 9 (.bin .eql .other true (.t 5) (.c (.int .i64 2))) :: om 8 9 :: [])) p118_12))
def p118_23 : PC := (.seq (.reg (oo 1 (.box (.t 0)) :: oo 2 (.mv (.c (.bool false))) :: [])) (.seq (.reg (oo 3 (.mv (.c (.int .i64 0))) :: [])) (.seq (.seq (.reg (oo 4 (.fa 0 (.t 1)) :: oo 5 (.ld1 (.t 4)) :: [])) (.block 0 (.seq (.reg (oo 7 (.bin .eql .other true (.t 5) (.c (.int .i64 1))) :: om 6 7 :: [])) p118_14))) p118_20)))
theorem fn118 : FnOk Tryz.prog 118 p118_23 40 [.t 2] := ⟨false, Tryz.f118, _, Tryz.func118, by decide, rfl, by kernel_rfl, rfl, by kernel_rfl⟩
def F_expr_formed  (N : Nat) (a1 : ApiExpr) : Option (Bool) :=
      bif decide (a1.Op_ = 1) then
    (none)
    else
    (bif decide (a1.Op_ = 2) then
    ((F_expr_operands N a1.Op_).bind fun r4 =>
    bif decide (r4 = (a1.Args_.length : Int)) then
    (bif decide (0 ≤ a1.N_) then
    (bif decide (a1.N_ ≤ 1000000000000) then
    (bif a1.S_ == [] then
    (some true)
    else
    (none))
    else
    (none))
    else
    (none))
    else
    (none))
    else
    (bif decide (a1.Op_ = 3) then
    (none)
    else
    ((F_expr_operands N a1.Op_).bind fun r10 =>
    bif decide (r10 = (a1.Args_.length : Int)) then
    (bif decide (0 ≤ a1.N_) then
    (bif decide (a1.N_ ≤ 0) then
    (bif a1.S_ == [] then
    (none)
    else
    (some (decide (a1.Op_ = 4))))
    else
    (none))
    else
    (none))
    else
    (none))))
theorem P_expr_formed  {N : Nat} {a1 : ApiExpr} {r : Bool} (h : F_expr_formed N a1 = some r) : Pure Tryz.prog (Gl.at 0) 118 [(ApiExpr.v a1)] (.bool r) := by
  refine pure_run fn118 ?_
  rw [F_expr_formed] at h
  replace h := bs h
  change GG [.t 2] _ [.pc p118_23] (mk 40 [(0, (ApiExpr.v a1))]) []
  refine gx mo [.pc p118_14, .blk 0, .pc p118_20] 40 [(1, (.ref 0 0 0)), (3, (i64 0)), (5, (i64 a1.Op_)), (6, (.bool (decide (a1.Op_ = 1))))] [.row 4 [(ApiExpr.v a1)]] 21 [] ?_
  refine go_if h (fun hb2 h => ?_) (fun hb2 h => ?_)
  · cases h
  · rw [hb2]
    refine gx mo [.pc p118_12, .blk 0, .pc p118_20] 40 [(1, (.ref 0 0 0)), (3, (i64 0)), (5, (i64 a1.Op_)), (8, (.bool (decide (a1.Op_ = 2))))] [.row 4 [(ApiExpr.v a1)]] 6 [] ?_
    refine go_if h (fun hb3 h => ?_) (fun hb3 h => ?_)
    · rw [hb3]
      refine go_bind h (fun r4 hr4 h => ?_)
      refine go_if h (fun hb5 h => ?_) (fun hb5 h => ?_)
      · refine go_if h (fun hb6 h => ?_) (fun hb6 h => ?_)
        · refine go_if h (fun hb7 h => ?_) (fun hb7 h => ?_)
          · refine go_if h (fun hb8 h => ?_) (fun hb8 h => ?_)
            · refine gx mo [.pc p118_19] 40 [(2, (.bool true))] [.row 4 [(ApiExpr.v a1)]] 7 [tgc 4 [.row 4 [(ApiExpr.v a1)]] (P_expr_operands hr4) (fs fl_nil), tg 7 (E_lenv [.row 4 [(ApiExpr.v a1)]] (ApiExpr.va_map a1)), tgb 8 [.row 4 [(ApiExpr.v a1)]] (.bin .eql .other false (.c (i64 r4)) (.c (i64 (a1.Args_.length : Int)))) (decide (r4 = (a1.Args_.length : Int))) true hb5, tgb 13 [.row 4 [(ApiExpr.v a1)]] (.pick (.c (.bool true)) (.c (.bool (decide (0 ≤ a1.N_)))) (.c (.bool false))) (decide (0 ≤ a1.N_)) true hb6, tgb 19 [.row 4 [(ApiExpr.v a1)]] (.pick (.c (.bool true)) (.c (.bool (decide (a1.N_ ≤ 1000000000000)))) (.c (.bool false))) (decide (a1.N_ ≤ 1000000000000)) true hb7, tgb 23 [.row 4 [(ApiExpr.v a1)]] (.bin .eql .other true (.c (.str a1.S_)) (.c (.str []))) (a1.S_ == []) true hb8] ?_
              obtain rfl := Option.some.inj h
              exact gf (.bool true) (.same rfl)
            · cases h
          · cases h
        · cases h
      · cases h
    · rw [hb3]
      refine gx mo [.pc p118_10, .blk 0, .pc p118_20] 40 [(1, (.ref 0 0 0)), (3, (i64 0)), (10, (.bool (decide (a1.Op_ = 3))))] [.row 4 [(ApiExpr.v a1)]] 6 [] ?_
      refine go_if h (fun hb9 h => ?_) (fun hb9 h => ?_)
      · cases h
      · rw [hb9]
        refine go_bind h (fun r10 hr10 h => ?_)
        refine go_if h (fun hb11 h => ?_) (fun hb11 h => ?_)
        · refine go_if h (fun hb12 h => ?_) (fun hb12 h => ?_)
          · refine go_if h (fun hb13 h => ?_) (fun hb13 h => ?_)
            · refine go_if h (fun hb14 h => ?_) (fun hb14 h => ?_)
              · cases h
              · refine gx mo [.pc p118_19] 40 [(2, (.bool (decide (a1.Op_ = 4))))] [.row 4 [(ApiExpr.v a1)]] 5 [tgc 3 [.row 4 [(ApiExpr.v a1)]] (P_expr_operands hr10) (fs fl_nil), tg 6 (E_lenv [.row 4 [(ApiExpr.v a1)]] (ApiExpr.va_map a1)), tgb 7 [.row 4 [(ApiExpr.v a1)]] (.bin .eql .other false (.c (i64 r10)) (.c (i64 (a1.Args_.length : Int)))) (decide (r10 = (a1.Args_.length : Int))) true hb11, tgb 12 [.row 4 [(ApiExpr.v a1)]] (.pick (.c (.bool true)) (.c (.bool (decide (0 ≤ a1.N_)))) (.c (.bool false))) (decide (0 ≤ a1.N_)) true hb12, tgb 18 [.row 4 [(ApiExpr.v a1)]] (.pick (.c (.bool true)) (.c (.bool (decide (a1.N_ ≤ 0)))) (.c (.bool false))) (decide (a1.N_ ≤ 0)) true hb13, tgb 22 [.row 4 [(ApiExpr.v a1)]] (.bin .eql .other true (.c (.str a1.S_)) (.c (.str []))) (a1.S_ == []) false hb14] ?_
                obtain rfl := Option.some.inj h
                exact gf (.bool (decide (a1.Op_ = 4))) (.same rfl)
            · cases h
          · cases h
        · cases h
/-! slices.IndexFunc[[]corebank/api.Expr,corebank/api.Expr] -/
def p137_24 : PC := .ret
def p137_25 : PC := (.seq (.reg (oo 4 (.mv (.c (.int .i64 (-1)))) :: [])) p137_24)
def p137_17 : PC := (.seq (.block 1 (.seq (.reg (om 10 8 :: om 5 10 :: [])) (.seq (.reg (om 11 1 :: om 12 0 :: om 13 5 :: oo 14 (.ia 4 (.t 12) (.t 13)) :: oo 15 (.ldA 4 (.t 14)) :: ⟨some 16, .dyn (.t 11) [.t 15], none⟩ :: [])) (.cond (.t 16) (.seq (.reg (om 17 5 :: om 4 17 :: [])) .ret) .skip)))) (.reg (oo 18 (.bin .add .other true (.t 8) (.c (.int .i64 1))) :: om 8 18 :: [])))
def p137_5 : PC := (.cond (.t 9) .skip (.exit 0))
def p137_20 : PC := (.loop (.seq (.reg (oo 9 (.bin .lss .other false (.t 8) (.t 7)) :: [])) (.seq p137_5 p137_17)))
def p137_27 : PC := (.seq (.reg (oo 4 (.mv (.c (.int .i64 0))) :: [])) (.seq (.seq (.reg (om 6 0 :: oo 7 (.len .slice (.t 6)) :: oo 8 (.mv (.c (.int .i64 0))) :: [])) (.block 0 p137_20)) p137_25))
theorem fn137 : FnOk Tryz.prog 137 p137_27 19 [.t 4] := ⟨false, Tryz.f137, _, Tryz.func137, by decide, rfl, by kernel_rfl, rfl, by kernel_rfl⟩
def L_slices_IndexFunc_api_Expr_v3f9_1 (N : Nat) (a1 : List ApiExpr) : Nat → Int → Option (Unit)
  | 0, _ => none
  | m1 + 1, v1_0 =>
    bif decide (v1_0 < (a1.length : Int)) then
    (none)
    else
    (some ())
def K_slices_IndexFunc_api_Expr_v3f9_1 (N : Nat)  : (Unit) → Option (Int)
  | _ =>
    some (-1)
def F_slices_IndexFunc_api_Expr_v3f9  (N : Nat) (a1 : List ApiExpr) : Option (Int) :=
      (L_slices_IndexFunc_api_Expr_v3f9_1 N a1 N 0).bind (K_slices_IndexFunc_api_Expr_v3f9_1 N)
theorem P_slices_IndexFunc_api_Expr_v3f9  {N : Nat} {a1 : List ApiExpr} {r : Int} (h : F_slices_IndexFunc_api_Expr_v3f9 N a1 = some r) : Pure Tryz.prog (Gl.at 0) 137 [(.sl (a1.map ApiExpr.v)), (.fn (.func 125) [] [(.imm [(.fn (.func 118) [] [])] 0)])] (i64 r) := by
  refine pure_run fn137 ?_
  rw [F_slices_IndexFunc_api_Expr_v3f9] at h
  replace h := bs h
  change GG [.t 4] _ [.pc p137_27] (mk 19 [(0, (.sl (a1.map ApiExpr.v))), (1, (.fn (.func 125) [] [(.imm [(.fn (.func 118) [] [])] 0)]))]) []
  refine gx mo [.pc p137_20, .blk 0, .pc p137_25] 19 [(0, (.sl (a1.map ApiExpr.v))), (1, (.fn (.func 125) [] [(.imm [(.fn (.func 118) [] [])] 0)])), (7, (i64 (a1.length : Int))), (8, (i64 0))] [] 12 [tw 2 (E_len [] a1 ApiExpr.v)] ?_
  refine go_cut (X := Unit) (fun x => (K_slices_IndexFunc_api_Expr_v3f9_1 N x).bind some = some r) ([.pc p137_25]) (fun x => (mk 19 [])) (fun x => []) ?_ fun kont1_0 => ?_
  · rintro _ h
    rw [K_slices_IndexFunc_api_Expr_v3f9_1] at h
    refine gx mo [.pc p137_24] 19 [(4, (i64 (-1)))] [] 4 [] ?_
    obtain rfl := Option.some.inj h
    exact gf (i64 (-1)) (.same rfl)
  refine go_loop' (fun m t s => ∃ (v1_0 : Int), (L_slices_IndexFunc_api_Expr_v3f9_1 N a1 m v1_0).bind (fun q => (K_slices_IndexFunc_api_Expr_v3f9_1 N q).bind some) = some r ∧ t = (mk 19 [(0, (.sl (a1.map ApiExpr.v))), (1, (.fn (.func 125) [] [(.imm [(.fn (.func 118) [] [])] 0)])), (7, (i64 (a1.length : Int))), (8, (i64 v1_0))]) ∧ s = []) N ⟨0, go_assoc h, rfl, rfl⟩ ?_
  intro m1 J1 hJ1 t s
  rintro ⟨v1_0, h, rfl, rfl⟩
  cases m1 with
  | zero => exact absurd h (by simp [L_slices_IndexFunc_api_Expr_v3f9_1])
  | succ m1 =>
    rw [L_slices_IndexFunc_api_Expr_v3f9_1] at h
    refine gx mo [.pc p137_5, .pc p137_17, .jp J1, .blk 0, .pc p137_25] 19 [(0, (.sl (a1.map ApiExpr.v))), (1, (.fn (.func 125) [] [(.imm [(.fn (.func 118) [] [])] 0)])), (7, (i64 (a1.length : Int))), (8, (i64 v1_0)), (9, (.bool (decide (v1_0 < (a1.length : Int)))))] [] 5 [] ?_
    refine go_if h (fun hb3 h => ?_) (fun hb3 h => ?_)
    · cases h
    · rw [hb3]
      refine gx mo [.pc p137_25] 19 [] [] 2 [] ?_
      exact kont1_0 () h
/-! slices.ContainsFunc[[]corebank/api.Expr,corebank/api.Expr] -/
def p124_2 : PC := .ret
def p124_4 : PC := (.seq (.reg (oo 4 (.mv (.c (.bool false))) :: [])) (.seq (.reg (om 5 0 :: om 6 1 :: ⟨some 7, .call 137 [.t 5, .t 6], none⟩ :: oo 8 (.bin .geq .other true (.t 7) (.c (.int .i64 0))) :: om 4 8 :: [])) p124_2))
theorem fn124 : FnOk Tryz.prog 124 p124_4 9 [.t 4] := ⟨false, Tryz.f124, _, Tryz.func124, by decide, rfl, by kernel_rfl, rfl, by kernel_rfl⟩
def F_slices_ContainsFunc_api_Expr_v3f9  (N : Nat) (a1 : List ApiExpr) : Option (Bool) :=
      (F_slices_IndexFunc_api_Expr_v3f9 N a1).bind fun r2 =>
    some (decide (0 ≤ r2))
theorem P_slices_ContainsFunc_api_Expr_v3f9  {N : Nat} {a1 : List ApiExpr} {r : Bool} (h : F_slices_ContainsFunc_api_Expr_v3f9 N a1 = some r) : Pure Tryz.prog (Gl.at 0) 124 [(.sl (a1.map ApiExpr.v)), (.fn (.func 125) [] [(.imm [(.fn (.func 118) [] [])] 0)])] (.bool r) := by
  refine pure_run fn124 ?_
  rw [F_slices_ContainsFunc_api_Expr_v3f9] at h
  replace h := bs h
  change GG [.t 4] _ [.pc p124_4] (mk 9 [(0, (.sl (a1.map ApiExpr.v))), (1, (.fn (.func 125) [] [(.imm [(.fn (.func 118) [] [])] 0)]))]) []
  refine go_bind h (fun r2 hr2 h => ?_)
  refine gx mo [.pc p124_2] 9 [(4, (.bool (decide (0 ≤ r2))))] [] 12 [tc 3 [] (P_slices_IndexFunc_api_Expr_v3f9 hr2) (fs (fl_cons (f_fn fl_nil (fl_cons (.same rfl) fl_nil)) fl_nil))] ?_
  obtain rfl := Option.some.inj h
  exact gf (.bool (decide (0 ≤ r2))) (.same rfl)
/-! corebank/expr.every -/
def p117_2 : PC := .ret
def p117_4 : PC := (.seq (.reg (oo 2 (.box (.t 0)) :: oo 3 (.box (.t 1)) :: oo 4 (.mv (.c (.bool false))) :: [])) (.seq (.reg (oo 5 (.ld1 (.t 3)) :: oo 6 (.ldA 4 (.t 2)) :: ⟨some 7, .dyn (.t 5) [.t 6], none⟩ :: om 8 7 :: ⟨some 9, .op (.fa 3 (.t 2)), some (8, true)⟩ :: ⟨some 10, .op (.ld1 (.t 9)), some (8, true)⟩ :: ⟨some 11, .op (.fn (.func 125) [] [.t 3]), some (8, true)⟩ :: ⟨some 12, .call 124 [.t 10, .t 11], some (8, true)⟩ :: ⟨some 13, .op (.un .not (.t 12)), some (8, true)⟩ :: oo 14 (.pick (.t 8) (.t 13) (.c (.bool false))) :: om 4 14 :: [])) p117_2))
theorem fn117 : FnOk Tryz.prog 117 p117_4 15 [.t 4] := ⟨false, Tryz.f117, _, Tryz.func117, by decide, rfl, by kernel_rfl, rfl, by kernel_rfl⟩
def F_expr_every_vbc1  (N : Nat) (a1 : ApiExpr) : Option (Bool) :=
      (F_expr_formed N a1).bind fun r2 =>
    bif r2 then
    ((F_slices_ContainsFunc_api_Expr_v3f9 N a1.Args_).bind fun r4 =>
    some (!r4))
    else
    (none)
theorem P_expr_every_vbc1  {N : Nat} {a1 : ApiExpr} {r : Bool} (h : F_expr_every_vbc1 N a1 = some r) : Pure Tryz.prog (Gl.at 0) 117 [(ApiExpr.v a1), (.fn (.func 118) [] [])] (.bool r) := by
  refine pure_run fn117 ?_
  rw [F_expr_every_vbc1] at h
  replace h := bs h
  change GG [.t 4] _ [.pc p117_4] (mk 15 [(0, (ApiExpr.v a1)), (1, (.fn (.func 118) [] []))]) []
  refine go_bind h (fun r2 hr2 h => ?_)
  refine go_if h (fun hb3 h => ?_) (fun hb3 h => ?_)
  · refine go_bind h (fun r4 hr4 h => ?_)
    refine gx mo [.pc p117_2] 15 [(4, (.bool (!r4)))] [.row 4 [(ApiExpr.v a1)], .row 1 [(.fn (.func 118) [] [])]] 20 [td 5 [.row 4 [(ApiExpr.v a1)], .row 1 [(.fn (.func 118) [] [])]] [] [] [(ApiExpr.v a1)] (P_expr_formed hr2) (fg fl_nil), twb 6 [.row 4 [(ApiExpr.v a1)], .row 1 [(.fn (.func 118) [] [])]] (.mv (.c (.bool r2))) (r2) true hb3, tc 10 [.row 4 [(ApiExpr.v a1)], .row 1 [(.fn (.func 118) [] [])]] (P_slices_ContainsFunc_api_Expr_v3f9 hr4) (fl_cons (f_sleq (ApiExpr.va_map a1)) (fl_cons (f_fn fl_nil (fl_cons (f_ref (c := 1) (u := (.fn (.func 118) [] [])) rfl (f_fn fl_nil fl_nil)) fl_nil)) fl_nil))] ?_
    obtain rfl := Option.some.inj h
    exact gf (.bool (!r4)) (.same rfl)
  · cases h
/-! corebank/token.blanks -/
def p145_34 : PC := .ret
def p145_35 : PC := (.seq (.reg (om 27 3 :: om 2 27 :: [])) p145_34)
def p145_21 : PC := .ret
def p145_23 : PC := (.cond (.t 18) (.reg (om 20 3 :: om 21 0 :: om 22 3 :: oo 23 (.slc .str (.t 21) (some (.t 22)) none) :: ⟨some 24, .call 154 [.t 23, .c (.fn (.func 155) [] [])], none⟩ :: oo 25 (.len .str (.t 24)) :: oo 26 (.bin .add .other false (.t 20) (.t 25)) :: om 3 26 :: [])) (.seq (.reg (om 11 3 :: om 2 11 :: [])) p145_21))
def p145_25 : PC := (.cond (.t 12) (.reg (om 16 3 :: oo 17 (.bin .add .other true (.t 16) (.c (.int .i64 1))) :: om 3 17 :: [])) (.seq (.reg (oo 19 (.bin .eql .other true (.t 10) (.c (.int .u8 35))) :: om 18 19 :: [])) p145_23))
def p145_13 : PC := (.cond (.t 12) .skip (.reg (oo 15 (.bin .eql .other true (.t 10) (.c (.int .u8 10))) :: om 12 15 :: [])))
def p145_15 : PC := (.cond (.t 12) .skip (.seq (.reg (oo 14 (.bin .eql .other true (.t 10) (.c (.int .u8 9))) :: om 12 14 :: [])) p145_13))
def p145_29 : PC := (.block 1 (.seq (.reg (om 8 0 :: om 9 3 :: oo 10 (.ix (.t 8) (.t 9)) :: [])) (.block 2 (.seq (.seq (.reg (oo 13 (.bin .eql .other true (.t 10) (.c (.int .u8 32))) :: om 12 13 :: [])) p145_15) p145_25))))
def p145_5 : PC := (.cond (.t 7) .skip (.exit 0))
def p145_31 : PC := (.loop (.seq (.seq (.reg (om 4 3 :: om 5 0 :: oo 6 (.len .str (.t 5)) :: oo 7 (.bin .lss .other false (.t 4) (.t 6)) :: [])) p145_5) p145_29))
def p145_38 : PC := (.seq (.reg (oo 2 (.mv (.c (.int .i64 0))) :: [])) (.seq (.reg (oo 3 (.mv (.c (.int .i64 0))) :: [])) (.seq (.block 0 p145_31) p145_35)))
theorem fn145 : FnOk Tryz.prog 145 p145_38 28 [.t 2] := ⟨false, Tryz.f145, _, Tryz.func145, by decide, rfl, by kernel_rfl, rfl, by kernel_rfl⟩
def L_token_blanks_1 (N : Nat) (a1 : List UInt8) : Nat → Int → Option (Br (Int) (Int))
  | 0, _ => none
  | m1 + 1, v1_0 =>
    bif decide (v1_0 < (a1.length : Int)) then
    ((getI a1 v1_0).bind fun c9 =>
    bif decide ((c9.toNat : Int) = 32) then
    (none)
    else
    (bif decide ((c9.toNat : Int) = 9) then
    (none)
    else
    (bif decide ((c9.toNat : Int) = 10) then
    (none)
    else
    (bif decide ((c9.toNat : Int) = 35) then
    (none)
    else
    (some (.ret v1_0))))))
    else
    (some (.brk v1_0))
def K_token_blanks_1 (N : Nat)  : Br (Int) (Int) → Option (Int)
  | .ret r => some r
  | .brk x1_0 =>
    some x1_0
def F_token_blanks  (N : Nat) (a1 : List UInt8) : Option (Int) :=
      (L_token_blanks_1 N a1 N 0).bind (K_token_blanks_1 N)
theorem P_token_blanks  {N : Nat} {a1 : List UInt8} {r : Int} (h : F_token_blanks N a1 = some r) : Pure Tryz.prog (Gl.at 0) 145 [(.str a1)] (i64 r) := by
  refine pure_run fn145 ?_
  rw [F_token_blanks] at h
  replace h := bs h
  change GG [.t 2] _ [.pc p145_38] (mk 28 [(0, (.str a1))]) []
  refine gx mo [.pc p145_31, .blk 0, .pc p145_35] 28 [(0, (.str a1)), (3, (i64 0))] [] 10 [] ?_
  refine go_cut (X := Int) (fun x => (K_token_blanks_1 N (.brk x)).bind some = some r) ([.pc p145_35]) (fun x => (mk 28 [(3, (i64 x))])) (fun x => []) ?_ fun kont1_0 => ?_
  · rintro x1_0 h
    rw [K_token_blanks_1] at h
    refine gx mo [.pc p145_34] 28 [(2, (i64 x1_0))] [] 5 [] ?_
    obtain rfl := Option.some.inj h
    exact gf (i64 x1_0) (.same rfl)
  refine go_loop' (fun m t s => ∃ (v1_0 : Int), (L_token_blanks_1 N a1 m v1_0).bind (fun q => (K_token_blanks_1 N q).bind some) = some r ∧ t = (mk 28 [(0, (.str a1)), (3, (i64 v1_0))]) ∧ s = []) N ⟨0, go_assoc h, rfl, rfl⟩ ?_
  intro m1 J1 hJ1 t s
  rintro ⟨v1_0, h, rfl, rfl⟩
  cases m1 with
  | zero => exact absurd h (by simp [L_token_blanks_1])
  | succ m1 =>
    rw [L_token_blanks_1] at h
    refine gx mo [.pc p145_5, .pc p145_29, .jp J1, .blk 0, .pc p145_35] 28 [(0, (.str a1)), (3, (i64 v1_0)), (7, (.bool (decide (v1_0 < (a1.length : Int)))))] [] 8 [] ?_
    refine go_if h (fun hb8 h => ?_) (fun hb8 h => ?_)
    · rw [hb8]
      refine go_bind h (fun c9 hc9 h => ?_)
      refine gx mo [.pc p145_15, .pc p145_25, .blk 2, .blk 1, .jp J1, .blk 0, .pc p145_35] 28 [(0, (.str a1)), (3, (i64 v1_0)), (10, (.int .u8 (c9.toNat : Int))), (12, (.bool (decide ((c9.toNat : Int) = 32))))] [] 16 [tw 3 (E_ix [] .i64 hc9)] ?_
      refine go_if h (fun hb10 h => ?_) (fun hb10 h => ?_)
      · cases h
      · rw [hb10]
        refine gx mo [.pc p145_13, .pc p145_25, .blk 2, .blk 1, .jp J1, .blk 0, .pc p145_35] 28 [(0, (.str a1)), (3, (i64 v1_0)), (10, (.int .u8 (c9.toNat : Int))), (12, (.bool (decide ((c9.toNat : Int) = 9))))] [] 6 [] ?_
        refine go_if h (fun hb11 h => ?_) (fun hb11 h => ?_)
        · cases h
        · rw [hb11]
          refine gx mo [.pc p145_25, .blk 2, .blk 1, .jp J1, .blk 0, .pc p145_35] 28 [(0, (.str a1)), (3, (i64 v1_0)), (10, (.int .u8 (c9.toNat : Int))), (12, (.bool (decide ((c9.toNat : Int) = 10))))] [] 5 [] ?_
          refine go_if h (fun hb12 h => ?_) (fun hb12 h => ?_)
          · cases h
          · rw [hb12]
            refine gx mo [.pc p145_23, .blk 2, .blk 1, .jp J1, .blk 0, .pc p145_35] 28 [(0, (.str a1)), (3, (i64 v1_0)), (18, (.bool (decide ((c9.toNat : Int) = 35))))] [] 6 [] ?_
            refine go_if h (fun hb13 h => ?_) (fun hb13 h => ?_)
            · cases h
            · rw [hb13]
              refine gx mo [.pc p145_21, .blk 2, .blk 1, .jp J1, .blk 0, .pc p145_35] 28 [(2, (i64 v1_0))] [] 6 [] ?_
              obtain rfl := Option.some.inj h
              exact gf (i64 v1_0) (.same rfl)
    · rw [hb8]
      refine gx mo [.pc p145_35] 28 [(3, (i64 v1_0))] [] 2 [] ?_
      exact kont1_0 v1_0 h
/-! strings.Count -/
def p146_32 : PC := (.seq (.reg (oo 5 (.mv (.c (.int .i64 0))) :: [])) (.block 0 (.loop (.block 1 (.seq (.reg (om 20 0 :: om 21 1 :: ⟨some 22, .call 158 [.t 20, .t 21], none⟩ :: om 6 22 :: [])) (.seq (.seq (.reg (om 23 6 :: oo 24 (.bin .eql .other true (.t 23) (.c (.int .i64 (-1)))) :: [])) (.cond (.t 24) (.seq (.reg (om 25 5 :: om 4 25 :: [])) .ret) .skip)) (.seq (.reg (om 26 5 :: oo 27 (.bin .add .other true (.t 26) (.c (.int .i64 1))) :: om 5 27 :: [])) (.reg (om 28 0 :: om 29 6 :: om 30 1 :: oo 31 (.len .str (.t 30)) :: oo 32 (.bin .add .other false (.t 29) (.t 31)) :: oo 33 (.slc .str (.t 28) (some (.t 32)) none) :: om 0 33 :: [])))))))))
def p146_10 : PC := .ret
def p146_13 : PC := (.cond (.t 15) (.seq (.reg (om 16 0 :: om 17 1 :: oo 18 (.ix (.t 17) (.c (.int .i64 0))) :: ⟨some 19, .call 157 [.t 16, .t 18], none⟩ :: om 4 19 :: [])) p146_10) .skip)
def p146_33 : PC := (.seq (.seq (.reg (om 13 1 :: oo 14 (.len .str (.t 13)) :: oo 15 (.bin .eql .other true (.t 14) (.c (.int .i64 1))) :: [])) p146_13) p146_32)
def p146_6 : PC := (.cond (.t 9) (.seq (.reg (om 10 0 :: ⟨some 11, .call 156 [.t 10], none⟩ :: oo 12 (.bin .add .other true (.t 11) (.c (.int .i64 1))) :: om 4 12 :: [])) .ret) .skip)
def p146_35 : PC := (.seq (.reg (oo 4 (.mv (.c (.int .i64 0))) :: [])) (.seq (.seq (.reg (om 7 1 :: oo 8 (.len .str (.t 7)) :: oo 9 (.bin .eql .other true (.t 8) (.c (.int .i64 0))) :: [])) p146_6) p146_33))
theorem fn146 : FnOk Tryz.prog 146 p146_35 34 [.t 4] := ⟨false, Tryz.f146, _, Tryz.func146, by decide, rfl, by kernel_rfl, rfl, by kernel_rfl⟩
def F_strings_Count  (N : Nat) (a1 : List UInt8) (a2 : List UInt8) : Option (Int) :=
      bif decide ((a2.length : Int) = 0) then
    (none)
    else
    (bif decide ((a2.length : Int) = 1) then
    ((getI a2 0).bind fun c5 =>
    (F_ibytealg_CountString N a1 (c5.toNat : Int)).bind fun r6 =>
    some r6)
    else
    (none))
theorem P_strings_Count  {N : Nat} {a1 : List UInt8} {a2 : List UInt8} {r : Int} (h : F_strings_Count N a1 a2 = some r) : Pure Tryz.prog (Gl.at 0) 146 [(.str a1), (.str a2)] (i64 r) := by
  refine pure_run fn146 ?_
  rw [F_strings_Count] at h
  replace h := bs h
  change GG [.t 4] _ [.pc p146_35] (mk 34 [(0, (.str a1)), (1, (.str a2))]) []
  refine gx mo [.pc p146_6, .pc p146_33] 34 [(0, (.str a1)), (1, (.str a2)), (9, (.bool (decide ((a2.length : Int) = 0))))] [] 11 [] ?_
  refine go_if h (fun hb3 h => ?_) (fun hb3 h => ?_)
  · cases h
  · rw [hb3]
    refine gx mo [.pc p146_13, .pc p146_32] 34 [(0, (.str a1)), (1, (.str a2)), (15, (.bool (decide ((a2.length : Int) = 1))))] [] 9 [] ?_
    refine go_if h (fun hb4 h => ?_) (fun hb4 h => ?_)
    · rw [hb4]
      refine go_bind h (fun c5 hc5 h => ?_)
      refine go_bind h (fun r6 hr6 h => ?_)
      refine gx mo [.pc p146_10, .pc p146_32] 34 [(4, (i64 r6))] [] 9 [tw 3 (E_ix [] .i64 hc5), tc 4 [] (P_ibytealg_CountString hr6) (fs (fs fl_nil))] ?_
      obtain rfl := Option.some.inj h
      exact gf (i64 r6) (.same rfl)
    · cases h
/-! corebank/token.letter -/
def p159_2 : PC := .ret
def p159_4 : PC := (.seq (.reg (oo 2 (.mv (.c (.bool false))) :: [])) (.seq (.reg (om 3 0 :: oo 4 (.bin .geq .other true (.t 3) (.c (.int .i32 97))) :: om 5 4 :: ⟨some 6, .op (.mv (.t 0)), some (5, true)⟩ :: ⟨some 7, .op (.bin .leq .other true (.t 6) (.c (.int .i32 122))), some (5, true)⟩ :: oo 8 (.pick (.t 5) (.t 7) (.c (.bool false))) :: om 2 8 :: [])) p159_2))
theorem fn159 : FnOk Tryz.prog 159 p159_4 9 [.t 2] := ⟨false, Tryz.f159, _, Tryz.func159, by decide, rfl, by kernel_rfl, rfl, by kernel_rfl⟩
def F_token_letter  (N : Nat) (a1 : Int) : Option (Bool) :=
      bif decide (97 ≤ a1) then
    (some (decide (a1 ≤ 122)))
    else
    (none)
theorem P_token_letter  {N : Nat} {a1 : Int} {r : Bool} (h : F_token_letter N a1 = some r) : Pure Tryz.prog (Gl.at 0) 159 [(.int .i32 a1)] (.bool r) := by
  refine pure_run fn159 ?_
  rw [F_token_letter] at h
  replace h := bs h
  change GG [.t 2] _ [.pc p159_4] (mk 9 [(0, (.int .i32 a1))]) []
  refine go_if h (fun hb2 h => ?_) (fun hb2 h => ?_)
  · refine gx mo [.pc p159_2] 9 [(2, (.bool (decide (a1 ≤ 122))))] [] 14 [twb 2 [] (.bin .geq .other true (.c (.int .i32 a1)) (.c (.int .i32 97))) (decide (97 ≤ a1)) true hb2] ?_
    obtain rfl := Option.some.inj h
    exact gf (.bool (decide (a1 ≤ 122))) (.same rfl)
  · cases h
/-! corebank/token.inName -/
def p160_2 : PC := .ret
def p160_4 : PC := (.seq (.reg (oo 2 (.mv (.c (.bool false))) :: [])) (.seq (.reg (om 3 0 :: ⟨some 4, .call 159 [.t 3], none⟩ :: om 5 4 :: ⟨some 6, .op (.mv (.t 0)), some (5, false)⟩ :: ⟨some 7, .call 162 [.t 6], some (5, false)⟩ :: oo 8 (.pick (.t 5) (.c (.bool true)) (.t 7)) :: om 9 8 :: ⟨some 10, .op (.mv (.t 0)), some (9, false)⟩ :: ⟨some 11, .op (.bin .eql .other true (.t 10) (.c (.int .i32 95))), some (9, false)⟩ :: oo 12 (.pick (.t 9) (.c (.bool true)) (.t 11)) :: om 2 12 :: [])) p160_2))
theorem fn160 : FnOk Tryz.prog 160 p160_4 13 [.t 2] := ⟨false, Tryz.f160, _, Tryz.func160, by decide, rfl, by kernel_rfl, rfl, by kernel_rfl⟩
def F_token_inName  (N : Nat) (a1 : Int) : Option (Bool) :=
      (F_token_letter N a1).bind fun r2 =>
    bif r2 then
    (some true)
    else
    (none)
theorem P_token_inName  {N : Nat} {a1 : Int} {r : Bool} (h : F_token_inName N a1 = some r) : Pure Tryz.prog (Gl.at 0) 160 [(.int .i32 a1)] (.bool r) := by
  refine pure_run fn160 ?_
  rw [F_token_inName] at h
  replace h := bs h
  change GG [.t 2] _ [.pc p160_4] (mk 13 [(0, (.int .i32 a1))]) []
  refine go_bind h (fun r2 hr2 h => ?_)
  refine go_if h (fun hb3 h => ?_) (fun hb3 h => ?_)
  · refine gx mo [.pc p160_2] 13 [(2, (.bool true))] [] 18 [tc 2 [] (P_token_letter hr2) (fs fl_nil), twb 3 [] (.mv (.c (.bool r2))) (r2) true hb3] ?_
    obtain rfl := Option.some.inj h
    exact gf (.bool true) (.same rfl)
  · cases h
/-! corebank/token.prefix -/
def p154_13 : PC := .ret
def p154_14 : PC := (.seq (.reg (om 20 0 :: om 21 5 :: oo 22 (.slc .str (.t 20) none (some (.t 21))) :: om 4 22 :: [])) p154_13)
def p154_8 : PC := (.block 1 (.reg (om 18 5 :: oo 19 (.bin .add .other true (.t 18) (.c (.int .i64 1))) :: om 5 19 :: [])))
def p154_5 : PC := (.cond (.t 17) .skip (.exit 0))
def p154_10 : PC := (.loop (.seq (.seq (.reg (om 6 5 :: om 7 0 :: oo 8 (.len .str (.t 7)) :: oo 9 (.bin .lss .other false (.t 6) (.t 8)) :: om 10 9 :: ⟨some 11, .op (.mv (.t 1)), some (10, true)⟩ :: ⟨some 12, .op (.mv (.t 0)), some (10, true)⟩ :: ⟨some 13, .op (.mv (.t 5)), some (10, true)⟩ :: ⟨some 14, .op (.ix (.t 12) (.t 13)), some (10, true)⟩ :: ⟨some 15, .op (.cvI .i32 (.t 14)), some (10, true)⟩ :: ⟨some 16, .dyn (.t 11) [.t 15], some (10, true)⟩ :: oo 17 (.pick (.t 10) (.t 16) (.c (.bool false))) :: [])) p154_5) p154_8))
def p154_17 : PC := (.seq (.reg (oo 4 (.mv (.c (.str []))) :: [])) (.seq (.reg (oo 5 (.mv (.c (.int .i64 0))) :: [])) (.seq (.block 0 p154_10) p154_14)))
theorem fn154 : FnOk Tryz.prog 154 p154_17 23 [.t 4] := ⟨false, Tryz.f154, _, Tryz.func154, by decide, rfl, by kernel_rfl, rfl, by kernel_rfl⟩
def L_token_prefix_v32f_1 (N : Nat) (a1 : List UInt8) : Nat → Int → Option (Int)
  | 0, _ => none
  | m1 + 1, v1_0 =>
    bif decide (v1_0 < (a1.length : Int)) then
    ((getI a1 v1_0).bind fun c8 =>
    (F_token_inName N (IntKind.wrap .i32 (c8.toNat : Int))).bind fun r9 =>
    bif r9 then
    ((L_token_prefix_v32f_1 N a1 m1) (IntKind.wrap .i64 (v1_0 + 1)))
    else
    (none))
    else
    (some v1_0)
def K_token_prefix_v32f_1 (N : Nat) (a1 : List UInt8) : (Int) → Option ((List UInt8))
  | x1_0 =>
    (slcI a1 0 x1_0).bind fun s6 =>
    some s6
def F_token_prefix_v32f  (N : Nat) (a1 : List UInt8) : Option ((List UInt8)) :=
      (L_token_prefix_v32f_1 N a1 N 0).bind (K_token_prefix_v32f_1 N a1)
theorem P_token_prefix_v32f  {N : Nat} {a1 : List UInt8} {r : (List UInt8)} (h : F_token_prefix_v32f N a1 = some r) : Pure Tryz.prog (Gl.at 0) 154 [(.str a1), (.fn (.func 160) [] [])] (.str r) := by
  refine pure_run fn154 ?_
  rw [F_token_prefix_v32f] at h
  replace h := bs h
  change GG [.t 4] _ [.pc p154_17] (mk 23 [(0, (.str a1)), (1, (.fn (.func 160) [] []))]) []
  refine gx mo [.pc p154_10, .blk 0, .pc p154_14] 23 [(0, (.str a1)), (1, (.fn (.func 160) [] [])), (5, (i64 0))] [] 10 [] ?_
  refine go_cut (X := Int) (fun x => (K_token_prefix_v32f_1 N a1 x).bind some = some r) ([.pc p154_14]) (fun x => (mk 23 [(0, (.str a1)), (5, (i64 x))])) (fun x => []) ?_ fun kont1_0 => ?_
  · rintro x1_0 h
    rw [K_token_prefix_v32f_1] at h
    refine go_bind h (fun s6 hs6 h => ?_)
    refine gx mo [.pc p154_13] 23 [(4, (.str s6))] [] 7 [tw 2 (s := []) (s' := []) (q := (.slc .str (.c (.str a1)) none (some (.c (i64 x1_0))))) (v := (.str s6)) (e_slcs rfl rfl hs6)] ?_
    obtain rfl := Option.some.inj h
    exact gf (.str s6) (.same rfl)
  refine go_loop' (fun m t s => ∃ (v1_0 : Int), (L_token_prefix_v32f_1 N a1 m v1_0).bind (fun q => (K_token_prefix_v32f_1 N a1 q).bind some) = some r ∧ t = (mk 23 [(0, (.str a1)), (1, (.fn (.func 160) [] [])), (5, (i64 v1_0))]) ∧ s = []) N ⟨0, go_assoc h, rfl, rfl⟩ ?_
  intro m1 J1 hJ1 t s
  rintro ⟨v1_0, h, rfl, rfl⟩
  cases m1 with
  | zero => exact absurd h (by simp [L_token_prefix_v32f_1])
  | succ m1 =>
    rw [L_token_prefix_v32f_1] at h
    refine go_if h (fun hb7 h => ?_) (fun hb7 h => ?_)
    · refine go_bind h (fun c8 hc8 h => ?_)
      refine go_bind h (fun r9 hr9 h => ?_)
      refine gx mo [.pc p154_5, .pc p154_8, .jp J1, .blk 0, .pc p154_14] 23 [(0, (.str a1)), (1, (.fn (.func 160) [] [])), (5, (i64 v1_0)), (17, (.bool r9))] [] 16 [twb 3 [] (.bin .lss .other false (.c (i64 v1_0)) (.c (i64 (a1.length : Int)))) (decide (v1_0 < (a1.length : Int))) true hb7, tw 8 (E_ix [] .i64 hc8), td 10 [] [] [] [(.int .i32 (IntKind.wrap .i32 (c8.toNat : Int)))] (P_token_inName hr9) (fs fl_nil)] ?_
      refine go_if h (fun hb10 h => ?_) (fun hb10 h => ?_)
      · rw [hb10]
        refine gx mo [.jp J1, .blk 0, .pc p154_14] 23 [(0, (.str a1)), (1, (.fn (.func 160) [] [])), (5, (i64 (IntKind.wrap .i64 (v1_0 + 1))))] [] 9 [] ?_
        exact go_back rfl (hJ1 m1 _ _ (Nat.lt_succ_self m1) ⟨IntKind.wrap .i64 (v1_0 + 1), h, rfl, rfl⟩)
      · cases h
    · refine gx mo [.pc p154_14] 23 [(0, (.str a1)), (5, (i64 v1_0))] [] 18 [twb 3 [] (.bin .lss .other false (.c (i64 v1_0)) (.c (i64 (a1.length : Int)))) (decide (v1_0 < (a1.length : Int))) false hb7] ?_
      exact kont1_0 v1_0 h
/-! strings.Fields -/
def p177_89 : PC := .ret
def p177_90 : PC := (.seq (.reg (om 105 9 :: om 2 105 :: [])) p177_89)
def p177_86 : PC := (.cond (.t 98) (.reg (om 99 9 :: om 100 10 :: om 101 0 :: om 102 11 :: oo 103 (.slc .str (.t 101) (some (.t 102)) none) :: oo 104 (.ia 1 (.t 99) (.t 100)) :: on_ (.st 1 (.t 104) (.t 103)) :: [])) .skip)
def p177_91 : PC := (.seq (.seq (.reg (om 95 11 :: om 96 0 :: oo 97 (.len .str (.t 96)) :: oo 98 (.bin .lss .other false (.t 95) (.t 97)) :: [])) p177_86) p177_90)
def p177_73 : PC := (.reg (om 94 12 :: om 11 94 :: []))
def p177_69 : PC := (.block 7 (.reg (om 92 12 :: oo 93 (.bin .add .other true (.t 92) (.c (.int .i64 1))) :: om 12 93 :: [])))
def p177_66 : PC := (.cond (.t 91) .skip (.exit 6))
def p177_71 : PC := (.loop (.seq (.seq (.reg (om 80 12 :: om 81 0 :: oo 82 (.len .str (.t 81)) :: oo 83 (.bin .lss .other false (.t 80) (.t 82)) :: om 84 83 :: ⟨some 85, .op (.mv (.t 0)), some (84, true)⟩ :: ⟨some 86, .op (.mv (.t 12)), some (84, true)⟩ :: ⟨some 87, .op (.ix (.t 85) (.t 86)), some (84, true)⟩ :: ⟨some 88, .op (.iaa 256 1 (.g 2) (.t 87)), some (84, true)⟩ :: ⟨some 89, .op (.ld1 (.t 88)), some (84, true)⟩ :: ⟨some 90, .op (.bin .neq .other true (.t 89) (.c (.int .u8 0))), some (84, true)⟩ :: oo 91 (.pick (.t 84) (.t 90) (.c (.bool false))) :: [])) p177_66) p177_69))
def p177_77 : PC := (.seq (.reg (om 69 9 :: om 70 10 :: om 71 0 :: om 72 11 :: om 73 12 :: oo 74 (.slc .str (.t 71) (some (.t 72)) (some (.t 73))) :: oo 75 (.ia 1 (.t 69) (.t 70)) :: on_ (.st 1 (.t 75) (.t 74)) :: [])) (.seq (.reg (om 76 10 :: oo 77 (.bin .add .other true (.t 76) (.c (.int .i64 1))) :: om 10 77 :: [])) (.seq (.reg (om 78 12 :: oo 79 (.bin .add .other true (.t 78) (.c (.int .i64 1))) :: om 12 79 :: [])) (.seq (.block 6 p177_71) p177_73))))
def p177_58 : PC := (.cond (.t 66) (.seq (.reg (om 67 12 :: oo 68 (.bin .add .other true (.t 67) (.c (.int .i64 1))) :: om 12 68 :: [])) (.exit 5)) .skip)
def p177_79 : PC := (.block 5 (.seq (.seq (.reg (om 61 0 :: om 62 12 :: oo 63 (.ix (.t 61) (.t 62)) :: oo 64 (.iaa 256 1 (.g 2) (.t 63)) :: oo 65 (.ld1 (.t 64)) :: oo 66 (.bin .eql .other true (.t 65) (.c (.int .u8 0))) :: [])) p177_58) p177_77))
def p177_51 : PC := (.cond (.t 60) .skip (.exit 4))
def p177_81 : PC := (.loop (.seq (.seq (.reg (om 57 12 :: om 58 0 :: oo 59 (.len .str (.t 58)) :: oo 60 (.bin .lss .other false (.t 57) (.t 59)) :: [])) p177_51) p177_79))
def p177_93 : PC := (.seq (.reg (om 56 12 :: om 11 56 :: [])) (.seq (.block 4 p177_81) p177_91))
def p177_43 : PC := (.block 3 (.reg (om 54 12 :: oo 55 (.bin .add .other true (.t 54) (.c (.int .i64 1))) :: om 12 55 :: [])))
def p177_40 : PC := (.cond (.t 53) .skip (.exit 2))
def p177_45 : PC := (.loop (.seq (.seq (.reg (om 42 12 :: om 43 0 :: oo 44 (.len .str (.t 43)) :: oo 45 (.bin .lss .other false (.t 42) (.t 44)) :: om 46 45 :: ⟨some 47, .op (.mv (.t 0)), some (46, true)⟩ :: ⟨some 48, .op (.mv (.t 12)), some (46, true)⟩ :: ⟨some 49, .op (.ix (.t 47) (.t 48)), some (46, true)⟩ :: ⟨some 50, .op (.iaa 256 1 (.g 2) (.t 49)), some (46, true)⟩ :: ⟨some 51, .op (.ld1 (.t 50)), some (46, true)⟩ :: ⟨some 52, .op (.bin .neq .other true (.t 51) (.c (.int .u8 0))), some (46, true)⟩ :: oo 53 (.pick (.t 46) (.t 52) (.c (.bool false))) :: [])) p177_40) p177_43))
def p177_98 : PC := (.seq (.reg (om 40 3 :: oo 41 (.make (.str []) 16 (.t 40) (.t 40)) :: om 9 41 :: [])) (.seq (.reg (oo 10 (.mv (.c (.int .i64 0))) :: [])) (.seq (.reg (oo 11 (.mv (.c (.int .i64 0))) :: [])) (.seq (.reg (oo 12 (.mv (.c (.int .i64 0))) :: [])) (.seq (.block 2 p177_45) p177_93)))))
def p177_31 : PC := (.cond (.t 37) (.seq (.reg (om 38 0 :: ⟨some 39, .call 190 [.t 38, .c (.fn (.func 191) [] [])], none⟩ :: om 2 39 :: [])) .ret) .skip)
def p177_99 : PC := (.seq (.seq (.reg (om 36 5 :: oo 37 (.bin .geq .other true (.t 36) (.c (.int .u8 128))) :: [])) p177_31) p177_98)
def p177_21 : PC := (.seq (.block 1 (.seq (.reg (om 19 0 :: om 20 6 :: oo 21 (.ix (.t 19) (.t 20)) :: om 7 21 :: [])) (.seq (.reg (om 22 5 :: om 23 7 :: oo 24 (.bin .or .other false (.t 22) (.t 23)) :: om 5 24 :: [])) (.seq (.reg (om 25 7 :: oo 26 (.iaa 256 1 (.g 2) (.t 25)) :: oo 27 (.ld1 (.t 26)) :: oo 28 (.cvI .i64 (.t 27)) :: om 8 28 :: [])) (.seq (.reg (om 29 3 :: om 30 4 :: om 31 8 :: oo 32 (.un .xor (.t 31)) :: oo 33 (.bin .and .other false (.t 30) (.t 32)) :: oo 34 (.bin .add .other false (.t 29) (.t 33)) :: om 3 34 :: [])) (.reg (om 35 8 :: om 4 35 :: []))))))) (.reg (om 17 6 :: oo 18 (.bin .add .other true (.t 17) (.c (.int .i64 1))) :: om 6 18 :: [])))
def p177_8 : PC := (.cond (.t 16) .skip (.exit 0))
def p177_23 : PC := (.loop (.seq (.seq (.reg (om 13 6 :: om 14 0 :: oo 15 (.len .str (.t 14)) :: oo 16 (.bin .lss .other false (.t 13) (.t 15)) :: [])) p177_8) p177_21))
def p177_104 : PC := (.seq (.reg (oo 2 (.mv (.c .nils)) :: [])) (.seq (.reg (oo 3 (.mv (.c (.int .i64 0))) :: [])) (.seq (.reg (oo 4 (.mv (.c (.int .i64 1))) :: [])) (.seq (.reg (oo 5 (.mv (.c (.int .u8 0))) :: [])) (.seq (.seq (.reg (oo 6 (.mv (.c (.int .i64 0))) :: [])) (.block 0 p177_23)) p177_99)))))
theorem fn177 : FnOk Tryz.prog 177 p177_104 106 [.t 2] := ⟨false, Tryz.f177, _, Tryz.func177, by decide, rfl, by kernel_rfl, rfl, by kernel_rfl⟩
def L_strings_Fields_4 (N : Nat) (a1 : List UInt8) : Nat → Int → Option (Int)
  | 0, _ => none
  | m4 + 1, v4_0 =>
    bif decide (v4_0 < (a1.length : Int)) then
    ((getI a1 v4_0).bind fun c53 =>
    (getI asciiSpace (c53.toNat : Int)).bind fun y54 =>
    bif !decide (y54 = 0) then
    (none)
    else
    (some v4_0))
    else
    (none)
def K_strings_Fields_4 (N : Nat) (v3_0 : Int) (v3_3 : List (List UInt8)) (rl3 : Int → Int → Int → (List (List UInt8)) → Option ((List (List UInt8)) × Int × Int)) (s46 : List UInt8) : (Int) → Option ((List (List UInt8)) × Int × Int)
  | x4_0 =>
    rl3 (IntKind.wrap .i64 (v3_0 + 1)) x4_0 x4_0 (setI v3_3 v3_0 s46)
def L_strings_Fields_3 (N : Nat) (a1 : List UInt8) : Nat → Int → Int → Int → (List (List UInt8)) → Option ((List (List UInt8)) × Int × Int)
  | 0, _, _, _, _ => none
  | m3 + 1, v3_0, v3_1, v3_2, v3_3 =>
    bif decide (v3_2 < (a1.length : Int)) then
    ((getI a1 v3_2).bind fun c43 =>
    (getI asciiSpace (c43.toNat : Int)).bind fun y44 =>
    bif decide (y44 = 0) then
    ((L_strings_Fields_3 N a1 m3) v3_0 v3_1 (IntKind.wrap .i64 (v3_2 + 1)) v3_3)
    else
    ((slcI a1 v3_1 v3_2).bind fun s46 =>
    (getI v3_3 v3_0).bind fun y47 =>
    (L_strings_Fields_4 N a1 N (IntKind.wrap .i64 (v3_2 + 1))).bind (K_strings_Fields_4 N v3_0 v3_3 (L_strings_Fields_3 N a1 m3) s46)))
    else
    (some (v3_3, v3_0, v3_1))
def K_strings_Fields_3 (N : Nat) (a1 : List UInt8) : ((List (List UInt8)) × Int × Int) → Option ((List (List UInt8)))
  | (x3_0, x3_1, x3_2) =>
    bif decide (x3_2 < (a1.length : Int)) then
    ((slcI a1 x3_2 (a1.length : Int)).bind fun s40 =>
    (getI x3_0 x3_1).bind fun y41 =>
    some (setI x3_0 x3_1 s40))
    else
    (none)
def L_strings_Fields_2 (N : Nat) (a1 : List UInt8) : Nat → Int → Option (Int)
  | 0, _ => none
  | m2 + 1, v2_0 =>
    bif decide (v2_0 < (a1.length : Int)) then
    ((getI a1 v2_0).bind fun c57 =>
    (getI asciiSpace (c57.toNat : Int)).bind fun y58 =>
    bif !decide (y58 = 0) then
    (none)
    else
    (some v2_0))
    else
    (none)
def K_strings_Fields_2 (N : Nat) (a1 : List UInt8) (l6 : List (List UInt8)) : (Int) → Option ((List (List UInt8)))
  | x2_0 =>
    (L_strings_Fields_3 N a1 N 0 x2_0 x2_0 l6).bind (K_strings_Fields_3 N a1)
def L_strings_Fields_1 (N : Nat) (a1 : List UInt8) : Nat → Int → Int → Int → Int → Option (Int × Int)
  | 0, _, _, _, _ => none
  | m1 + 1, v1_0, v1_1, v1_2, v1_3 =>
    bif decide (v1_3 < (a1.length : Int)) then
    ((getI a1 v1_3).bind fun c61 =>
    (getI asciiSpace (c61.toNat : Int)).bind fun y62 =>
    (L_strings_Fields_1 N a1 m1) (IntKind.wrap .i64 (v1_0 + (IntKind.wrap .i64 ((BitVec.ofInt 64 v1_1 &&& BitVec.ofInt 64 (IntKind.wrap .i64 ((BitVec.ofInt 64 (-1) ^^^ BitVec.ofInt 64 (IntKind.wrap .i64 y62)).toNat : Int))).toNat : Int)))) (IntKind.wrap .i64 y62) (IntKind.wrap .u8 ((BitVec.ofInt 8 v1_2 ||| BitVec.ofInt 8 (c61.toNat : Int)).toNat : Int)) (IntKind.wrap .i64 (v1_3 + 1)))
    else
    (some (v1_0, v1_2))
def K_strings_Fields_1 (N : Nat) (a1 : List UInt8) : (Int × Int) → Option ((List (List UInt8)))
  | (x1_0, x1_1) =>
    bif decide (128 ≤ x1_1) then
    (none)
    else
    ((makeI 16 x1_0 []).bind fun l6 =>
    (L_strings_Fields_2 N a1 N 0).bind (K_strings_Fields_2 N a1 l6))
def F_strings_Fields  (N : Nat) (a1 : List UInt8) : Option ((List (List UInt8))) :=
      (L_strings_Fields_1 N a1 N 0 1 0 0).bind (K_strings_Fields_1 N a1)
theorem P_strings_Fields  {N : Nat} {a1 : List UInt8} {r : (List (List UInt8))} (h : F_strings_Fields N a1 = some r) : Pure Tryz.prog (Gl.at 0) 177 [(.str a1)] (.sl (r.map V.str)) := by
  refine pure_run fn177 ?_
  rw [F_strings_Fields] at h
  replace h := bs h
  change GG [.t 2] _ [.pc p177_104] (mk 106 [(0, (.str a1))]) []
  refine gx mo [.pc p177_23, .blk 0, .pc p177_99] 106 [(0, (.str a1)), (3, (i64 0)), (4, (i64 1)), (5, (.int .u8 0)), (6, (i64 0))] [] 22 [] ?_
  refine go_cut (X := Int × Int) (fun x => (K_strings_Fields_1 N a1 x).bind some = some r) ([.pc p177_99]) (fun x => (mk 106 [(0, (.str a1)), (3, (i64 x.1)), (5, (.int .u8 x.2))])) (fun x => []) ?_ fun kont1_0 => ?_
  · rintro ⟨x1_0, x1_1⟩ h
    rw [K_strings_Fields_1] at h
    refine gx mo [.pc p177_31, .pc p177_98] 106 [(0, (.str a1)), (3, (i64 x1_0)), (37, (.bool (decide (128 ≤ x1_1))))] [] 6 [] ?_
    refine go_if h (fun hb5 h => ?_) (fun hb5 h => ?_)
    · cases h
    · rw [hb5]
      refine go_bind h (fun l6 hl6 h => ?_)
      refine gx mo [.pc p177_45, .blk 2, .pc p177_93] 106 [(0, (.str a1)), (9, (.osl 0 0 l6.length)), (10, (i64 0)), (12, (i64 0))] [.row 1 (l6.map V.str)] 22 [tw 2 (s := []) (s' := [.row 1 (l6.map V.str)]) (q := (.make (.str []) 16 (.c (i64 x1_0)) (.c (i64 x1_0)))) (v := (.osl 0 0 l6.length)) (e_make rfl hl6)] ?_
      refine go_cut (X := Int) (fun x => (K_strings_Fields_2 N a1 l6 x).bind some = some r) ([.pc p177_93]) (fun x => (mk 106 [(0, (.str a1)), (9, (.osl 0 0 l6.length)), (10, (i64 0)), (12, (i64 x))])) (fun x => [.row 1 (l6.map V.str)]) ?_ fun kont2_0 => ?_
      · rintro x2_0 h
        rw [K_strings_Fields_2] at h
        refine gx mo [.pc p177_81, .blk 4, .pc p177_91] 106 [(0, (.str a1)), (9, (.osl 0 0 l6.length)), (10, (i64 0)), (11, (i64 x2_0)), (12, (i64 x2_0))] [.row 1 (l6.map V.str)] 7 [] ?_
        refine go_cut (X := (List (List UInt8)) × Int × Int) (fun x => (K_strings_Fields_3 N a1 x).bind some = some r) ([.pc p177_91]) (fun x => (mk 106 [(0, (.str a1)), (9, (.osl 0 0 x.1.length)), (10, (i64 x.2.1)), (11, (i64 x.2.2))])) (fun x => [.row 1 (x.1.map V.str)]) ?_ fun kont3_0 => ?_
        · rintro ⟨x3_0, x3_1, x3_2⟩ h
          rw [K_strings_Fields_3] at h
          refine gx mo [.pc p177_86, .pc p177_90] 106 [(0, (.str a1)), (9, (.osl 0 0 x3_0.length)), (10, (i64 x3_1)), (11, (i64 x3_2)), (98, (.bool (decide (x3_2 < (a1.length : Int)))))] [.row 1 (x3_0.map V.str)] 8 [] ?_
          refine go_if h (fun hb39 h => ?_) (fun hb39 h => ?_)
          · rw [hb39]
            refine go_bind h (fun s40 hs40 h => ?_)
            refine go_bind h (fun y41 hy41 h => ?_)
            refine gx mo [.pc p177_89] 106 [(2, (.osl 0 0 x3_0.length))] [.row 1 ((setI x3_0 x3_1 s40).map V.str)] 15 [tw 5 (s := [.row 1 (x3_0.map V.str)]) (s' := [.row 1 (x3_0.map V.str)]) (q := (.slc .str (.c (.str a1)) (some (.c (i64 x3_2))) none)) (v := (.str s40)) (e_slcs rfl rfl hs40), tw 6 (E_iao [.row 1 (x3_0.map V.str)] V.str .i64 0 hy41 rfl), tw 7 (s := [.row 1 (x3_0.map V.str)]) (s' := [.row 1 ((setI x3_0 x3_1 s40).map V.str)]) (q := (.st 1 (.c (.ref 0 x3_1.toNat 0)) (.c (.str s40)))) (v := .any) (e_stref (y' := s40) rfl hy41 ⟨rfl, by decide, rfl⟩ rfl)] ?_
            obtain rfl := Option.some.inj h
            exact gf (.osl 0 0 x3_0.length) (f_osl (c := 0) rfl (fun _ => rfl) (fun _ => rfl) (by simp only [len_setI]))
          · cases h
        refine go_loop' (fun m t s => ∃ (v3_0 : Int) (v3_1 : Int) (v3_2 : Int) (v3_3 : List (List UInt8)), (L_strings_Fields_3 N a1 m v3_0 v3_1 v3_2 v3_3).bind (fun q => (K_strings_Fields_3 N a1 q).bind some) = some r ∧ t = (mk 106 [(0, (.str a1)), (9, (.osl 0 0 v3_3.length)), (10, (i64 v3_0)), (11, (i64 v3_1)), (12, (i64 v3_2))]) ∧ s = [.row 1 (v3_3.map V.str)]) N ⟨0, x2_0, x2_0, l6, go_assoc h, rfl, rfl⟩ ?_
        intro m3 J3 hJ3 t s
        rintro ⟨v3_0, v3_1, v3_2, v3_3, h, rfl, rfl⟩
        cases m3 with
        | zero => exact absurd h (by simp [L_strings_Fields_3])
        | succ m3 =>
          rw [L_strings_Fields_3] at h
          refine gx mo [.pc p177_51, .pc p177_79, .jp J3, .blk 4, .pc p177_91] 106 [(0, (.str a1)), (9, (.osl 0 0 v3_3.length)), (10, (i64 v3_0)), (11, (i64 v3_1)), (12, (i64 v3_2)), (60, (.bool (decide (v3_2 < (a1.length : Int)))))] [.row 1 (v3_3.map V.str)] 8 [] ?_
          refine go_if h (fun hb42 h => ?_) (fun hb42 h => ?_)
          · rw [hb42]
            refine go_bind h (fun c43 hc43 h => ?_)
            refine go_bind h (fun y44 hy44 h => ?_)
            refine gx mo [.pc p177_58, .pc p177_77, .blk 5, .jp J3, .blk 4, .pc p177_91] 106 [(0, (.str a1)), (9, (.osl 0 0 v3_3.length)), (10, (i64 v3_0)), (11, (i64 v3_1)), (12, (i64 v3_2)), (66, (.bool (decide (y44 = 0))))] [.row 1 (v3_3.map V.str)] 13 [tw 3 (E_ix [.row 1 (v3_3.map V.str)] .i64 hc43), tw 4 (s := [.row 1 (v3_3.map V.str)]) (s' := [.row 1 (v3_3.map V.str)]) (q := (.iaa 256 1 (.c (.imm (asciiSpace.map (V.int .u8)) 0)) (.c (.int .u8 (c43.toNat : Int))))) (v := (.imm (asciiSpace.map (V.int .u8)) (c43.toNat : Int).toNat)) (e_iaai (f := (V.int .u8)) (l := asciiSpace) hy44 rfl), tw 5 (s := [.row 1 (v3_3.map V.str)]) (s' := [.row 1 (v3_3.map V.str)]) (q := (.ld1 (.c (.imm (asciiSpace.map (V.int .u8)) (c43.toNat : Int).toNat)))) (v := (.int .u8 y44)) (e_ldarri (f := (V.int .u8)) (l := asciiSpace) hy44)] ?_
            refine go_if h (fun hb45 h => ?_) (fun hb45 h => ?_)
            · rw [hb45]
              refine gx mo [.jp J3, .blk 4, .pc p177_91] 106 [(0, (.str a1)), (9, (.osl 0 0 v3_3.length)), (10, (i64 v3_0)), (11, (i64 v3_1)), (12, (i64 (IntKind.wrap .i64 (v3_2 + 1))))] [.row 1 (v3_3.map V.str)] 8 [] ?_
              exact go_back rfl (hJ3 m3 _ _ (Nat.lt_succ_self m3) ⟨v3_0, v3_1, IntKind.wrap .i64 (v3_2 + 1), v3_3, h, rfl, rfl⟩)
            · rw [hb45]
              refine go_bind h (fun s46 hs46 h => ?_)
              refine go_bind h (fun y47 hy47 h => ?_)
              refine gx mo [.pc p177_71, .blk 6, .pc p177_73, .blk 5, .jp J3, .blk 4, .pc p177_91] 106 [(0, (.str a1)), (9, (.osl 0 0 v3_3.length)), (10, (i64 (IntKind.wrap .i64 (v3_0 + 1)))), (12, (i64 (IntKind.wrap .i64 (v3_2 + 1))))] [.row 1 ((setI v3_3 v3_0 s46).map V.str)] 27 [tw 6 (s := [.row 1 (v3_3.map V.str)]) (s' := [.row 1 (v3_3.map V.str)]) (q := (.slc .str (.c (.str a1)) (some (.c (i64 v3_1))) (some (.c (i64 v3_2))))) (v := (.str s46)) (e_slcs rfl rfl hs46), tw 7 (E_iao [.row 1 (v3_3.map V.str)] V.str .i64 0 hy47 rfl), tw 8 (s := [.row 1 (v3_3.map V.str)]) (s' := [.row 1 ((setI v3_3 v3_0 s46).map V.str)]) (q := (.st 1 (.c (.ref 0 v3_0.toNat 0)) (.c (.str s46)))) (v := .any) (e_stref (y' := s46) rfl hy47 ⟨rfl, by decide, rfl⟩ rfl)] ?_
              refine go_eqt (t' := (mk 106 [(0, (.str a1)), (9, (.osl 0 0 (setI v3_3 v3_0 s46).length)), (10, (i64 (IntKind.wrap .i64 (v3_0 + 1)))), (12, (i64 (IntKind.wrap .i64 (v3_2 + 1))))])) (by simp only [len_setI]) ?_
              refine go_cut (X := Int) (fun x => (K_strings_Fields_4 N v3_0 v3_3 (L_strings_Fields_3 N a1 m3) s46 x).bind (fun q => (K_strings_Fields_3 N a1 q).bind some) = some r) ([.pc p177_73, .blk 5, .jp J3, .blk 4, .pc p177_91]) (fun x => (mk 106 [(0, (.str a1)), (9, (.osl 0 0 (setI v3_3 v3_0 s46).length)), (10, (i64 (IntKind.wrap .i64 (v3_0 + 1)))), (12, (i64 x))])) (fun x => [.row 1 ((setI v3_3 v3_0 s46).map V.str)]) ?_ fun kont4_0 => ?_
              · rintro x4_0 h
                rw [K_strings_Fields_4] at h
                refine gx mo [.jp J3, .blk 4, .pc p177_91] 106 [(0, (.str a1)), (9, (.osl 0 0 (setI v3_3 v3_0 s46).length)), (10, (i64 (IntKind.wrap .i64 (v3_0 + 1)))), (11, (i64 x4_0)), (12, (i64 x4_0))] [.row 1 ((setI v3_3 v3_0 s46).map V.str)] 5 [] ?_
                exact go_back rfl (hJ3 m3 _ _ (Nat.lt_succ_self m3) ⟨IntKind.wrap .i64 (v3_0 + 1), x4_0, x4_0, (setI v3_3 v3_0 s46), h, rfl, rfl⟩)
              refine go_loop' (fun m t s => ∃ (v4_0 : Int), (L_strings_Fields_4 N a1 m v4_0).bind (fun q => (K_strings_Fields_4 N v3_0 v3_3 (L_strings_Fields_3 N a1 m3) s46 q).bind (fun q => (K_strings_Fields_3 N a1 q).bind some)) = some r ∧ t = (mk 106 [(0, (.str a1)), (9, (.osl 0 0 (setI v3_3 v3_0 s46).length)), (10, (i64 (IntKind.wrap .i64 (v3_0 + 1)))), (12, (i64 v4_0))]) ∧ s = [.row 1 ((setI v3_3 v3_0 s46).map V.str)]) N ⟨IntKind.wrap .i64 (v3_2 + 1), go_assoc h, rfl, rfl⟩ ?_
              intro m4 J4 hJ4 t s
              rintro ⟨v4_0, h, rfl, rfl⟩
              cases m4 with
              | zero => exact absurd h (by simp [L_strings_Fields_4])
              | succ m4 =>
                rw [L_strings_Fields_4] at h
                refine go_if h (fun hb52 h => ?_) (fun hb52 h => ?_)
                · refine go_bind h (fun c53 hc53 h => ?_)
                  refine go_bind h (fun y54 hy54 h => ?_)
                  refine gx mo [.pc p177_66, .pc p177_69, .jp J4, .blk 6, .pc p177_73, .blk 5, .jp J3, .blk 4, .pc p177_91] 106 [(0, (.str a1)), (9, (.osl 0 0 (setI v3_3 v3_0 s46).length)), (10, (i64 (IntKind.wrap .i64 (v3_0 + 1)))), (12, (i64 v4_0)), (91, (.bool (!decide (y54 = 0))))] [.row 1 ((setI v3_3 v3_0 s46).map V.str)] 16 [twb 3 [.row 1 ((setI v3_3 v3_0 s46).map V.str)] (.bin .lss .other false (.c (i64 v4_0)) (.c (i64 (a1.length : Int)))) (decide (v4_0 < (a1.length : Int))) true hb52, tw 7 (E_ix [.row 1 ((setI v3_3 v3_0 s46).map V.str)] .i64 hc53), tw 8 (s := [.row 1 ((setI v3_3 v3_0 s46).map V.str)]) (s' := [.row 1 ((setI v3_3 v3_0 s46).map V.str)]) (q := (.iaa 256 1 (.c (.imm (asciiSpace.map (V.int .u8)) 0)) (.c (.int .u8 (c53.toNat : Int))))) (v := (.imm (asciiSpace.map (V.int .u8)) (c53.toNat : Int).toNat)) (e_iaai (f := (V.int .u8)) (l := asciiSpace) hy54 rfl), tw 9 (s := [.row 1 ((setI v3_3 v3_0 s46).map V.str)]) (s' := [.row 1 ((setI v3_3 v3_0 s46).map V.str)]) (q := (.ld1 (.c (.imm (asciiSpace.map (V.int .u8)) (c53.toNat : Int).toNat)))) (v := (.int .u8 y54)) (e_ldarri (f := (V.int .u8)) (l := asciiSpace) hy54)] ?_
                  refine go_if h (fun hb55 h => ?_) (fun hb55 h => ?_)
                  · cases h
                  · rw [hb55]
                    refine gx mo [.pc p177_73, .blk 5, .jp J3, .blk 4, .pc p177_91] 106 [(0, (.str a1)), (9, (.osl 0 0 (setI v3_3 v3_0 s46).length)), (10, (i64 (IntKind.wrap .i64 (v3_0 + 1)))), (12, (i64 v4_0))] [.row 1 ((setI v3_3 v3_0 s46).map V.str)] 2 [] ?_
                    exact kont4_0 v4_0 h
                · cases h
          · rw [hb42]
            refine gx mo [.pc p177_91] 106 [(0, (.str a1)), (9, (.osl 0 0 v3_3.length)), (10, (i64 v3_0)), (11, (i64 v3_1))] [.row 1 (v3_3.map V.str)] 2 [] ?_
            exact kont3_0 (v3_3, v3_0, v3_1) h
      refine go_loop' (fun m t s => ∃ (v2_0 : Int), (L_strings_Fields_2 N a1 m v2_0).bind (fun q => (K_strings_Fields_2 N a1 l6 q).bind some) = some r ∧ t = (mk 106 [(0, (.str a1)), (9, (.osl 0 0 l6.length)), (10, (i64 0)), (12, (i64 v2_0))]) ∧ s = [.row 1 (l6.map V.str)]) N ⟨0, go_assoc h, rfl, rfl⟩ ?_
      intro m2 J2 hJ2 t s
      rintro ⟨v2_0, h, rfl, rfl⟩
      cases m2 with
      | zero => exact absurd h (by simp [L_strings_Fields_2])
      | succ m2 =>
        rw [L_strings_Fields_2] at h
        refine go_if h (fun hb56 h => ?_) (fun hb56 h => ?_)
        · refine go_bind h (fun c57 hc57 h => ?_)
          refine go_bind h (fun y58 hy58 h => ?_)
          refine gx mo [.pc p177_40, .pc p177_43, .jp J2, .blk 2, .pc p177_93] 106 [(0, (.str a1)), (9, (.osl 0 0 l6.length)), (10, (i64 0)), (12, (i64 v2_0)), (53, (.bool (!decide (y58 = 0))))] [.row 1 (l6.map V.str)] 16 [twb 3 [.row 1 (l6.map V.str)] (.bin .lss .other false (.c (i64 v2_0)) (.c (i64 (a1.length : Int)))) (decide (v2_0 < (a1.length : Int))) true hb56, tw 7 (E_ix [.row 1 (l6.map V.str)] .i64 hc57), tw 8 (s := [.row 1 (l6.map V.str)]) (s' := [.row 1 (l6.map V.str)]) (q := (.iaa 256 1 (.c (.imm (asciiSpace.map (V.int .u8)) 0)) (.c (.int .u8 (c57.toNat : Int))))) (v := (.imm (asciiSpace.map (V.int .u8)) (c57.toNat : Int).toNat)) (e_iaai (f := (V.int .u8)) (l := asciiSpace) hy58 rfl), tw 9 (s := [.row 1 (l6.map V.str)]) (s' := [.row 1 (l6.map V.str)]) (q := (.ld1 (.c (.imm (asciiSpace.map (V.int .u8)) (c57.toNat : Int).toNat)))) (v := (.int .u8 y58)) (e_ldarri (f := (V.int .u8)) (l := asciiSpace) hy58)] ?_
          refine go_if h (fun hb59 h => ?_) (fun hb59 h => ?_)
          · cases h
          · rw [hb59]
            refine gx mo [.pc p177_93] 106 [(0, (.str a1)), (9, (.osl 0 0 l6.length)), (10, (i64 0)), (12, (i64 v2_0))] [.row 1 (l6.map V.str)] 2 [] ?_
            exact kont2_0 v2_0 h
        · cases h
  refine go_loop' (fun m t s => ∃ (v1_0 : Int) (v1_1 : Int) (v1_2 : Int) (v1_3 : Int), (L_strings_Fields_1 N a1 m v1_0 v1_1 v1_2 v1_3).bind (fun q => (K_strings_Fields_1 N a1 q).bind some) = some r ∧ t = (mk 106 [(0, (.str a1)), (3, (i64 v1_0)), (4, (i64 v1_1)), (5, (.int .u8 v1_2)), (6, (i64 v1_3))]) ∧ s = []) N ⟨0, 1, 0, 0, go_assoc h, rfl, rfl⟩ ?_
  intro m1 J1 hJ1 t s
  rintro ⟨v1_0, v1_1, v1_2, v1_3, h, rfl, rfl⟩
  cases m1 with
  | zero => exact absurd h (by simp [L_strings_Fields_1])
  | succ m1 =>
    rw [L_strings_Fields_1] at h
    refine gx mo [.pc p177_8, .pc p177_21, .jp J1, .blk 0, .pc p177_99] 106 [(0, (.str a1)), (3, (i64 v1_0)), (4, (i64 v1_1)), (5, (.int .u8 v1_2)), (6, (i64 v1_3)), (16, (.bool (decide (v1_3 < (a1.length : Int)))))] [] 8 [] ?_
    refine go_if h (fun hb60 h => ?_) (fun hb60 h => ?_)
    · rw [hb60]
      refine go_bind h (fun c61 hc61 h => ?_)
      refine go_bind h (fun y62 hy62 h => ?_)
      refine gx mo [.jp J1, .blk 0, .pc p177_99] 106 [(0, (.str a1)), (3, (i64 (IntKind.wrap .i64 (v1_0 + (IntKind.wrap .i64 ((BitVec.ofInt 64 v1_1 &&& BitVec.ofInt 64 (IntKind.wrap .i64 ((BitVec.ofInt 64 (-1) ^^^ BitVec.ofInt 64 (IntKind.wrap .i64 y62)).toNat : Int))).toNat : Int)))))), (4, (i64 (IntKind.wrap .i64 y62))), (5, (.int .u8 (IntKind.wrap .u8 ((BitVec.ofInt 8 v1_2 ||| BitVec.ofInt 8 (c61.toNat : Int)).toNat : Int)))), (6, (i64 (IntKind.wrap .i64 (v1_3 + 1))))] [] 46 [tw 3 (E_ix [] .i64 hc61), tw 10 (s := []) (s' := []) (q := (.iaa 256 1 (.c (.imm (asciiSpace.map (V.int .u8)) 0)) (.c (.int .u8 (c61.toNat : Int))))) (v := (.imm (asciiSpace.map (V.int .u8)) (c61.toNat : Int).toNat)) (e_iaai (f := (V.int .u8)) (l := asciiSpace) hy62 rfl), tw 11 (s := []) (s' := []) (q := (.ld1 (.c (.imm (asciiSpace.map (V.int .u8)) (c61.toNat : Int).toNat)))) (v := (.int .u8 y62)) (e_ldarri (f := (V.int .u8)) (l := asciiSpace) hy62)] ?_
      exact go_back rfl (hJ1 m1 _ _ (Nat.lt_succ_self m1) ⟨IntKind.wrap .i64 (v1_0 + (IntKind.wrap .i64 ((BitVec.ofInt 64 v1_1 &&& BitVec.ofInt 64 (IntKind.wrap .i64 ((BitVec.ofInt 64 (-1) ^^^ BitVec.ofInt 64 (IntKind.wrap .i64 y62)).toNat : Int))).toNat : Int))), IntKind.wrap .i64 y62, IntKind.wrap .u8 ((BitVec.ofInt 8 v1_2 ||| BitVec.ofInt 8 (c61.toNat : Int)).toNat : Int), IntKind.wrap .i64 (v1_3 + 1), h, rfl, rfl⟩)
    · rw [hb60]
      refine gx mo [.pc p177_99] 106 [(0, (.str a1)), (3, (i64 v1_0)), (5, (.int .u8 v1_2))] [] 2 [] ?_
      exact kont1_0 (v1_0, v1_2) h
/-! corebank/token.words -/
def p173_2 : PC := .ret
def p173_4 : PC := (.seq (.reg (oo 0 (.mv (.c .nils)) :: [])) (.seq (.reg (⟨some 1, .call 177 [.c (.str [112, 114, 111, 100, 117, 99, 116, 32, 99, 117, 114, 114, 101, 110, 99, 121, 32, 99, 97, 108, 101, 110, 100, 97, 114, 32, 102, 114, 111, 109, 32, 101, 118, 101, 114, 121, 32, 111, 118, 101, 114, 100, 114, 97, 102, 116, 32, 116, 97, 120, 32, 99, 114, 101, 100, 105, 116, 32, 100, 101, 98, 105, 116, 32, 109, 97, 114, 103, 105, 110, 97, 108, 32, 119, 104, 111, 108, 101, 32, 97, 99, 116, 51, 54, 48, 32, 97, 99, 116, 51, 54, 53, 32, 97, 99, 116, 117, 97, 108, 32, 116, 104, 105, 114, 116, 121, 32, 100, 111, 119, 110, 32, 117, 112, 32, 102, 108, 111, 111, 114, 32, 99, 101, 105, 108, 32, 104, 97, 108, 102, 95, 117, 112, 32, 104, 97, 108, 102, 95, 101, 118, 101, 110, 32, 107, 101, 101, 112, 32, 100, 114, 111, 112, 32, 102, 101, 101, 32, 108, 105, 109, 105, 116, 32, 119, 104, 101, 110, 32, 97, 109, 111, 117, 110, 116, 95, 111, 102, 32, 115, 105, 110, 103, 108, 101, 32, 100, 97, 105, 108, 121, 32, 109, 111, 110, 116, 104, 108, 121, 32, 109, 111, 110, 116, 104, 32, 114, 101, 116, 117, 114, 110, 32, 99, 108, 111, 115, 101, 32, 101, 118, 101, 110, 116, 32, 105, 102, 32, 116, 104, 101, 110, 32, 101, 108, 115, 101, 32, 97, 110, 100, 32, 111, 114, 32, 110, 111, 116, 32, 109, 105, 110, 32, 109, 97, 120])], none⟩ :: om 0 1 :: [])) p173_2))
theorem fn173 : FnOk Tryz.prog 173 p173_4 2 [.t 0] := ⟨false, Tryz.f173, _, Tryz.func173, by decide, rfl, by kernel_rfl, rfl, by kernel_rfl⟩
def F_token_words  (N : Nat)  : Option ((List (List UInt8))) :=
      (F_strings_Fields N [112, 114, 111, 100, 117, 99, 116, 32, 99, 117, 114, 114, 101, 110, 99, 121, 32, 99, 97, 108, 101, 110, 100, 97, 114, 32, 102, 114, 111, 109, 32, 101, 118, 101, 114, 121, 32, 111, 118, 101, 114, 100, 114, 97, 102, 116, 32, 116, 97, 120, 32, 99, 114, 101, 100, 105, 116, 32, 100, 101, 98, 105, 116, 32, 109, 97, 114, 103, 105, 110, 97, 108, 32, 119, 104, 111, 108, 101, 32, 97, 99, 116, 51, 54, 48, 32, 97, 99, 116, 51, 54, 53, 32, 97, 99, 116, 117, 97, 108, 32, 116, 104, 105, 114, 116, 121, 32, 100, 111, 119, 110, 32, 117, 112, 32, 102, 108, 111, 111, 114, 32, 99, 101, 105, 108, 32, 104, 97, 108, 102, 95, 117, 112, 32, 104, 97, 108, 102, 95, 101, 118, 101, 110, 32, 107, 101, 101, 112, 32, 100, 114, 111, 112, 32, 102, 101, 101, 32, 108, 105, 109, 105, 116, 32, 119, 104, 101, 110, 32, 97, 109, 111, 117, 110, 116, 95, 111, 102, 32, 115, 105, 110, 103, 108, 101, 32, 100, 97, 105, 108, 121, 32, 109, 111, 110, 116, 104, 108, 121, 32, 109, 111, 110, 116, 104, 32, 114, 101, 116, 117, 114, 110, 32, 99, 108, 111, 115, 101, 32, 101, 118, 101, 110, 116, 32, 105, 102, 32, 116, 104, 101, 110, 32, 101, 108, 115, 101, 32, 97, 110, 100, 32, 111, 114, 32, 110, 111, 116, 32, 109, 105, 110, 32, 109, 97, 120]).bind fun r1 =>
    some r1
theorem P_token_words  {N : Nat}  {r : (List (List UInt8))} (h : F_token_words N  = some r) : Pure Tryz.prog (Gl.at 0) 173 [] (.sl (r.map V.str)) := by
  refine pure_run fn173 ?_
  rw [F_token_words] at h
  replace h := bs h
  change GG [.t 0] _ [.pc p173_4] (mk 2 []) []
  refine go_bind h (fun r1 hr1 h => ?_)
  refine gx mo [.pc p173_2] 2 [(0, (.sl (r1.map V.str)))] [] 9 [tcc 1 [] (P_strings_Fields hr1) (fs fl_nil)] ?_
  obtain rfl := Option.some.inj h
  exact gf (.sl (r1.map V.str)) (.same rfl)
/-! slices.Index[[]string,string] -/
def p184_24 : PC := .ret
def p184_25 : PC := (.seq (.reg (oo 4 (.mv (.c (.int .i64 (-1)))) :: [])) p184_24)
def p184_16 : PC := (.reg (oo 18 (.bin .add .other true (.t 8) (.c (.int .i64 1))) :: om 8 18 :: []))
def p184_12 : PC := (.cond (.t 16) (.seq (.reg (om 17 5 :: om 4 17 :: [])) .ret) .skip)
def p184_17 : PC := (.seq (.block 1 (.seq (.reg (om 10 8 :: om 5 10 :: [])) (.seq (.reg (om 11 1 :: om 12 0 :: om 13 5 :: oo 14 (.ia 1 (.t 12) (.t 13)) :: oo 15 (.ld1 (.t 14)) :: oo 16 (.bin .eql .other false (.t 11) (.t 15)) :: [])) p184_12))) p184_16)
def p184_5 : PC := (.cond (.t 9) .skip (.exit 0))
def p184_20 : PC := (.loop (.seq (.reg (oo 9 (.bin .lss .other false (.t 8) (.t 7)) :: [])) (.seq p184_5 p184_17)))
def p184_27 : PC := (.seq (.reg (oo 4 (.mv (.c (.int .i64 0))) :: [])) (.seq (.seq (.reg (om 6 0 :: oo 7 (.len .slice (.t 6)) :: oo 8 (.mv (.c (.int .i64 0))) :: [])) (.block 0 p184_20)) p184_25))
theorem fn184 : FnOk Tryz.prog 184 p184_27 19 [.t 4] := ⟨false, Tryz.f184, _, Tryz.func184, by decide, rfl, by kernel_rfl, rfl, by kernel_rfl⟩
def L_slices_Index_string_1 (N : Nat) (a1 : List (List UInt8)) (a2 : List UInt8) : Nat → Int → Option (Unit)
  | 0, _ => none
  | m1 + 1, v1_0 =>
    bif decide (v1_0 < (a1.length : Int)) then
    ((getI a1 v1_0).bind fun y7 =>
    bif a2 == y7 then
    (none)
    else
    ((L_slices_Index_string_1 N a1 a2 m1) (IntKind.wrap .i64 (v1_0 + 1))))
    else
    (some ())
def K_slices_Index_string_1 (N : Nat)  : (Unit) → Option (Int)
  | _ =>
    some (-1)
def F_slices_Index_string  (N : Nat) (a1 : List (List UInt8)) (a2 : List UInt8) : Option (Int) :=
      (L_slices_Index_string_1 N a1 a2 N 0).bind (K_slices_Index_string_1 N)
theorem P_slices_Index_string  {N : Nat} {a1 : List (List UInt8)} {a2 : List UInt8} {r : Int} (h : F_slices_Index_string N a1 a2 = some r) : Pure Tryz.prog (Gl.at 0) 184 [(.sl (a1.map V.str)), (.str a2)] (i64 r) := by
  refine pure_run fn184 ?_
  rw [F_slices_Index_string] at h
  replace h := bs h
  change GG [.t 4] _ [.pc p184_27] (mk 19 [(0, (.sl (a1.map V.str))), (1, (.str a2))]) []
  refine gx mo [.pc p184_20, .blk 0, .pc p184_25] 19 [(0, (.sl (a1.map V.str))), (1, (.str a2)), (7, (i64 (a1.length : Int))), (8, (i64 0))] [] 12 [tw 2 (E_len [] a1 V.str)] ?_
  refine go_cut (X := Unit) (fun x => (K_slices_Index_string_1 N x).bind some = some r) ([.pc p184_25]) (fun x => (mk 19 [])) (fun x => []) ?_ fun kont1_0 => ?_
  · rintro _ h
    rw [K_slices_Index_string_1] at h
    refine gx mo [.pc p184_24] 19 [(4, (i64 (-1)))] [] 4 [] ?_
    obtain rfl := Option.some.inj h
    exact gf (i64 (-1)) (.same rfl)
  refine go_loop' (fun m t s => ∃ (v1_0 : Int), (L_slices_Index_string_1 N a1 a2 m v1_0).bind (fun q => (K_slices_Index_string_1 N q).bind some) = some r ∧ t = (mk 19 [(0, (.sl (a1.map V.str))), (1, (.str a2)), (7, (i64 (a1.length : Int))), (8, (i64 v1_0))]) ∧ s = []) N ⟨0, go_assoc h, rfl, rfl⟩ ?_
  intro m1 J1 hJ1 t s
  rintro ⟨v1_0, h, rfl, rfl⟩
  cases m1 with
  | zero => exact absurd h (by simp [L_slices_Index_string_1])
  | succ m1 =>
    rw [L_slices_Index_string_1] at h
    refine gx mo [.pc p184_5, .pc p184_17, .jp J1, .blk 0, .pc p184_25] 19 [(0, (.sl (a1.map V.str))), (1, (.str a2)), (7, (i64 (a1.length : Int))), (8, (i64 v1_0)), (9, (.bool (decide (v1_0 < (a1.length : Int)))))] [] 5 [] ?_
    refine go_if h (fun hb6 h => ?_) (fun hb6 h => ?_)
    · rw [hb6]
      refine go_bind h (fun y7 hy7 h => ?_)
      refine gx mo [.pc p184_12, .blk 1, .pc p184_16, .jp J1, .blk 0, .pc p184_25] 19 [(0, (.sl (a1.map V.str))), (1, (.str a2)), (5, (i64 v1_0)), (7, (i64 (a1.length : Int))), (8, (i64 v1_0)), (16, (.bool (a2 == y7)))] [] 18 [tw 6 (E_ia [] V.str .i64 hy7)] ?_
      refine go_if h (fun hb8 h => ?_) (fun hb8 h => ?_)
      · cases h
      · rw [hb8]
        refine gx mo [.jp J1, .blk 0, .pc p184_25] 19 [(0, (.sl (a1.map V.str))), (1, (.str a2)), (7, (i64 (a1.length : Int))), (8, (i64 (IntKind.wrap .i64 (v1_0 + 1))))] [] 7 [] ?_
        exact go_back rfl (hJ1 m1 _ _ (Nat.lt_succ_self m1) ⟨IntKind.wrap .i64 (v1_0 + 1), h, rfl, rfl⟩)
    · rw [hb6]
      refine gx mo [.pc p184_25] 19 [] [] 2 [] ?_
      exact kont1_0 () h
/-! slices.Contains[[]string,string] -/
def p172_2 : PC := .ret
def p172_4 : PC := (.seq (.reg (oo 4 (.mv (.c (.bool false))) :: [])) (.seq (.reg (om 5 0 :: om 6 1 :: ⟨some 7, .call 184 [.t 5, .t 6], none⟩ :: oo 8 (.bin .geq .other true (.t 7) (.c (.int .i64 0))) :: om 4 8 :: [])) p172_2))
theorem fn172 : FnOk Tryz.prog 172 p172_4 9 [.t 4] := ⟨false, Tryz.f172, _, Tryz.func172, by decide, rfl, by kernel_rfl, rfl, by kernel_rfl⟩
def F_slices_Contains_string  (N : Nat) (a1 : List (List UInt8)) (a2 : List UInt8) : Option (Bool) :=
      (F_slices_Index_string N a1 a2).bind fun r3 =>
    some (decide (0 ≤ r3))
theorem P_slices_Contains_string  {N : Nat} {a1 : List (List UInt8)} {a2 : List UInt8} {r : Bool} (h : F_slices_Contains_string N a1 a2 = some r) : Pure Tryz.prog (Gl.at 0) 172 [(.sl (a1.map V.str)), (.str a2)] (.bool r) := by
  refine pure_run fn172 ?_
  rw [F_slices_Contains_string] at h
  replace h := bs h
  change GG [.t 4] _ [.pc p172_4] (mk 9 [(0, (.sl (a1.map V.str))), (1, (.str a2))]) []
  refine go_bind h (fun r3 hr3 h => ?_)
  refine gx mo [.pc p172_2] 9 [(4, (.bool (decide (0 ≤ r3))))] [] 12 [tc 3 [] (P_slices_Index_string hr3) (fs (fs fl_nil))] ?_
  obtain rfl := Option.some.inj h
  exact gf (.bool (decide (0 ≤ r3))) (.same rfl)
/-! corebank/token.Word -/
def p161_2 : PC := .ret
def p161_4 : PC := (.seq (.reg (oo 2 (.mv (.c (.bool false))) :: [])) (.seq (.reg (⟨some 3, .call 173 [], none⟩ :: om 4 0 :: ⟨some 5, .call 172 [.t 3, .t 4], none⟩ :: om 2 5 :: [])) p161_2))
theorem fn161 : FnOk Tryz.prog 161 p161_4 6 [.t 2] := ⟨false, Tryz.f161, _, Tryz.func161, by decide, rfl, by kernel_rfl, rfl, by kernel_rfl⟩
def F_token_Word  (N : Nat) (a1 : List UInt8) : Option (Bool) :=
      (F_token_words N).bind fun r2 =>
    (F_slices_Contains_string N r2 a1).bind fun r3 =>
    some r3
theorem P_token_Word  {N : Nat} {a1 : List UInt8} {r : Bool} (h : F_token_Word N a1 = some r) : Pure Tryz.prog (Gl.at 0) 161 [(.str a1)] (.bool r) := by
  refine pure_run fn161 ?_
  rw [F_token_Word] at h
  replace h := bs h
  change GG [.t 2] _ [.pc p161_4] (mk 6 [(0, (.str a1))]) []
  refine go_bind h (fun r2 hr2 h => ?_)
  refine go_bind h (fun r3 hr3 h => ?_)
  refine gx mo [.pc p161_2] 6 [(2, (.bool r3))] [] 11 [tcc 1 [] (P_token_words hr2) fl_nil, tc 3 [] (P_slices_Contains_string hr3) (fs (fs fl_nil))] ?_
  obtain rfl := Option.some.inj h
  exact gf (.bool r3) (.same rfl)
/-! corebank/token.next -/
def p147_60 : PC := (.seq (.seq (.reg (⟨some 34, .call 165 [], none⟩ :: oo 35 (.len .slice (.t 34)) :: oo 36 (.mv (.c (.int .i64 0))) :: [])) (.block 1 (.loop (.seq (.reg (oo 37 (.bin .lss .other false (.t 36) (.t 35)) :: [])) (.seq (.cond (.t 37) .skip (.exit 1)) (.seq (.block 2 (.seq (.reg (oo 38 (.ia 1 (.t 34) (.t 36)) :: oo 39 (.ld1 (.t 38)) :: om 7 39 :: [])) (.seq (.reg (om 40 0 :: om 41 7 :: ⟨some 42, .call 166 [.t 40, .t 41], none⟩ :: [])) (.cond (.t 42) (.seq (.reg (om 43 7 :: oo 44 (.build [.int .i64 0, .int .i64 0, .str []] [(0, 1, .c (.int .i64 4)), (2, 1, .t 43)]) :: on_ (.st 3 (.t 2) (.t 44)) :: oo 3 (.mv (.c (.int .i64 0))) :: [])) .ret) .skip)))) (.reg (oo 45 (.bin .add .other true (.t 36) (.c (.int .i64 1))) :: om 36 45 :: [])))))))) (.seq (.reg (oo 46 (.build [.int .i64 0, .int .i64 0, .str []] []) :: on_ (.st 3 (.t 2) (.t 46)) :: oo 3 (.mv (.c (.int .i64 2))) :: [])) .ret))
def p147_19 : PC := .ret
def p147_20 : PC := (.seq (.reg (om 24 5 :: oo 25 (.build [.int .i64 0, .int .i64 0, .str []] [(0, 1, .c (.int .i64 1)), (2, 1, .t 24)]) :: on_ (.st 3 (.t 2) (.t 25)) :: oo 3 (.mv (.c (.int .i64 0))) :: [])) p147_19)
def p147_16 : PC := (.cond (.t 22) (.seq (.reg (oo 23 (.build [.int .i64 0, .int .i64 0, .str []] []) :: on_ (.st 3 (.t 2) (.t 23)) :: oo 3 (.mv (.c (.int .i64 4))) :: [])) .ret) .skip)
def p147_21 : PC := (.seq (.seq (.reg (om 20 5 :: oo 21 (.len .str (.t 20)) :: oo 22 (.bin .gtr .other true (.t 21) (.c (.int .i64 16))) :: [])) p147_16) p147_20)
def p147_9 : PC := (.cond (.t 17) (.seq (.reg (om 18 5 :: oo 19 (.build [.int .i64 0, .int .i64 0, .str []] [(0, 1, .c (.int .i64 5)), (2, 1, .t 18)]) :: on_ (.st 3 (.t 2) (.t 19)) :: oo 3 (.mv (.c (.int .i64 0))) :: [])) .ret) .skip)
def p147_31 : PC := (.cond (.t 11) (.seq (.reg (om 14 0 :: ⟨some 15, .call 154 [.t 14, .c (.fn (.func 160) [] [])], none⟩ :: om 5 15 :: [])) (.seq (.seq (.reg (om 16 5 :: ⟨some 17, .call 161 [.t 16], none⟩ :: [])) p147_9) p147_21)) (.seq (.reg (om 27 4 :: ⟨some 28, .call 162 [.t 27], none⟩ :: om 26 28 :: [])) (.cond (.t 26) (.seq (.reg (om 29 0 :: ⟨some 30, .call 154 [.t 29, .c (.fn (.func 164) [] [])], none⟩ :: ⟨some 31, .call 163 [.t 30], none⟩ :: oo 32 (.ext 0 (.t 31)) :: oo 33 (.ext 1 (.t 31)) :: on_ (.st 3 (.t 2) (.t 32)) :: om 3 33 :: [])) .ret) .skip)))
def p147_62 : PC := (.seq (.reg (oo 2 (.new (.agg [.int .i64 0, .int .i64 0, .str []])) :: oo 3 (.mv (.c (.int .i64 0))) :: [])) (.seq (.seq (.reg (om 8 0 :: oo 9 (.ix (.t 8) (.c (.int .i64 0))) :: oo 10 (.cvI .i32 (.t 9)) :: om 4 10 :: [])) (.block 0 (.seq (.reg (om 12 4 :: ⟨some 13, .call 159 [.t 12], none⟩ :: om 11 13 :: [])) p147_31))) p147_60))
theorem fn147 : FnOk Tryz.prog 147 p147_62 47 [.a 2 3, .t 3] := ⟨false, Tryz.f147, _, Tryz.func147, by decide, rfl, by kernel_rfl, rfl, by kernel_rfl⟩
def F_token_next  (N : Nat) (a1 : List UInt8) : Option (ApiToken × Int) :=
      (getI a1 0).bind fun c2 =>
    (F_token_letter N (IntKind.wrap .i32 (c2.toNat : Int))).bind fun r3 =>
    bif r3 then
    ((F_token_prefix_v32f N a1).bind fun r5 =>
    (F_token_Word N r5).bind fun r6 =>
    bif r6 then
    (none)
    else
    (bif decide (16 < (r5.length : Int)) then
    (none)
    else
    (some ((⟨1, 0, r5⟩ : ApiToken), 0))))
    else
    (none)
theorem P_token_next  {N : Nat} {a1 : List UInt8} {r : ApiToken × Int} (h : F_token_next N a1 = some r) : Pure Tryz.prog (Gl.at 0) 147 [(.str a1)] (.tup [(ApiToken.v r.1), (i64 r.2)]) := by
  refine pure_run fn147 ?_
  rw [F_token_next] at h
  replace h := bs h
  change GG [.a 2 3, .t 3] _ [.pc p147_62] (mk 47 [(0, (.str a1))]) []
  refine go_bind h (fun c2 hc2 h => ?_)
  refine go_bind h (fun r3 hr3 h => ?_)
  refine gx mo [.pc p147_31, .blk 0, .pc p147_60] 47 [(0, (.str a1)), (2, (.ref 0 0 0)), (4, (.int .i32 (IntKind.wrap .i32 (c2.toNat : Int)))), (11, (.bool r3))] [.row 3 [(.agg [(i64 0), (i64 0), (.str [])])]] 20 [tw 3 (E_ix [.row 3 [(.agg [(i64 0), (i64 0), (.str [])])]] .i64 hc2), tc 7 [.row 3 [(.agg [(i64 0), (i64 0), (.str [])])]] (P_token_letter hr3) (fs fl_nil)] ?_
  refine go_if h (fun hb4 h => ?_) (fun hb4 h => ?_)
  · rw [hb4]
    refine go_bind h (fun r5 hr5 h => ?_)
    refine go_bind h (fun r6 hr6 h => ?_)
    refine gx mo [.pc p147_9, .pc p147_21, .blk 0, .pc p147_60] 47 [(2, (.ref 0 0 0)), (5, (.str r5)), (17, (.bool r6))] [.row 3 [(.agg [(i64 0), (i64 0), (.str [])])]] 13 [tc 2 [.row 3 [(.agg [(i64 0), (i64 0), (.str [])])]] (P_token_prefix_v32f hr5) (fs (fl_cons (f_fn fl_nil fl_nil) fl_nil)), tc 5 [.row 3 [(.agg [(i64 0), (i64 0), (.str [])])]] (P_token_Word hr6) (fs fl_nil)] ?_
    refine go_if h (fun hb7 h => ?_) (fun hb7 h => ?_)
    · cases h
    · rw [hb7]
      refine gx mo [.pc p147_16, .pc p147_20, .blk 0, .pc p147_60] 47 [(2, (.ref 0 0 0)), (5, (.str r5)), (22, (.bool (decide (16 < (r5.length : Int)))))] [.row 3 [(.agg [(i64 0), (i64 0), (.str [])])]] 9 [] ?_
      refine go_if h (fun hb8 h => ?_) (fun hb8 h => ?_)
      · cases h
      · rw [hb8]
        refine gx mo [.pc p147_19, .blk 0, .pc p147_60] 47 [(2, (.ref 0 0 0)), (3, (i64 0))] [.row 3 [(.agg [(i64 1), (i64 0), (.str r5)])]] 9 [] ?_
        obtain rfl := Option.some.inj h
        exact gf (.tup [(.agg [(i64 1), (i64 0), (.str r5)]), (i64 0)]) (f_tupl (fg (fs fl_nil)))
  · cases h
/-! corebank/token.Tokenize -/
def p138_32 : PC := (.seq (.reg (om 36 6 :: oo 37 (.fa 1 (.t 8)) :: on_ (.st 1 (.t 37) (.t 36)) :: [])) (.seq (.reg (om 38 5 :: oo 39 (.ldA 3 (.t 8)) :: oo 40 (.lit (.agg [.int .i64 0, .int .i64 0, .str []]) 1 [(0, .t 39)]) :: oo 41 (.app 3 32 (.t 38) (.t 40)) :: om 5 41 :: [])) (.reg (om 42 0 :: oo 43 (.fa 2 (.t 8)) :: oo 44 (.ld1 (.t 43)) :: oo 45 (.len .str (.t 44)) :: oo 46 (.slc .str (.t 42) (some (.t 45)) none) :: om 0 46 :: []))))
def p138_26 : PC := (.cond (.t 33) (.seq (.reg (om 34 6 :: om 35 9 :: oo 2 (.mv (.c .nils)) :: om 3 34 :: om 4 35 :: [])) .ret) .skip)
def p138_34 : PC := (.seq (.reg (om 28 0 :: ⟨some 29, .call 147 [.t 28], none⟩ :: om 27 29 :: oo 30 (.ext 0 (.t 27)) :: oo 31 (.ext 1 (.t 27)) :: oo 8 (.new (.agg [.int .i64 0, .int .i64 0, .str []])) :: on_ (.st 3 (.t 8) (.t 30)) :: om 9 31 :: [])) (.seq (.seq (.reg (om 32 9 :: oo 33 (.bin .neq .other true (.t 32) (.c (.int .i64 0))) :: [])) p138_26) p138_32))
def p138_15 : PC := .ret
def p138_18 : PC := (.cond (.t 25) (.seq (.reg (om 26 5 :: om 2 26 :: oo 3 (.mv (.c (.int .i64 0))) :: oo 4 (.mv (.c (.int .i64 0))) :: [])) p138_15) .skip)
def p138_40 : PC := (.loop (.block 1 (.seq (.reg (om 13 0 :: ⟨some 14, .call 145 [.t 13], none⟩ :: om 7 14 :: [])) (.seq (.reg (om 15 6 :: om 16 0 :: om 17 7 :: oo 18 (.slc .str (.t 16) none (some (.t 17))) :: ⟨some 19, .call 146 [.t 18, .c (.str [10])], none⟩ :: oo 20 (.bin .add .other false (.t 15) (.t 19)) :: om 6 20 :: [])) (.seq (.reg (om 21 0 :: om 22 7 :: oo 23 (.slc .str (.t 21) (some (.t 22)) none) :: om 0 23 :: [])) (.seq (.seq (.reg (om 24 0 :: oo 25 (.bin .eql .other true (.t 24) (.c (.str []))) :: [])) p138_18) p138_34))))))
def p138_43 : PC := (.seq (.reg (oo 5 (.mv (.c .nils)) :: [])) (.seq (.reg (oo 6 (.mv (.c (.int .i64 1))) :: [])) (.block 0 p138_40)))
def p138_6 : PC := (.cond (.t 12) (.seq (.reg (oo 2 (.mv (.c .nils)) :: oo 3 (.mv (.c (.int .i64 0))) :: oo 4 (.mv (.c (.int .i64 5))) :: [])) .ret) .skip)
def p138_45 : PC := (.seq (.reg (oo 2 (.mv (.c .nils)) :: oo 3 (.mv (.c (.int .i64 0))) :: oo 4 (.mv (.c (.int .i64 0))) :: [])) (.seq (.seq (.reg (om 10 0 :: oo 11 (.len .str (.t 10)) :: oo 12 (.bin .gtr .other true (.t 11) (.c (.int .i64 2048))) :: [])) p138_6) p138_43))
theorem fn138 : FnOk Tryz.prog 138 p138_45 47 [.t 2, .t 3, .t 4] := ⟨false, Tryz.f138, _, Tryz.func138, by decide, rfl, by kernel_rfl, rfl, by kernel_rfl⟩
def L_token_Tokenize_1 (N : Nat)  : Nat → (List UInt8) → (List ApiToken) → Int → Option (Br ((List ApiToken) × Int × Int) (Unit))
  | 0, _, _, _ => none
  | m1 + 1, v1_0, v1_1, v1_2 =>
    (F_token_blanks N v1_0).bind fun r12 =>
    (slcI v1_0 0 r12).bind fun s13 =>
    (F_strings_Count N s13 [10]).bind fun r14 =>
    (slcI v1_0 r12 (v1_0.length : Int)).bind fun s15 =>
    bif s15 == [] then
    (some (.ret (v1_1, 0, 0)))
    else
    ((F_token_next N s15).bind fun r17 =>
    bif !decide (r17.2 = 0) then
    (none)
    else
    ((appI 32 v1_1 ([(⟨r17.1.Kind_, IntKind.wrap .i64 (v1_2 + r14), r17.1.Text_⟩ : ApiToken)] : List ApiToken)).bind fun l19 =>
    (slcI s15 (r17.1.Text_.length : Int) (s15.length : Int)).bind fun s20 =>
    (L_token_Tokenize_1 N m1) s20 l19 (IntKind.wrap .i64 (v1_2 + r14))))
def K_token_Tokenize_1 (N : Nat)  : Br ((List ApiToken) × Int × Int) (Unit) → Option ((List ApiToken) × Int × Int)
  | .ret r => some r
  | .brk _ =>
    none
def F_token_Tokenize  (N : Nat) (a1 : List UInt8) : Option ((List ApiToken) × Int × Int) :=
      bif decide (2048 < (a1.length : Int)) then
    (none)
    else
    ((L_token_Tokenize_1 N N a1 [] 1).bind (K_token_Tokenize_1 N))
theorem P_token_Tokenize  {N : Nat} {a1 : List UInt8} {r : (List ApiToken) × Int × Int} (h : F_token_Tokenize N a1 = some r) : Pure Tryz.prog (Gl.at 0) 138 [(.str a1)] (.tup [(.sl (r.1.map ApiToken.v)), (i64 r.2.1), (i64 r.2.2)]) := by
  refine pure_run fn138 ?_
  rw [F_token_Tokenize] at h
  replace h := bs h
  change GG [.t 2, .t 3, .t 4] _ [.pc p138_45] (mk 47 [(0, (.str a1))]) []
  refine gx mo [.pc p138_6, .pc p138_43] 47 [(0, (.str a1)), (12, (.bool (decide (2048 < (a1.length : Int)))))] [] 13 [] ?_
  refine go_if h (fun hb2 h => ?_) (fun hb2 h => ?_)
  · cases h
  · rw [hb2]
    refine gx mo [.pc p138_40, .blk 0] 47 [(0, (.str a1)), (5, .nils), (6, (i64 1))] [] 11 [] ?_
    refine go_loop' (fun m t s => ∃ (v1_0 : List UInt8) (v1_1 : List ApiToken) (v1_2 : Int), (L_token_Tokenize_1 N m v1_0 v1_1 v1_2).bind (fun q => (K_token_Tokenize_1 N q).bind some) = some r ∧ ((v1_1 = [] ∧ t = (mk 47 [(0, (.str v1_0)), (5, .nils), (6, (i64 v1_2))]) ∧ s = []) ∨ (t = (mk 47 [(0, (.str v1_0)), (5, (.osl 0 0 v1_1.length)), (6, (i64 v1_2))]) ∧ s = [.row 3 (v1_1.map ApiToken.v)]))) N ⟨a1, [], 1, go_assoc h, .inl ⟨rfl, rfl, rfl⟩⟩ ?_
    intro m1 J1 hJ1 t s
    rintro ⟨v1_0, v1_1, v1_2, h, hsh⟩
    cases m1 with
    | zero => exact absurd h (by simp [L_token_Tokenize_1])
    | succ m1 =>
      rw [L_token_Tokenize_1] at h
      rcases hsh with ⟨rfl, rfl, rfl⟩ | ⟨rfl, rfl⟩
      · refine go_bind h (fun r12 hr12 h => ?_)
        refine go_bind h (fun s13 hs13 h => ?_)
        refine go_bind h (fun r14 hr14 h => ?_)
        refine go_bind h (fun s15 hs15 h => ?_)
        refine gx mo [.pc p138_18, .pc p138_34, .blk 1, .jp J1, .blk 0] 47 [(0, (.str s15)), (5, .nils), (6, (i64 (IntKind.wrap .i64 (v1_2 + r14)))), (25, (.bool (s15 == [])))] [] 30 [tc 1 [] (P_token_blanks hr12) (fs fl_nil), tw 6 (s := []) (s' := []) (q := (.slc .str (.c (.str v1_0)) none (some (.c (i64 r12))))) (v := (.str s13)) (e_slcs rfl rfl hs13), tc 7 [] (P_strings_Count hr14) (fs (fs fl_nil)), tw 12 (s := []) (s' := []) (q := (.slc .str (.c (.str v1_0)) (some (.c (i64 r12))) none)) (v := (.str s15)) (e_slcs rfl rfl hs15)] ?_
        refine go_if h (fun hb16 h => ?_) (fun hb16 h => ?_)
        · rw [hb16]
          refine gx mo [.pc p138_15, .pc p138_34, .blk 1, .jp J1, .blk 0] 47 [(2, .nils), (3, (i64 0)), (4, (i64 0))] [] 8 [] ?_
          obtain rfl := Option.some.inj h
          exact gf (.tup [.nils, (i64 0), (i64 0)]) (f_tupl (fl_cons .nil0 (fs (fs fl_nil))))
        · rw [hb16]
          refine go_bind h (fun r17 hr17 h => ?_)
          refine gx mo [.pc p138_26, .pc p138_32, .blk 1, .jp J1, .blk 0] 47 [(0, (.str s15)), (5, .nils), (6, (i64 (IntKind.wrap .i64 (v1_2 + r14)))), (8, (.ref 0 0 0)), (9, (i64 r17.2)), (33, (.bool (!decide (r17.2 = 0))))] [.row 3 [(ApiToken.v r17.1)]] 19 [tc 2 [] (P_token_next hr17) (fs fl_nil)] ?_
          refine go_if h (fun hb18 h => ?_) (fun hb18 h => ?_)
          · cases h
          · rw [hb18]
            refine go_bind h (fun l19 hl19 h => ?_)
            refine go_bind h (fun s20 hs20 h => ?_)
            refine gx mo [.jp J1, .blk 0] 47 [(0, (.str s20)), (5, (.osl 1 0 l19.length)), (6, (i64 (IntKind.wrap .i64 (v1_2 + r14))))] [.row 3 [(.agg [(i64 r17.1.Kind_), (i64 (IntKind.wrap .i64 (v1_2 + r14))), (.str r17.1.Text_)])], .row 3 (l19.map ApiToken.v)] 25 [tw 7 (s := [.row 3 [(.agg [(i64 r17.1.Kind_), (i64 (IntKind.wrap .i64 (v1_2 + r14))), (.str r17.1.Text_)])]]) (s' := [.row 3 [(.agg [(i64 r17.1.Kind_), (i64 (IntKind.wrap .i64 (v1_2 + r14))), (.str r17.1.Text_)])], .row 3 (l19.map ApiToken.v)]) (q := (.app 3 32 (.c .nils) (.c (.sl [(.agg [(i64 r17.1.Kind_), (i64 (IntKind.wrap .i64 (v1_2 + r14))), (.str r17.1.Text_)])])))) (v := (.osl 1 0 l19.length)) (e_app0 (f := ApiToken.v) (ys := ([(⟨r17.1.Kind_, IntKind.wrap .i64 (v1_2 + r14), r17.1.Text_⟩ : ApiToken)] : List ApiToken)) (.inl rfl) (fun _ => rfl) (fun _ => rfl) rfl hl19), tw 13 (s := [.row 3 [(.agg [(i64 r17.1.Kind_), (i64 (IntKind.wrap .i64 (v1_2 + r14))), (.str r17.1.Text_)])], .row 3 (l19.map ApiToken.v)]) (s' := [.row 3 [(.agg [(i64 r17.1.Kind_), (i64 (IntKind.wrap .i64 (v1_2 + r14))), (.str r17.1.Text_)])], .row 3 (l19.map ApiToken.v)]) (q := (.slc .str (.c (.str s15)) (some (.c (i64 (r17.1.Text_.length : Int)))) none)) (v := (.str s20)) (e_slcs rfl rfl hs20)] ?_
            refine go_pick [1] [] [(0, 0), (5, 0), (6, 0)] (t' := (mk 47 [(0, (.str s20)), (5, (.osl 0 0 l19.length)), (6, (i64 (IntKind.wrap .i64 (v1_2 + r14))))])) (s' := [.row 3 (l19.map ApiToken.v)]) (by kernel_rfl) ⟨clo_map (fun _ => rfl) _, trivial⟩ rfl ?_
            exact go_back rfl (hJ1 m1 _ _ (Nat.lt_succ_self m1) ⟨s20, l19, IntKind.wrap .i64 (v1_2 + r14), h, .inr (⟨rfl, rfl⟩)⟩)
      · refine go_bind h (fun r12 hr12 h => ?_)
        refine go_bind h (fun s13 hs13 h => ?_)
        refine go_bind h (fun r14 hr14 h => ?_)
        refine go_bind h (fun s15 hs15 h => ?_)
        refine gx mo [.pc p138_18, .pc p138_34, .blk 1, .jp J1, .blk 0] 47 [(0, (.str s15)), (5, (.osl 0 0 v1_1.length)), (6, (i64 (IntKind.wrap .i64 (v1_2 + r14)))), (25, (.bool (s15 == [])))] [.row 3 (v1_1.map ApiToken.v)] 30 [tc 1 [.row 3 (v1_1.map ApiToken.v)] (P_token_blanks hr12) (fs fl_nil), tw 6 (s := [.row 3 (v1_1.map ApiToken.v)]) (s' := [.row 3 (v1_1.map ApiToken.v)]) (q := (.slc .str (.c (.str v1_0)) none (some (.c (i64 r12))))) (v := (.str s13)) (e_slcs rfl rfl hs13), tc 7 [.row 3 (v1_1.map ApiToken.v)] (P_strings_Count hr14) (fs (fs fl_nil)), tw 12 (s := [.row 3 (v1_1.map ApiToken.v)]) (s' := [.row 3 (v1_1.map ApiToken.v)]) (q := (.slc .str (.c (.str v1_0)) (some (.c (i64 r12))) none)) (v := (.str s15)) (e_slcs rfl rfl hs15)] ?_
        refine go_if h (fun hb16 h => ?_) (fun hb16 h => ?_)
        · rw [hb16]
          refine gx mo [.pc p138_15, .pc p138_34, .blk 1, .jp J1, .blk 0] 47 [(2, (.osl 0 0 v1_1.length)), (3, (i64 0)), (4, (i64 0))] [.row 3 (v1_1.map ApiToken.v)] 8 [] ?_
          obtain rfl := Option.some.inj h
          exact gf (.tup [(.osl 0 0 v1_1.length), (i64 0), (i64 0)]) (f_tupl (fl_cons (f_osl (c := 0) rfl (fun _ => rfl) (fun _ => rfl) rfl) (fs (fs fl_nil))))
        · rw [hb16]
          refine go_bind h (fun r17 hr17 h => ?_)
          refine gx mo [.pc p138_26, .pc p138_32, .blk 1, .jp J1, .blk 0] 47 [(0, (.str s15)), (5, (.osl 0 0 v1_1.length)), (6, (i64 (IntKind.wrap .i64 (v1_2 + r14)))), (8, (.ref 1 0 0)), (9, (i64 r17.2)), (33, (.bool (!decide (r17.2 = 0))))] [.row 3 (v1_1.map ApiToken.v), .row 3 [(ApiToken.v r17.1)]] 19 [tc 2 [.row 3 (v1_1.map ApiToken.v)] (P_token_next hr17) (fs fl_nil)] ?_
          refine go_if h (fun hb18 h => ?_) (fun hb18 h => ?_)
          · cases h
          · rw [hb18]
            refine go_bind h (fun l19 hl19 h => ?_)
            refine go_bind h (fun s20 hs20 h => ?_)
            refine gx mo [.jp J1, .blk 0] 47 [(0, (.str s20)), (5, (.osl 2 0 l19.length)), (6, (i64 (IntKind.wrap .i64 (v1_2 + r14))))] [.dead, .row 3 [(.agg [(i64 r17.1.Kind_), (i64 (IntKind.wrap .i64 (v1_2 + r14))), (.str r17.1.Text_)])], .row 3 (l19.map ApiToken.v)] 25 [tw 7 (s := [.row 3 (v1_1.map ApiToken.v), .row 3 [(.agg [(i64 r17.1.Kind_), (i64 (IntKind.wrap .i64 (v1_2 + r14))), (.str r17.1.Text_)])]]) (s' := [.dead, .row 3 [(.agg [(i64 r17.1.Kind_), (i64 (IntKind.wrap .i64 (v1_2 + r14))), (.str r17.1.Text_)])], .row 3 (l19.map ApiToken.v)]) (q := (.app 3 32 (.c (.osl 0 0 v1_1.length)) (.c (.sl [(.agg [(i64 r17.1.Kind_), (i64 (IntKind.wrap .i64 (v1_2 + r14))), (.str r17.1.Text_)])])))) (v := (.osl 2 0 l19.length)) (e_app (f := ApiToken.v) (ys := ([(⟨r17.1.Kind_, IntKind.wrap .i64 (v1_2 + r14), r17.1.Text_⟩ : ApiToken)] : List ApiToken)) rfl (fun _ => rfl) (fun _ => rfl) rfl hl19 rfl), tw 13 (s := [.dead, .row 3 [(.agg [(i64 r17.1.Kind_), (i64 (IntKind.wrap .i64 (v1_2 + r14))), (.str r17.1.Text_)])], .row 3 (l19.map ApiToken.v)]) (s' := [.dead, .row 3 [(.agg [(i64 r17.1.Kind_), (i64 (IntKind.wrap .i64 (v1_2 + r14))), (.str r17.1.Text_)])], .row 3 (l19.map ApiToken.v)]) (q := (.slc .str (.c (.str s15)) (some (.c (i64 (r17.1.Text_.length : Int)))) none)) (v := (.str s20)) (e_slcs rfl rfl hs20)] ?_
            refine go_pick [2] [] [(0, 0), (5, 0), (6, 0)] (t' := (mk 47 [(0, (.str s20)), (5, (.osl 0 0 l19.length)), (6, (i64 (IntKind.wrap .i64 (v1_2 + r14))))])) (s' := [.row 3 (l19.map ApiToken.v)]) (by kernel_rfl) ⟨clo_map (fun _ => rfl) _, trivial⟩ rfl ?_
            exact go_back rfl (hJ1 m1 _ _ (Nat.lt_succ_self m1) ⟨s20, l19, IntKind.wrap .i64 (v1_2 + r14), h, .inr (⟨rfl, rfl⟩)⟩)
/-! corebank/expr.variable -/
def p127_3 : PC := .ret
def p127_6 : PC := (.seq (.reg (oo 2 (.mv (.c (.bool false))) :: [])) (.seq (.reg (om 7 0 :: ⟨some 8, .call 138 [.t 7], none⟩ :: om 6 8 :: oo 9 (.ext 0 (.t 6)) :: oo 10 (.ext 1 (.t 6)) :: oo 11 (.ext 2 (.t 6)) :: om 3 9 :: om 4 10 :: om 5 11 :: [])) (.seq (.reg (om 12 5 :: oo 13 (.bin .eql .other true (.t 12) (.c (.int .i64 0))) :: om 14 13 :: ⟨some 15, .op (.mv (.t 3)), some (14, true)⟩ :: ⟨some 16, .op (.len .slice (.t 15)), some (14, true)⟩ :: ⟨some 17, .op (.bin .eql .other true (.t 16) (.c (.int .i64 1))), some (14, true)⟩ :: oo 18 (.pick (.t 14) (.t 17) (.c (.bool false))) :: om 19 18 :: ⟨some 20, .op (.mv (.t 3)), some (19, true)⟩ :: ⟨some 21, .op (.ia 3 (.t 20) (.c (.int .i64 0))), some (19, true)⟩ :: ⟨some 22, .op (.fa 0 (.t 21)), some (19, true)⟩ :: ⟨some 23, .op (.ld1 (.t 22)), some (19, true)⟩ :: ⟨some 24, .op (.bin .eql .other true (.t 23) (.c (.int .i64 1))), some (19, true)⟩ :: oo 25 (.pick (.t 19) (.t 24) (.c (.bool false))) :: om 26 25 :: ⟨some 27, .op (.mv (.t 3)), some (26, true)⟩ :: ⟨some 28, .op (.ia 3 (.t 27) (.c (.int .i64 0))), some (26, true)⟩ :: ⟨some 29, .op (.fa 2 (.t 28)), some (26, true)⟩ :: ⟨some 30, .op (.ld1 (.t 29)), some (26, true)⟩ :: ⟨some 31, .op (.mv (.t 0)), some (26, true)⟩ :: ⟨some 32, .op (.bin .eql .other false (.t 30) (.t 31)), some (26, true)⟩ :: oo 33 (.pick (.t 26) (.t 32) (.c (.bool false))) :: om 2 33 :: [])) p127_3)))
theorem fn127 : FnOk Tryz.prog 127 p127_6 34 [.t 2] := ⟨false, Tryz.f127, _, Tryz.func127, by decide, rfl, by kernel_rfl, rfl, by kernel_rfl⟩
def F_expr_variable  (N : Nat) (a1 : List UInt8) : Option (Bool) :=
      (F_token_Tokenize N a1).bind fun r2 =>
    bif decide (r2.2.2 = 0) then
    (bif decide ((r2.1.length : Int) = 1) then
    ((getI r2.1 0).bind fun y5 =>
    bif decide (y5.Kind_ = 1) then
    ((getI r2.1 0).bind fun y7 =>
    some (y7.Text_ == a1))
    else
    (none))
    else
    (none))
    else
    (none)
theorem P_expr_variable  {N : Nat} {a1 : List UInt8} {r : Bool} (h : F_expr_variable N a1 = some r) : Pure Tryz.prog (Gl.at 0) 127 [(.str a1)] (.bool r) := by
  refine pure_run fn127 ?_
  rw [F_expr_variable] at h
  replace h := bs h
  change GG [.t 2] _ [.pc p127_6] (mk 34 [(0, (.str a1))]) []
  refine go_bind h (fun r2 hr2 h => ?_)
  refine go_if h (fun hb3 h => ?_) (fun hb3 h => ?_)
  · refine go_if h (fun hb4 h => ?_) (fun hb4 h => ?_)
    · refine go_bind h (fun y5 hy5 h => ?_)
      refine go_if h (fun hb6 h => ?_) (fun hb6 h => ?_)
      · refine go_bind h (fun y7 hy7 h => ?_)
        refine gx mo [.pc p127_3] 34 [(2, (.bool (y7.Text_ == a1)))] [] 42 [tcc 2 [] (P_token_Tokenize hr2) (fs fl_nil), twb 11 [] (.bin .eql .other true (.c (i64 r2.2.2)) (.c (i64 0))) (decide (r2.2.2 = 0)) true hb3, tw 14 (E_len [] r2.1 ApiToken.v), twb 16 [] (.pick (.c (.bool true)) (.c (.bool (decide ((r2.1.length : Int) = 1)))) (.c (.bool false))) (decide ((r2.1.length : Int) = 1)) true hb4, tw 19 (E_ia [] ApiToken.v .i64 hy5), twb 23 [] (.pick (.c (.bool true)) (.c (.bool (decide (y5.Kind_ = 1)))) (.c (.bool false))) (decide (y5.Kind_ = 1)) true hb6, tw 26 (E_ia [] ApiToken.v .i64 hy7)] ?_
        obtain rfl := Option.some.inj h
        exact gf (.bool (y7.Text_ == a1)) (.same rfl)
      · cases h
    · cases h
  · cases h
/-! corebank/expr.named -/
def p119_2 : PC := .ret
def p119_4 : PC := (.seq (.reg (oo 1 (.box (.t 0)) :: oo 2 (.mv (.c (.bool false))) :: [])) (.seq (.reg (oo 3 (.fa 0 (.t 1)) :: oo 4 (.ld1 (.t 3)) :: oo 5 (.bin .neq .other true (.t 4) (.c (.int .i64 4))) :: om 6 5 :: ⟨some 7, .op (.fa 2 (.t 1)), some (6, false)⟩ :: ⟨some 8, .op (.ld1 (.t 7)), some (6, false)⟩ :: ⟨some 9, .call 127 [.t 8], some (6, false)⟩ :: oo 10 (.pick (.t 6) (.c (.bool true)) (.t 9)) :: om 2 10 :: [])) p119_2))
theorem fn119 : FnOk Tryz.prog 119 p119_4 11 [.t 2] := ⟨false, Tryz.f119, _, Tryz.func119, by decide, rfl, by kernel_rfl, rfl, by kernel_rfl⟩
def F_expr_named  (N : Nat) (a1 : ApiExpr) : Option (Bool) :=
      bif !decide (a1.Op_ = 4) then
    (some true)
    else
    ((F_expr_variable N a1.S_).bind fun r3 =>
    some r3)
theorem P_expr_named  {N : Nat} {a1 : ApiExpr} {r : Bool} (h : F_expr_named N a1 = some r) : Pure Tryz.prog (Gl.at 0) 119 [(ApiExpr.v a1)] (.bool r) := by
  refine pure_run fn119 ?_
  rw [F_expr_named] at h
  replace h := bs h
  change GG [.t 2] _ [.pc p119_4] (mk 11 [(0, (ApiExpr.v a1))]) []
  refine go_if h (fun hb2 h => ?_) (fun hb2 h => ?_)
  · refine gx mo [.pc p119_2] 11 [(2, (.bool true))] [.row 4 [(ApiExpr.v a1)]] 17 [twb 4 [.row 4 [(ApiExpr.v a1)]] (.bin .neq .other true (.c (i64 a1.Op_)) (.c (i64 4))) (!decide (a1.Op_ = 4)) true hb2] ?_
    obtain rfl := Option.some.inj h
    exact gf (.bool true) (.same rfl)
  · refine go_bind h (fun r3 hr3 h => ?_)
    refine gx mo [.pc p119_2] 11 [(2, (.bool r3))] [.row 4 [(ApiExpr.v a1)]] 17 [twb 4 [.row 4 [(ApiExpr.v a1)]] (.bin .neq .other true (.c (i64 a1.Op_)) (.c (i64 4))) (!decide (a1.Op_ = 4)) false hb2, tc 8 [.row 4 [(ApiExpr.v a1)]] (P_expr_variable hr3) (fs fl_nil)] ?_
    obtain rfl := Option.some.inj h
    exact gf (.bool r3) (.same rfl)
def L_slices_IndexFunc_api_Expr_v425_1 (N : Nat) (a1 : List ApiExpr) : Nat → Int → Option (Unit)
  | 0, _ => none
  | m1 + 1, v1_0 =>
    bif decide (v1_0 < (a1.length : Int)) then
    (none)
    else
    (some ())
def K_slices_IndexFunc_api_Expr_v425_1 (N : Nat)  : (Unit) → Option (Int)
  | _ =>
    some (-1)
def F_slices_IndexFunc_api_Expr_v425  (N : Nat) (a1 : List ApiExpr) : Option (Int) :=
      (L_slices_IndexFunc_api_Expr_v425_1 N a1 N 0).bind (K_slices_IndexFunc_api_Expr_v425_1 N)
theorem P_slices_IndexFunc_api_Expr_v425  {N : Nat} {a1 : List ApiExpr} {r : Int} (h : F_slices_IndexFunc_api_Expr_v425 N a1 = some r) : Pure Tryz.prog (Gl.at 0) 137 [(.sl (a1.map ApiExpr.v)), (.fn (.func 125) [] [(.imm [(.fn (.func 119) [] [])] 0)])] (i64 r) := by
  refine pure_run fn137 ?_
  rw [F_slices_IndexFunc_api_Expr_v425] at h
  replace h := bs h
  change GG [.t 4] _ [.pc p137_27] (mk 19 [(0, (.sl (a1.map ApiExpr.v))), (1, (.fn (.func 125) [] [(.imm [(.fn (.func 119) [] [])] 0)]))]) []
  refine gx mo [.pc p137_20, .blk 0, .pc p137_25] 19 [(0, (.sl (a1.map ApiExpr.v))), (1, (.fn (.func 125) [] [(.imm [(.fn (.func 119) [] [])] 0)])), (7, (i64 (a1.length : Int))), (8, (i64 0))] [] 12 [tw 2 (E_len [] a1 ApiExpr.v)] ?_
  refine go_cut (X := Unit) (fun x => (K_slices_IndexFunc_api_Expr_v425_1 N x).bind some = some r) ([.pc p137_25]) (fun x => (mk 19 [])) (fun x => []) ?_ fun kont1_0 => ?_
  · rintro _ h
    rw [K_slices_IndexFunc_api_Expr_v425_1] at h
    refine gx mo [.pc p137_24] 19 [(4, (i64 (-1)))] [] 4 [] ?_
    obtain rfl := Option.some.inj h
    exact gf (i64 (-1)) (.same rfl)
  refine go_loop' (fun m t s => ∃ (v1_0 : Int), (L_slices_IndexFunc_api_Expr_v425_1 N a1 m v1_0).bind (fun q => (K_slices_IndexFunc_api_Expr_v425_1 N q).bind some) = some r ∧ t = (mk 19 [(0, (.sl (a1.map ApiExpr.v))), (1, (.fn (.func 125) [] [(.imm [(.fn (.func 119) [] [])] 0)])), (7, (i64 (a1.length : Int))), (8, (i64 v1_0))]) ∧ s = []) N ⟨0, go_assoc h, rfl, rfl⟩ ?_
  intro m1 J1 hJ1 t s
  rintro ⟨v1_0, h, rfl, rfl⟩
  cases m1 with
  | zero => exact absurd h (by simp [L_slices_IndexFunc_api_Expr_v425_1])
  | succ m1 =>
    rw [L_slices_IndexFunc_api_Expr_v425_1] at h
    refine gx mo [.pc p137_5, .pc p137_17, .jp J1, .blk 0, .pc p137_25] 19 [(0, (.sl (a1.map ApiExpr.v))), (1, (.fn (.func 125) [] [(.imm [(.fn (.func 119) [] [])] 0)])), (7, (i64 (a1.length : Int))), (8, (i64 v1_0)), (9, (.bool (decide (v1_0 < (a1.length : Int)))))] [] 5 [] ?_
    refine go_if h (fun hb3 h => ?_) (fun hb3 h => ?_)
    · cases h
    · rw [hb3]
      refine gx mo [.pc p137_25] 19 [] [] 2 [] ?_
      exact kont1_0 () h
def F_slices_ContainsFunc_api_Expr_v425  (N : Nat) (a1 : List ApiExpr) : Option (Bool) :=
      (F_slices_IndexFunc_api_Expr_v425 N a1).bind fun r2 =>
    some (decide (0 ≤ r2))
theorem P_slices_ContainsFunc_api_Expr_v425  {N : Nat} {a1 : List ApiExpr} {r : Bool} (h : F_slices_ContainsFunc_api_Expr_v425 N a1 = some r) : Pure Tryz.prog (Gl.at 0) 124 [(.sl (a1.map ApiExpr.v)), (.fn (.func 125) [] [(.imm [(.fn (.func 119) [] [])] 0)])] (.bool r) := by
  refine pure_run fn124 ?_
  rw [F_slices_ContainsFunc_api_Expr_v425] at h
  replace h := bs h
  change GG [.t 4] _ [.pc p124_4] (mk 9 [(0, (.sl (a1.map ApiExpr.v))), (1, (.fn (.func 125) [] [(.imm [(.fn (.func 119) [] [])] 0)]))]) []
  refine go_bind h (fun r2 hr2 h => ?_)
  refine gx mo [.pc p124_2] 9 [(4, (.bool (decide (0 ≤ r2))))] [] 12 [tc 3 [] (P_slices_IndexFunc_api_Expr_v425 hr2) (fs (fl_cons (f_fn fl_nil (fl_cons (.same rfl) fl_nil)) fl_nil))] ?_
  obtain rfl := Option.some.inj h
  exact gf (.bool (decide (0 ≤ r2))) (.same rfl)
def F_expr_every_vbe7  (N : Nat) (a1 : ApiExpr) : Option (Bool) :=
      (F_expr_named N a1).bind fun r2 =>
    bif r2 then
    ((F_slices_ContainsFunc_api_Expr_v425 N a1.Args_).bind fun r4 =>
    some (!r4))
    else
    (none)
theorem P_expr_every_vbe7  {N : Nat} {a1 : ApiExpr} {r : Bool} (h : F_expr_every_vbe7 N a1 = some r) : Pure Tryz.prog (Gl.at 0) 117 [(ApiExpr.v a1), (.fn (.func 119) [] [])] (.bool r) := by
  refine pure_run fn117 ?_
  rw [F_expr_every_vbe7] at h
  replace h := bs h
  change GG [.t 4] _ [.pc p117_4] (mk 15 [(0, (ApiExpr.v a1)), (1, (.fn (.func 119) [] []))]) []
  refine go_bind h (fun r2 hr2 h => ?_)
  refine go_if h (fun hb3 h => ?_) (fun hb3 h => ?_)
  · refine go_bind h (fun r4 hr4 h => ?_)
    refine gx mo [.pc p117_2] 15 [(4, (.bool (!r4)))] [.row 4 [(ApiExpr.v a1)], .row 1 [(.fn (.func 119) [] [])]] 20 [td 5 [.row 4 [(ApiExpr.v a1)], .row 1 [(.fn (.func 119) [] [])]] [] [] [(ApiExpr.v a1)] (P_expr_named hr2) (fg fl_nil), twb 6 [.row 4 [(ApiExpr.v a1)], .row 1 [(.fn (.func 119) [] [])]] (.mv (.c (.bool r2))) (r2) true hb3, tc 10 [.row 4 [(ApiExpr.v a1)], .row 1 [(.fn (.func 119) [] [])]] (P_slices_ContainsFunc_api_Expr_v425 hr4) (fl_cons (f_sleq (ApiExpr.va_map a1)) (fl_cons (f_fn fl_nil (fl_cons (f_ref (c := 1) (u := (.fn (.func 119) [] [])) rfl (f_fn fl_nil fl_nil)) fl_nil)) fl_nil))] ?_
    obtain rfl := Option.some.inj h
    exact gf (.bool (!r4)) (.same rfl)
  · cases h
/-! corebank/expr.Validate -/
def p109_22 : PC := .ret
def p109_23 : PC := (.seq (.reg (oo 2 (.mv (.c (.int .i64 0))) :: [])) p109_22)
def p109_14 : PC := (.cond (.t 16) (.seq (.reg (oo 2 (.mv (.c (.int .i64 4))) :: [])) .ret) .skip)
def p109_16 : PC := (.cond (.t 12) (.seq (.reg (oo 2 (.mv (.c (.int .i64 1))) :: [])) .ret) (.seq (.reg (oo 17 (.ldA 4 (.t 1)) :: ⟨some 18, .call 117 [.t 17, .c (.fn (.func 119) [] [])], none⟩ :: oo 19 (.un .not (.t 18)) :: om 16 19 :: [])) p109_14))
def p109_18 : PC := (.cond (.t 3) (.seq (.reg (oo 2 (.mv (.c (.int .i64 5))) :: [])) .ret) (.seq (.reg (oo 13 (.ldA 4 (.t 1)) :: ⟨some 14, .call 117 [.t 13, .c (.fn (.func 118) [] [])], none⟩ :: oo 15 (.un .not (.t 14)) :: om 12 15 :: [])) p109_16))
def p109_25 : PC := (.seq (.reg (oo 1 (.box (.t 0)) :: oo 2 (.mv (.c (.int .i64 0))) :: [])) (.seq (.block 0 (.seq (.reg (oo 4 (.ldA 4 (.t 1)) :: ⟨some 5, .call 115 [.t 4], none⟩ :: oo 6 (.bin .gtr .other true (.t 5) (.c (.int .i64 64))) :: om 7 6 :: ⟨some 8, .op (.ldA 4 (.t 1)), some (7, false)⟩ :: ⟨some 9, .call 116 [.t 8], some (7, false)⟩ :: ⟨some 10, .op (.bin .gtr .other true (.t 9) (.c (.int .i64 8))), some (7, false)⟩ :: oo 11 (.pick (.t 7) (.c (.bool true)) (.t 10)) :: om 3 11 :: [])) p109_18)) p109_23))
theorem fn109 : FnOk Tryz.prog 109 p109_25 20 [.t 2] := ⟨false, Tryz.f109, _, Tryz.func109, by decide, rfl, by kernel_rfl, rfl, by kernel_rfl⟩
def F_expr_Validate  (N : Nat) (a1 : ApiExpr) : Option (Int) :=
      (F_expr_Nodes N a1).bind fun r2 =>
    bif decide (64 < r2) then
    (none)
    else
    ((F_expr_depth N a1).bind fun r4 =>
    bif decide (8 < r4) then
    (none)
    else
    ((F_expr_every_vbc1 N a1).bind fun r6 =>
    bif !r6 then
    (none)
    else
    ((F_expr_every_vbe7 N a1).bind fun r8 =>
    bif !r8 then
    (none)
    else
    (some 0))))
theorem P_expr_Validate  {N : Nat} {a1 : ApiExpr} {r : Int} (h : F_expr_Validate N a1 = some r) : Pure Tryz.prog (Gl.at 0) 109 [(ApiExpr.v a1)] (i64 r) := by
  refine pure_run fn109 ?_
  rw [F_expr_Validate] at h
  replace h := bs h
  change GG [.t 2] _ [.pc p109_25] (mk 20 [(0, (ApiExpr.v a1))]) []
  refine go_bind h (fun r2 hr2 h => ?_)
  refine go_if h (fun hb3 h => ?_) (fun hb3 h => ?_)
  · cases h
  · refine go_bind h (fun r4 hr4 h => ?_)
    refine gx mo [.pc p109_18, .blk 0, .pc p109_23] 20 [(1, (.ref 0 0 0)), (3, (.bool (decide (8 < r4))))] [.row 4 [(ApiExpr.v a1)]] 19 [tc 3 [.row 4 [(ApiExpr.v a1)]] (P_expr_Nodes hr2) (fg fl_nil), twb 4 [.row 4 [(ApiExpr.v a1)]] (.bin .gtr .other true (.c (i64 r2)) (.c (i64 64))) (decide (64 < r2)) false hb3, tc 7 [.row 4 [(ApiExpr.v a1)]] (P_expr_depth hr4) (fg fl_nil)] ?_
    refine go_if h (fun hb5 h => ?_) (fun hb5 h => ?_)
    · cases h
    · rw [hb5]
      refine go_bind h (fun r6 hr6 h => ?_)
      refine gx mo [.pc p109_16, .blk 0, .pc p109_23] 20 [(1, (.ref 0 0 0)), (12, (.bool (!r6)))] [.row 4 [(ApiExpr.v a1)]] 8 [tc 2 [.row 4 [(ApiExpr.v a1)]] (P_expr_every_vbc1 hr6) (fg (fl_cons (f_fn fl_nil fl_nil) fl_nil))] ?_
      refine go_if h (fun hb7 h => ?_) (fun hb7 h => ?_)
      · cases h
      · rw [hb7]
        refine go_bind h (fun r8 hr8 h => ?_)
        refine gx mo [.pc p109_14, .blk 0, .pc p109_23] 20 [(16, (.bool (!r8)))] [.row 4 [(ApiExpr.v a1)]] 8 [tc 2 [.row 4 [(ApiExpr.v a1)]] (P_expr_every_vbe7 hr8) (fg (fl_cons (f_fn fl_nil fl_nil) fl_nil))] ?_
        refine go_if h (fun hb9 h => ?_) (fun hb9 h => ?_)
        · cases h
        · rw [hb9]
          refine gx mo [.pc p109_22] 20 [(2, (i64 0))] [.row 4 [(ApiExpr.v a1)]] 7 [] ?_
          obtain rfl := Option.some.inj h
          exact gf (i64 0) (.same rfl)
/-! corebank/typing.known -/
def p110_2 : PC := .ret
def p110_4 : PC := (.seq (.reg (oo 2 (.mv (.c (.bool false))) :: [])) (.seq (.reg (om 3 0 :: oo 4 (.bin .geq .other true (.t 3) (.c (.int .i64 1))) :: om 5 4 :: ⟨some 6, .op (.mv (.t 0)), some (5, true)⟩ :: ⟨some 7, .op (.bin .leq .other true (.t 6) (.c (.int .i64 5))), some (5, true)⟩ :: oo 8 (.pick (.t 5) (.t 7) (.c (.bool false))) :: om 2 8 :: [])) p110_2))
theorem fn110 : FnOk Tryz.prog 110 p110_4 9 [.t 2] := ⟨false, Tryz.f110, _, Tryz.func110, by decide, rfl, by kernel_rfl, rfl, by kernel_rfl⟩
def F_typing_known  (N : Nat) (a1 : Int) : Option (Bool) :=
      bif decide (1 ≤ a1) then
    (some (decide (a1 ≤ 5)))
    else
    (none)
theorem P_typing_known  {N : Nat} {a1 : Int} {r : Bool} (h : F_typing_known N a1 = some r) : Pure Tryz.prog (Gl.at 0) 110 [(i64 a1)] (.bool r) := by
  refine pure_run fn110 ?_
  rw [F_typing_known] at h
  replace h := bs h
  change GG [.t 2] _ [.pc p110_4] (mk 9 [(0, (i64 a1))]) []
  refine go_if h (fun hb2 h => ?_) (fun hb2 h => ?_)
  · refine gx mo [.pc p110_2] 9 [(2, (.bool (decide (a1 ≤ 5))))] [] 14 [twb 2 [] (.bin .geq .other true (.c (i64 a1)) (.c (i64 1))) (decide (1 ≤ a1)) true hb2] ?_
    obtain rfl := Option.some.inj h
    exact gf (.bool (decide (a1 ≤ 5))) (.same rfl)
  · cases h
/-! corebank/typing.Vars -/
def p101_62 : PC := .ret
def p101_63 : PC := (.seq (.reg (oo 2 (.mv (.c (.int .i64 0))) :: [])) p101_62)
def p101_54 : PC := (.reg (oo 40 (.bin .add .other true (.t 12) (.c (.int .i64 1))) :: om 12 40 :: []))
def p101_48 : PC := (.cond (.t 39) (.seq (.reg (oo 2 (.mv (.c (.int .i64 3))) :: [])) .ret) .skip)
def p101_49 : PC := (.seq (.reg (oo 36 (.fa 1 (.t 4)) :: oo 37 (.ld1 (.t 36)) :: ⟨some 38, .call 110 [.t 37], none⟩ :: oo 39 (.un .not (.t 38)) :: [])) p101_48)
def p101_36 : PC := (.reg (oo 35 (.bin .add .other true (.t 26) (.c (.int .i64 1))) :: om 26 35 :: []))
def p101_32 : PC := (.cond (.t 34) (.seq (.reg (oo 2 (.mv (.c (.int .i64 12))) :: [])) .ret) .skip)
def p101_37 : PC := (.seq (.block 3 (.seq (.reg (oo 28 (.ia 2 (.t 24) (.t 26)) :: oo 29 (.ldA 2 (.t 28)) :: oo 6 (.new (.agg [.str [], .int .i64 0])) :: on_ (.st 2 (.t 6) (.t 29)) :: [])) (.seq (.reg (oo 30 (.fa 0 (.t 6)) :: oo 31 (.ld1 (.t 30)) :: oo 32 (.fa 0 (.t 4)) :: oo 33 (.ld1 (.t 32)) :: oo 34 (.bin .eql .other false (.t 31) (.t 33)) :: [])) p101_32))) p101_36)
def p101_25 : PC := (.cond (.t 27) .skip (.exit 2))
def p101_40 : PC := (.loop (.seq (.reg (oo 27 (.bin .lss .other false (.t 26) (.t 25)) :: [])) (.seq p101_25 p101_37)))
def p101_50 : PC := (.seq (.seq (.reg (om 22 0 :: om 23 3 :: oo 24 (.slc (.slice 2) (.t 22) none (some (.t 23))) :: oo 25 (.len .slice (.t 24)) :: oo 26 (.mv (.c (.int .i64 0))) :: [])) (.block 2 p101_40)) p101_49)
def p101_19 : PC := (.cond (.t 21) (.seq (.reg (oo 2 (.mv (.c (.int .i64 4))) :: [])) .ret) .skip)
def p101_55 : PC := (.seq (.block 1 (.seq (.reg (om 14 12 :: oo 15 (.ia 2 (.t 10) (.t 12)) :: oo 16 (.ldA 2 (.t 15)) :: oo 4 (.new (.agg [.str [], .int .i64 0])) :: om 3 14 :: on_ (.st 2 (.t 4) (.t 16)) :: [])) (.seq (.seq (.reg (oo 17 (.fa 0 (.t 4)) :: oo 18 (.ld1 (.t 17)) :: oo 19 (.build [.int .i64 0, .int .i64 0, .str [], .nils] [(0, 1, .c (.int .i64 4)), (2, 1, .t 18)]) :: ⟨some 20, .call 109 [.t 19], none⟩ :: oo 21 (.bin .neq .other true (.t 20) (.c (.int .i64 0))) :: [])) p101_19) p101_50))) p101_54)
def p101_12 : PC := (.cond (.t 13) .skip (.exit 0))
def p101_58 : PC := (.loop (.seq (.reg (oo 13 (.bin .lss .other false (.t 12) (.t 11)) :: [])) (.seq p101_12 p101_55)))
def p101_64 : PC := (.seq (.seq (.reg (om 10 0 :: oo 11 (.len .slice (.t 10)) :: oo 12 (.mv (.c (.int .i64 0))) :: [])) (.block 0 p101_58)) p101_63)
def p101_6 : PC := (.cond (.t 9) (.seq (.reg (oo 2 (.mv (.c (.int .i64 5))) :: [])) .ret) .skip)
def p101_66 : PC := (.seq (.reg (oo 2 (.mv (.c (.int .i64 0))) :: [])) (.seq (.seq (.reg (om 7 0 :: oo 8 (.len .slice (.t 7)) :: oo 9 (.bin .gtr .other true (.t 8) (.c (.int .i64 64))) :: [])) p101_6) p101_64))
theorem fn101 : FnOk Tryz.prog 101 p101_66 41 [.t 2] := ⟨false, Tryz.f101, _, Tryz.func101, by decide, rfl, by kernel_rfl, rfl, by kernel_rfl⟩
def L_typing_Vars_2 (N : Nat) (y17 : ApiVar) (l20 : List ApiVar) : Nat → Int → Option (Unit)
  | 0, _ => none
  | m2 + 1, v2_0 =>
    bif decide (v2_0 < (l20.length : Int)) then
    ((getI l20 v2_0).bind fun y27 =>
    bif y27.Name_ == y17.Name_ then
    (none)
    else
    ((L_typing_Vars_2 N y17 l20 m2) (IntKind.wrap .i64 (v2_0 + 1))))
    else
    (some ())
def K_typing_Vars_2 (N : Nat) (v1_0 : Int) (rl1 : Int → Option (Unit)) (y17 : ApiVar) : (Unit) → Option (Unit)
  | _ =>
    (F_typing_known N y17.Type_).bind fun r24 =>
    bif !r24 then
    (none)
    else
    (rl1 (IntKind.wrap .i64 (v1_0 + 1)))
def L_typing_Vars_1 (N : Nat) (a1 : List ApiVar) : Nat → Int → Option (Unit)
  | 0, _ => none
  | m1 + 1, v1_0 =>
    bif decide (v1_0 < (a1.length : Int)) then
    ((getI a1 v1_0).bind fun y17 =>
    (F_expr_Validate N (⟨4, 0, y17.Name_, []⟩ : ApiExpr)).bind fun r18 =>
    bif !decide (r18 = 0) then
    (none)
    else
    ((slcI a1 0 v1_0).bind fun l20 =>
    (L_typing_Vars_2 N y17 l20 N 0).bind (K_typing_Vars_2 N v1_0 (L_typing_Vars_1 N a1 m1) y17)))
    else
    (some ())
def K_typing_Vars_1 (N : Nat)  : (Unit) → Option (Int)
  | _ =>
    some 0
def F_typing_Vars  (N : Nat) (a1 : List ApiVar) : Option (Int) :=
      bif decide (64 < (a1.length : Int)) then
    (none)
    else
    ((L_typing_Vars_1 N a1 N 0).bind (K_typing_Vars_1 N))
theorem P_typing_Vars  {N : Nat} {a1 : List ApiVar} {r : Int} (h : F_typing_Vars N a1 = some r) : Pure Tryz.prog (Gl.at 0) 101 [(.sl (a1.map ApiVar.v))] (i64 r) := by
  refine pure_run fn101 ?_
  rw [F_typing_Vars] at h
  replace h := bs h
  change GG [.t 2] _ [.pc p101_66] (mk 41 [(0, (.sl (a1.map ApiVar.v)))]) []
  refine gx mo [.pc p101_6, .pc p101_64] 41 [(0, (.sl (a1.map ApiVar.v))), (9, (.bool (decide (64 < (a1.length : Int)))))] [] 11 [tw 2 (E_len [] a1 ApiVar.v)] ?_
  refine go_if h (fun hb2 h => ?_) (fun hb2 h => ?_)
  · cases h
  · rw [hb2]
    refine gx mo [.pc p101_58, .blk 0, .pc p101_63] 41 [(0, (.sl (a1.map ApiVar.v))), (10, (.sl (a1.map ApiVar.v))), (11, (i64 (a1.length : Int))), (12, (i64 0))] [] 10 [tw 2 (E_len [] a1 ApiVar.v)] ?_
    refine go_cut (X := Unit) (fun x => (K_typing_Vars_1 N x).bind some = some r) ([.pc p101_63]) (fun x => (mk 41 [])) (fun x => []) ?_ fun kont1_0 => ?_
    · rintro _ h
      rw [K_typing_Vars_1] at h
      refine gx mo [.pc p101_62] 41 [(2, (i64 0))] [] 4 [] ?_
      obtain rfl := Option.some.inj h
      exact gf (i64 0) (.same rfl)
    refine go_loop' (fun m t s => ∃ (v1_0 : Int), (L_typing_Vars_1 N a1 m v1_0).bind (fun q => (K_typing_Vars_1 N q).bind some) = some r ∧ t = (mk 41 [(0, (.sl (a1.map ApiVar.v))), (10, (.sl (a1.map ApiVar.v))), (11, (i64 (a1.length : Int))), (12, (i64 v1_0))]) ∧ s = []) N ⟨0, go_assoc h, rfl, rfl⟩ ?_
    intro m1 J1 hJ1 t s
    rintro ⟨v1_0, h, rfl, rfl⟩
    cases m1 with
    | zero => exact absurd h (by simp [L_typing_Vars_1])
    | succ m1 =>
      rw [L_typing_Vars_1] at h
      refine gx mo [.pc p101_12, .pc p101_55, .jp J1, .blk 0, .pc p101_63] 41 [(0, (.sl (a1.map ApiVar.v))), (10, (.sl (a1.map ApiVar.v))), (11, (i64 (a1.length : Int))), (12, (i64 v1_0)), (13, (.bool (decide (v1_0 < (a1.length : Int)))))] [] 5 [] ?_
      refine go_if h (fun hb16 h => ?_) (fun hb16 h => ?_)
      · rw [hb16]
        refine go_bind h (fun y17 hy17 h => ?_)
        refine go_bind h (fun r18 hr18 h => ?_)
        refine gx mo [.pc p101_19, .pc p101_50, .blk 1, .pc p101_54, .jp J1, .blk 0, .pc p101_63] 41 [(0, (.sl (a1.map ApiVar.v))), (3, (i64 v1_0)), (4, (.ref 0 0 0)), (10, (.sl (a1.map ApiVar.v))), (11, (i64 (a1.length : Int))), (12, (i64 v1_0)), (21, (.bool (!decide (r18 = 0))))] [.row 2 [(ApiVar.v y17)]] 22 [tw 2 (E_ia [] ApiVar.v .i64 hy17), tc 10 [.row 2 [(ApiVar.v y17)]] (P_expr_Validate hr18) (fl_cons (f_aggl (fs (fs (fs (fl_cons .nil0 fl_nil))))) fl_nil)] ?_
        refine go_if h (fun hb19 h => ?_) (fun hb19 h => ?_)
        · cases h
        · rw [hb19]
          refine go_bind h (fun l20 hl20 h => ?_)
          refine gx mo [.pc p101_40, .blk 2, .pc p101_49, .blk 1, .pc p101_54, .jp J1, .blk 0, .pc p101_63] 41 [(0, (.sl (a1.map ApiVar.v))), (4, (.ref 0 0 0)), (10, (.sl (a1.map ApiVar.v))), (11, (i64 (a1.length : Int))), (12, (i64 v1_0)), (24, (.sl (l20.map ApiVar.v))), (25, (i64 (l20.length : Int))), (26, (i64 0))] [.row 2 [(ApiVar.v y17)]] 12 [tw 3 (s := [.row 2 [(ApiVar.v y17)]]) (s' := [.row 2 [(ApiVar.v y17)]]) (q := (.slc (.slice 2) (.c (.sl (a1.map ApiVar.v))) none (some (.c (i64 v1_0))))) (v := (.sl (l20.map ApiVar.v))) (e_slc rfl (fun _ => rfl) rfl rfl hl20), tw 4 (E_len [.row 2 [(ApiVar.v y17)]] l20 ApiVar.v)] ?_
          refine go_cut (X := Unit) (fun x => (K_typing_Vars_2 N v1_0 (L_typing_Vars_1 N a1 m1) y17 x).bind (fun q => (K_typing_Vars_1 N q).bind some) = some r) ([.pc p101_49, .blk 1, .pc p101_54, .jp J1, .blk 0, .pc p101_63]) (fun x => (mk 41 [(0, (.sl (a1.map ApiVar.v))), (4, (.ref 0 0 0)), (10, (.sl (a1.map ApiVar.v))), (11, (i64 (a1.length : Int))), (12, (i64 v1_0))])) (fun x => [.row 2 [(ApiVar.v y17)]]) ?_ fun kont2_0 => ?_
          · rintro _ h
            rw [K_typing_Vars_2] at h
            refine go_bind h (fun r24 hr24 h => ?_)
            refine gx mo [.pc p101_48, .blk 1, .pc p101_54, .jp J1, .blk 0, .pc p101_63] 41 [(0, (.sl (a1.map ApiVar.v))), (10, (.sl (a1.map ApiVar.v))), (11, (i64 (a1.length : Int))), (12, (i64 v1_0)), (39, (.bool (!r24)))] [.row 2 [(ApiVar.v y17)]] 7 [tc 2 [.row 2 [(ApiVar.v y17)]] (P_typing_known hr24) (fs fl_nil)] ?_
            refine go_if h (fun hb25 h => ?_) (fun hb25 h => ?_)
            · cases h
            · rw [hb25]
              refine gx mo [.jp J1, .blk 0, .pc p101_63] 41 [(0, (.sl (a1.map ApiVar.v))), (10, (.sl (a1.map ApiVar.v))), (11, (i64 (a1.length : Int))), (12, (i64 (IntKind.wrap .i64 (v1_0 + 1))))] [.row 2 [(ApiVar.v y17)]] 7 [] ?_
              refine go_pick [] [] [(0, 0), (10, 0), (11, 0), (12, 0)] (t' := (mk 41 [(0, (.sl (a1.map ApiVar.v))), (10, (.sl (a1.map ApiVar.v))), (11, (i64 (a1.length : Int))), (12, (i64 (IntKind.wrap .i64 (v1_0 + 1))))])) (s' := []) (by kernel_rfl) trivial rfl ?_
              exact go_back rfl (hJ1 m1 _ _ (Nat.lt_succ_self m1) ⟨IntKind.wrap .i64 (v1_0 + 1), h, rfl, rfl⟩)
          refine go_loop' (fun m t s => ∃ (v2_0 : Int), (L_typing_Vars_2 N y17 l20 m v2_0).bind (fun q => (K_typing_Vars_2 N v1_0 (L_typing_Vars_1 N a1 m1) y17 q).bind (fun q => (K_typing_Vars_1 N q).bind some)) = some r ∧ t = (mk 41 [(0, (.sl (a1.map ApiVar.v))), (4, (.ref 0 0 0)), (10, (.sl (a1.map ApiVar.v))), (11, (i64 (a1.length : Int))), (12, (i64 v1_0)), (24, (.sl (l20.map ApiVar.v))), (25, (i64 (l20.length : Int))), (26, (i64 v2_0))]) ∧ s = [.row 2 [(ApiVar.v y17)]]) N ⟨0, go_assoc h, rfl, rfl⟩ ?_
          intro m2 J2 hJ2 t s
          rintro ⟨v2_0, h, rfl, rfl⟩
          cases m2 with
          | zero => exact absurd h (by simp [L_typing_Vars_2])
          | succ m2 =>
            rw [L_typing_Vars_2] at h
            refine gx mo [.pc p101_25, .pc p101_37, .jp J2, .blk 2, .pc p101_49, .blk 1, .pc p101_54, .jp J1, .blk 0, .pc p101_63] 41 [(0, (.sl (a1.map ApiVar.v))), (4, (.ref 0 0 0)), (10, (.sl (a1.map ApiVar.v))), (11, (i64 (a1.length : Int))), (12, (i64 v1_0)), (24, (.sl (l20.map ApiVar.v))), (25, (i64 (l20.length : Int))), (26, (i64 v2_0)), (27, (.bool (decide (v2_0 < (l20.length : Int)))))] [.row 2 [(ApiVar.v y17)]] 5 [] ?_
            refine go_if h (fun hb26 h => ?_) (fun hb26 h => ?_)
            · rw [hb26]
              refine go_bind h (fun y27 hy27 h => ?_)
              refine gx mo [.pc p101_32, .blk 3, .pc p101_36, .jp J2, .blk 2, .pc p101_49, .blk 1, .pc p101_54, .jp J1, .blk 0, .pc p101_63] 41 [(0, (.sl (a1.map ApiVar.v))), (4, (.ref 0 0 0)), (10, (.sl (a1.map ApiVar.v))), (11, (i64 (a1.length : Int))), (12, (i64 v1_0)), (24, (.sl (l20.map ApiVar.v))), (25, (i64 (l20.length : Int))), (26, (i64 v2_0)), (34, (.bool (y27.Name_ == y17.Name_)))] [.row 2 [(ApiVar.v y17)], .row 2 [(ApiVar.v y27)]] 19 [tw 1 (E_ia [.row 2 [(ApiVar.v y17)]] ApiVar.v .i64 hy27)] ?_
              refine go_if h (fun hb28 h => ?_) (fun hb28 h => ?_)
              · cases h
              · rw [hb28]
                refine gx mo [.jp J2, .blk 2, .pc p101_49, .blk 1, .pc p101_54, .jp J1, .blk 0, .pc p101_63] 41 [(0, (.sl (a1.map ApiVar.v))), (4, (.ref 0 0 0)), (10, (.sl (a1.map ApiVar.v))), (11, (i64 (a1.length : Int))), (12, (i64 v1_0)), (24, (.sl (l20.map ApiVar.v))), (25, (i64 (l20.length : Int))), (26, (i64 (IntKind.wrap .i64 (v2_0 + 1))))] [.row 2 [(ApiVar.v y17)], .row 2 [(ApiVar.v y27)]] 7 [] ?_
                refine go_pick [0] [] [(0, 0), (4, 0), (10, 0), (11, 0), (12, 0), (24, 0), (25, 0), (26, 0)] (t' := (mk 41 [(0, (.sl (a1.map ApiVar.v))), (4, (.ref 0 0 0)), (10, (.sl (a1.map ApiVar.v))), (11, (i64 (a1.length : Int))), (12, (i64 v1_0)), (24, (.sl (l20.map ApiVar.v))), (25, (i64 (l20.length : Int))), (26, (i64 (IntKind.wrap .i64 (v2_0 + 1))))])) (s' := [.row 2 [(ApiVar.v y17)]]) (by kernel_rfl) ⟨clo_one rfl, trivial⟩ rfl ?_
                exact go_back rfl (hJ2 m2 _ _ (Nat.lt_succ_self m2) ⟨IntKind.wrap .i64 (v2_0 + 1), h, rfl, rfl⟩)
            · rw [hb26]
              refine gx mo [.pc p101_49, .blk 1, .pc p101_54, .jp J1, .blk 0, .pc p101_63] 41 [(0, (.sl (a1.map ApiVar.v))), (4, (.ref 0 0 0)), (10, (.sl (a1.map ApiVar.v))), (11, (i64 (a1.length : Int))), (12, (i64 v1_0))] [.row 2 [(ApiVar.v y17)]] 2 [] ?_
              exact kont2_0 () h
      · rw [hb16]
        refine gx mo [.pc p101_63] 41 [] [] 2 [] ?_
        exact kont1_0 () h
/-! corebank/typing.of -/
def p111_70 : PC := (.seq (.reg (oo 6 (.mv (.c .nils)) :: [])) (.seq (.seq (.reg (oo 29 (.fa 3 (.t 2)) :: oo 30 (.ld1 (.t 29)) :: oo 31 (.len .slice (.t 30)) :: oo 32 (.mv (.c (.int .i64 0))) :: [])) (.block 1 (.loop (.seq (.reg (oo 33 (.bin .lss .other false (.t 32) (.t 31)) :: [])) (.seq (.cond (.t 33) .skip (.exit 1)) (.seq (.block 2 (.seq (.reg (oo 34 (.ia 4 (.t 30) (.t 32)) :: oo 35 (.ldA 4 (.t 34)) :: oo 8 (.new (.agg [.int .i64 0, .int .i64 0, .str [], .nils])) :: on_ (.st 4 (.t 8) (.t 35)) :: [])) (.seq (.reg (oo 37 (.ldA 4 (.t 8)) :: om 38 1 :: ⟨some 39, .call 111 [.t 37, .t 38], none⟩ :: om 36 39 :: oo 40 (.ext 0 (.t 36)) :: oo 41 (.ext 1 (.t 36)) :: om 9 40 :: om 10 41 :: [])) (.seq (.seq (.reg (om 42 10 :: oo 43 (.bin .neq .other true (.t 42) (.c (.int .i64 0))) :: [])) (.cond (.t 43) (.seq (.reg (om 44 10 :: oo 4 (.mv (.c (.int .i64 0))) :: om 5 44 :: [])) .ret) .skip)) (.reg (om 45 6 :: om 46 9 :: oo 47 (.lit (.int .i64 0) 1 [(0, .t 46)]) :: oo 48 (.app 1 8 (.t 45) (.t 47)) :: om 6 48 :: [])))))) (.reg (oo 49 (.bin .add .other true (.t 32) (.c (.int .i64 1))) :: om 32 49 :: [])))))))) (.seq (.reg (oo 51 (.fa 0 (.t 2)) :: oo 52 (.ld1 (.t 51)) :: om 53 6 :: ⟨some 54, .call 121 [.t 52, .t 53], none⟩ :: om 50 54 :: oo 55 (.ext 0 (.t 50)) :: oo 56 (.ext 1 (.t 50)) :: om 11 55 :: om 12 56 :: [])) (.seq (.seq (.reg (om 57 12 :: oo 58 (.un .not (.t 57)) :: [])) (.cond (.t 58) (.seq (.reg (oo 4 (.mv (.c (.int .i64 0))) :: oo 5 (.mv (.c (.int .i64 3))) :: [])) .ret) .skip)) (.seq (.reg (om 59 11 :: om 4 59 :: oo 5 (.mv (.c (.int .i64 0))) :: [])) .ret)))))
def p111_8 : PC := .ret
def p111_23 : PC := (.cond (.t 17) (.seq (.reg (oo 4 (.mv (.c (.int .i64 2))) :: oo 5 (.mv (.c (.int .i64 0))) :: [])) p111_8) (.seq (.reg (oo 20 (.bin .eql .other true (.t 14) (.c (.int .i64 3))) :: om 19 20 :: [])) (.cond (.t 19) (.seq (.reg (oo 4 (.mv (.c (.int .i64 3))) :: oo 5 (.mv (.c (.int .i64 0))) :: [])) .ret) (.seq (.reg (oo 22 (.bin .eql .other true (.t 14) (.c (.int .i64 4))) :: om 21 22 :: [])) (.cond (.t 21) (.seq (.reg (oo 23 (.fa 2 (.t 2)) :: oo 24 (.ld1 (.t 23)) :: om 25 1 :: ⟨some 26, .call 120 [.t 24, .t 25], none⟩ :: oo 27 (.ext 0 (.t 26)) :: oo 28 (.ext 1 (.t 26)) :: om 4 27 :: om 5 28 :: [])) .ret) .skip)))))
def p111_25 : PC := (.cond (.t 15) (.seq (.reg (oo 4 (.mv (.c (.int .i64 1))) :: oo 5 (.mv (.c (.int .i64 0))) :: [])) .ret) (.seq (.reg (oo 18 (.bin .eql .other true (.t 14) (.c (.int .i64 2))) :: om 17 18 :: [])) p111_23))
def p111_72 : PC := (.seq (.reg (oo 2 (.box (.t 0)) :: oo 4 (.mv (.c (.int .i64 0))) :: oo 5 (.mv (.c (.int .i64 0))) :: [])) (.seq (.seq (.reg (oo 13 (.fa 0 (.t 2)) :: oo 14 (.ld1 (.t 13)) :: [])) (.block 0 (.seq (.reg (oo 16 (.bin .eql .other true (.t 14) (.c (.int .i64 1))) :: om 15 16 :: [])) p111_25))) p111_70))
theorem fn111 : FnOk Tryz.prog 111 p111_72 60 [.t 4, .t 5] := ⟨false, Tryz.f111, _, Tryz.func111, by decide, rfl, by kernel_rfl, rfl, by kernel_rfl⟩
def F_typing_of  (N : Nat) (a1 : ApiExpr) (a2 : List ApiVar) : Option (Int × Int) :=
      bif decide (a1.Op_ = 1) then
    (none)
    else
    (bif decide (a1.Op_ = 2) then
    (some (2, 0))
    else
    (none))
theorem P_typing_of  {N : Nat} {a1 : ApiExpr} {a2 : List ApiVar} {r : Int × Int} (h : F_typing_of N a1 a2 = some r) : Pure Tryz.prog (Gl.at 0) 111 [(ApiExpr.v a1), (.sl (a2.map ApiVar.v))] (.tup [(i64 r.1), (i64 r.2)]) := by
  refine pure_run fn111 ?_
  rw [F_typing_of] at h
  replace h := bs h
  change GG [.t 4, .t 5] _ [.pc p111_72] (mk 60 [(0, (ApiExpr.v a1)), (1, (.sl (a2.map ApiVar.v)))]) []
  refine gx mo [.pc p111_25, .blk 0, .pc p111_70] 60 [(1, (.sl (a2.map ApiVar.v))), (2, (.ref 0 0 0)), (14, (i64 a1.Op_)), (15, (.bool (decide (a1.Op_ = 1))))] [.row 4 [(ApiExpr.v a1)]] 18 [] ?_
  refine go_if h (fun hb3 h => ?_) (fun hb3 h => ?_)
  · cases h
  · rw [hb3]
    refine gx mo [.pc p111_23, .blk 0, .pc p111_70] 60 [(1, (.sl (a2.map ApiVar.v))), (2, (.ref 0 0 0)), (14, (i64 a1.Op_)), (17, (.bool (decide (a1.Op_ = 2))))] [.row 4 [(ApiExpr.v a1)]] 6 [] ?_
    refine go_if h (fun hb4 h => ?_) (fun hb4 h => ?_)
    · rw [hb4]
      refine gx mo [.pc p111_8, .blk 0, .pc p111_70] 60 [(4, (i64 2)), (5, (i64 0))] [.row 4 [(ApiExpr.v a1)]] 6 [] ?_
      obtain rfl := Option.some.inj h
      exact gf (.tup [(i64 2), (i64 0)]) (f_tupl (fs (fs fl_nil)))
    · cases h
/-! corebank/typing.Of -/
def p102_11 : PC := .ret
def p102_12 : PC := (.seq (.reg (oo 12 (.ldA 4 (.t 2)) :: om 13 1 :: ⟨some 14, .call 111 [.t 12, .t 13], none⟩ :: oo 15 (.ext 0 (.t 14)) :: oo 16 (.ext 1 (.t 14)) :: om 4 15 :: om 5 16 :: [])) p102_11)
def p102_7 : PC := (.cond (.t 10) (.seq (.reg (om 11 6 :: oo 4 (.mv (.c (.int .i64 0))) :: om 5 11 :: [])) .ret) .skip)
def p102_14 : PC := (.seq (.reg (oo 2 (.box (.t 0)) :: oo 4 (.mv (.c (.int .i64 0))) :: oo 5 (.mv (.c (.int .i64 0))) :: [])) (.seq (.seq (.reg (oo 7 (.ldA 4 (.t 2)) :: ⟨some 8, .call 109 [.t 7], none⟩ :: om 6 8 :: [])) (.seq (.reg (om 9 6 :: oo 10 (.bin .neq .other true (.t 9) (.c (.int .i64 0))) :: [])) p102_7)) p102_12))
theorem fn102 : FnOk Tryz.prog 102 p102_14 17 [.t 4, .t 5] := ⟨false, Tryz.f102, _, Tryz.func102, by decide, rfl, by kernel_rfl, rfl, by kernel_rfl⟩
def F_typing_Of  (N : Nat) (a1 : ApiExpr) (a2 : List ApiVar) : Option (Int × Int) :=
      (F_expr_Validate N a1).bind fun r3 =>
    bif !decide (r3 = 0) then
    (none)
    else
    ((F_typing_of N a1 a2).bind fun r5 =>
    some (r5.1, r5.2))
theorem P_typing_Of  {N : Nat} {a1 : ApiExpr} {a2 : List ApiVar} {r : Int × Int} (h : F_typing_Of N a1 a2 = some r) : Pure Tryz.prog (Gl.at 0) 102 [(ApiExpr.v a1), (.sl (a2.map ApiVar.v))] (.tup [(i64 r.1), (i64 r.2)]) := by
  refine pure_run fn102 ?_
  rw [F_typing_Of] at h
  replace h := bs h
  change GG [.t 4, .t 5] _ [.pc p102_14] (mk 17 [(0, (ApiExpr.v a1)), (1, (.sl (a2.map ApiVar.v)))]) []
  refine go_bind h (fun r3 hr3 h => ?_)
  refine gx mo [.pc p102_7, .pc p102_12] 17 [(1, (.sl (a2.map ApiVar.v))), (2, (.ref 0 0 0)), (6, (i64 r3)), (10, (.bool (!decide (r3 = 0))))] [.row 4 [(ApiExpr.v a1)]] 18 [tc 4 [.row 4 [(ApiExpr.v a1)]] (P_expr_Validate hr3) (fg fl_nil)] ?_
  refine go_if h (fun hb4 h => ?_) (fun hb4 h => ?_)
  · cases h
  · rw [hb4]
    refine go_bind h (fun r5 hr5 h => ?_)
    refine gx mo [.pc p102_11] 17 [(4, (i64 r5.1)), (5, (i64 r5.2))] [.row 4 [(ApiExpr.v a1)]] 12 [tc 3 [.row 4 [(ApiExpr.v a1)]] (P_typing_of hr5) (fg (fs fl_nil))] ?_
    obtain rfl := Option.some.inj h
    exact gf (.tup [(i64 r5.1), (i64 r5.2)]) (f_tupl (fs (fs fl_nil)))
/-! corebank/eval.valid -/
def p112_37 : PC := (.seq (.reg (oo 2 (.mv (.c (.bool false))) :: [])) .ret)
def p112_16 : PC := .ret
def p112_25 : PC := (.cond (.t 27) (.seq (.reg (oo 29 (.fa 1 (.t 1)) :: oo 30 (.ld1 (.t 29)) :: oo 31 (.bin .geq .other true (.t 30) (.c (.int .i64 0))) :: om 32 31 :: ⟨some 33, .op (.fa 1 (.t 1)), some (32, true)⟩ :: ⟨some 34, .op (.ld1 (.t 33)), some (32, true)⟩ :: ⟨some 35, .op (.bin .leq .other true (.t 34) (.c (.int .i64 73048))), some (32, true)⟩ :: oo 36 (.pick (.t 32) (.t 35) (.c (.bool false))) :: om 2 36 :: [])) p112_16) (.seq (.reg (oo 38 (.bin .eql .other true (.t 4) (.c (.int .i64 5))) :: om 37 38 :: [])) (.cond (.t 37) (.seq (.reg (oo 39 (.fa 1 (.t 1)) :: oo 40 (.ld1 (.t 39)) :: oo 41 (.bin .eql .other true (.t 40) (.c (.int .i64 0))) :: om 42 41 :: ⟨some 43, .op (.fa 1 (.t 1)), some (42, false)⟩ :: ⟨some 44, .op (.ld1 (.t 43)), some (42, false)⟩ :: ⟨some 45, .op (.bin .eql .other true (.t 44) (.c (.int .i64 1))), some (42, false)⟩ :: oo 46 (.pick (.t 42) (.c (.bool true)) (.t 45)) :: om 2 46 :: [])) .ret) .skip)))
def p112_27 : PC := (.cond (.t 17) (.seq (.reg (oo 19 (.fa 1 (.t 1)) :: oo 20 (.ld1 (.t 19)) :: oo 21 (.bin .geq .other true (.t 20) (.c (.int .i64 (-1000000000)))) :: om 22 21 :: ⟨some 23, .op (.fa 1 (.t 1)), some (22, true)⟩ :: ⟨some 24, .op (.ld1 (.t 23)), some (22, true)⟩ :: ⟨some 25, .op (.bin .leq .other true (.t 24) (.c (.int .i64 1000000000))), some (22, true)⟩ :: oo 26 (.pick (.t 22) (.t 25) (.c (.bool false))) :: om 2 26 :: [])) .ret) (.seq (.reg (oo 28 (.bin .eql .other true (.t 4) (.c (.int .i64 4))) :: om 27 28 :: [])) p112_25))
def p112_8 : PC := .ret
def p112_29 : PC := (.cond (.t 7) (.seq (.reg (oo 9 (.fa 1 (.t 1)) :: oo 10 (.ld1 (.t 9)) :: oo 11 (.bin .geq .other true (.t 10) (.c (.int .i64 (-1000000000000)))) :: om 12 11 :: ⟨some 13, .op (.fa 1 (.t 1)), some (12, true)⟩ :: ⟨some 14, .op (.ld1 (.t 13)), some (12, true)⟩ :: ⟨some 15, .op (.bin .leq .other true (.t 14) (.c (.int .i64 1000000000000))), some (12, true)⟩ :: oo 16 (.pick (.t 12) (.t 15) (.c (.bool false))) :: om 2 16 :: [])) p112_8) (.seq (.reg (oo 18 (.bin .eql .other true (.t 4) (.c (.int .i64 3))) :: om 17 18 :: [])) p112_27))
def p112_4 : PC := .ret
def p112_31 : PC := (.cond (.t 5) (.seq (.reg (oo 2 (.mv (.c (.bool true))) :: [])) p112_4) (.seq (.reg (oo 8 (.bin .eql .other true (.t 4) (.c (.int .i64 2))) :: om 7 8 :: [])) p112_29))
def p112_39 : PC := (.seq (.reg (oo 1 (.box (.t 0)) :: oo 2 (.mv (.c (.bool false))) :: [])) (.seq (.seq (.reg (oo 3 (.fa 0 (.t 1)) :: oo 4 (.ld1 (.t 3)) :: [])) (.block 0 (.seq (.reg (oo 6 (.bin .eql .other true (.t 4) (.c (.int .i64 1))) :: om 5 6 :: [])) p112_31))) p112_37))
theorem fn112 : FnOk Tryz.prog 112 p112_39 47 [.t 2] := ⟨false, Tryz.f112, _, Tryz.func112, by decide, rfl, by kernel_rfl, rfl, by kernel_rfl⟩
def F_eval_valid  (N : Nat) (a1 : ApiValue) : Option (Bool) :=
      bif decide (a1.Type_ = 1) then
    (some true)
    else
    (bif decide (a1.Type_ = 2) then
    (bif decide ((-1000000000000) ≤ a1.N_) then
    (some (decide (a1.N_ ≤ 1000000000000)))
    else
    (none))
    else
    (bif decide (a1.Type_ = 3) then
    (none)
    else
    (bif decide (a1.Type_ = 4) then
    (bif decide (0 ≤ a1.N_) then
    (some (decide (a1.N_ ≤ 73048)))
    else
    (none))
    else
    (none))))
theorem P_eval_valid  {N : Nat} {a1 : ApiValue} {r : Bool} (h : F_eval_valid N a1 = some r) : Pure Tryz.prog (Gl.at 0) 112 [(ApiValue.v a1)] (.bool r) := by
  refine pure_run fn112 ?_
  rw [F_eval_valid] at h
  replace h := bs h
  change GG [.t 2] _ [.pc p112_39] (mk 47 [(0, (ApiValue.v a1))]) []
  refine gx mo [.pc p112_31, .blk 0, .pc p112_37] 47 [(1, (.ref 0 0 0)), (4, (i64 a1.Type_)), (5, (.bool (decide (a1.Type_ = 1))))] [.row 2 [(ApiValue.v a1)]] 17 [] ?_
  refine go_if h (fun hb2 h => ?_) (fun hb2 h => ?_)
  · rw [hb2]
    refine gx mo [.pc p112_4, .blk 0, .pc p112_37] 47 [(2, (.bool true))] [.row 2 [(ApiValue.v a1)]] 5 [] ?_
    obtain rfl := Option.some.inj h
    exact gf (.bool true) (.same rfl)
  · rw [hb2]
    refine gx mo [.pc p112_29, .blk 0, .pc p112_37] 47 [(1, (.ref 0 0 0)), (4, (i64 a1.Type_)), (7, (.bool (decide (a1.Type_ = 2))))] [.row 2 [(ApiValue.v a1)]] 6 [] ?_
    refine go_if h (fun hb3 h => ?_) (fun hb3 h => ?_)
    · rw [hb3]
      refine go_if h (fun hb4 h => ?_) (fun hb4 h => ?_)
      · refine gx mo [.pc p112_8, .blk 0, .pc p112_37] 47 [(2, (.bool (decide (a1.N_ ≤ 1000000000000))))] [.row 2 [(ApiValue.v a1)]] 13 [twb 3 [.row 2 [(ApiValue.v a1)]] (.bin .geq .other true (.c (i64 a1.N_)) (.c (i64 (-1000000000000)))) (decide ((-1000000000000) ≤ a1.N_)) true hb4] ?_
        obtain rfl := Option.some.inj h
        exact gf (.bool (decide (a1.N_ ≤ 1000000000000))) (.same rfl)
      · cases h
    · rw [hb3]
      refine gx mo [.pc p112_27, .blk 0, .pc p112_37] 47 [(1, (.ref 0 0 0)), (4, (i64 a1.Type_)), (17, (.bool (decide (a1.Type_ = 3))))] [.row 2 [(ApiValue.v a1)]] 6 [] ?_
      refine go_if h (fun hb5 h => ?_) (fun hb5 h => ?_)
      · cases h
      · rw [hb5]
        refine gx mo [.pc p112_25, .blk 0, .pc p112_37] 47 [(1, (.ref 0 0 0)), (4, (i64 a1.Type_)), (27, (.bool (decide (a1.Type_ = 4))))] [.row 2 [(ApiValue.v a1)]] 6 [] ?_
        refine go_if h (fun hb6 h => ?_) (fun hb6 h => ?_)
        · rw [hb6]
          refine go_if h (fun hb7 h => ?_) (fun hb7 h => ?_)
          · refine gx mo [.pc p112_16, .blk 0, .pc p112_37] 47 [(2, (.bool (decide (a1.N_ ≤ 73048))))] [.row 2 [(ApiValue.v a1)]] 13 [twb 3 [.row 2 [(ApiValue.v a1)]] (.bin .geq .other true (.c (i64 a1.N_)) (.c (i64 0))) (decide (0 ≤ a1.N_)) true hb7] ?_
            obtain rfl := Option.some.inj h
            exact gf (.bool (decide (a1.N_ ≤ 73048))) (.same rfl)
          · cases h
        · cases h
/-! corebank/eval.Valid -/
def p103_31 : PC := .ret
def p103_32 : PC := (.seq (.reg (oo 4 (.mv (.c (.bool true))) :: [])) p103_31)
def p103_23 : PC := (.reg (oo 32 (.bin .add .other true (.t 14) (.c (.int .i64 1))) :: om 14 32 :: []))
def p103_19 : PC := (.cond (.t 31) (.seq (.reg (oo 4 (.mv (.c (.bool false))) :: [])) .ret) .skip)
def p103_24 : PC := (.seq (.block 1 (.seq (.reg (om 16 14 :: oo 17 (.ia 2 (.t 12) (.t 14)) :: oo 18 (.ldA 2 (.t 17)) :: oo 6 (.new (.agg [.int .i64 0, .int .i64 0])) :: om 5 16 :: on_ (.st 2 (.t 6) (.t 18)) :: [])) (.seq (.drawn (oo 19 (.fa 0 (.t 6)) :: oo 20 (.ld1 (.t 19)) :: om 21 0 :: om 22 5 :: oo 23 (.ia 2 (.t 21) (.t 22)) :: oo 24 (.fa 1 (.t 23)) :: oo 25 (.ld1 (.t 24)) :: oo 26 (.bin .neq .other false (.t 20) (.t 25)) :: om 27 26 :: ⟨some 28, .op (.ldA 2 (.t 6)), some (27, false)⟩ :: ⟨some 29, .call 112 [.t 28], some (27, false)⟩ :: ⟨some 30, .op (.un .not (.t 29)), some (27, false)⟩ :: oo 31 (.pick (.t 27) (.c (.bool true)) (.t 30)) :: []) [[], [0], [], [], [2, 3], [4], [5], [1, 6], [7], [8], [9, 8, 8], [10, 8], [8, 11]]) p103_19))) p103_23)
def p103_12 : PC := (.cond (.t 15) .skip (.exit 0))
def p103_27 : PC := (.loop (.seq (.reg (oo 15 (.bin .lss .other false (.t 14) (.t 13)) :: [])) (.seq p103_12 p103_24)))
def p103_33 : PC := (.seq (.seq (.reg (om 12 1 :: oo 13 (.len .slice (.t 12)) :: oo 14 (.mv (.c (.int .i64 0))) :: [])) (.block 0 p103_27)) p103_32)
def p103_6 : PC := (.cond (.t 11) (.seq (.reg (oo 4 (.mv (.c (.bool false))) :: [])) .ret) .skip)
def p103_35 : PC := (.seq (.reg (oo 4 (.mv (.c (.bool false))) :: [])) (.seq (.seq (.reg (om 7 0 :: oo 8 (.len .slice (.t 7)) :: om 9 1 :: oo 10 (.len .slice (.t 9)) :: oo 11 (.bin .neq .other false (.t 8) (.t 10)) :: [])) p103_6) p103_33))
theorem fn103 : FnOk Tryz.prog 103 p103_35 33 [.t 4] := ⟨false, Tryz.f103, _, Tryz.func103, by decide, rfl, by kernel_rfl, rfl, by kernel_rfl⟩
def L_eval_Valid_1 (N : Nat) (a1 : List ApiVar) (a2 : List ApiValue) : Nat → Int → Option (Unit)
  | 0, _ => none
  | m1 + 1, v1_0 =>
    bif decide (v1_0 < (a2.length : Int)) then
    ((getI a2 v1_0).bind fun y11 =>
    (getI a1 v1_0).bind fun y12 =>
    bif !decide (y11.Type_ = y12.Type_) then
    (none)
    else
    ((F_eval_valid N y11).bind fun r14 =>
    bif !r14 then
    (none)
    else
    ((L_eval_Valid_1 N a1 a2 m1) (IntKind.wrap .i64 (v1_0 + 1)))))
    else
    (some ())
def K_eval_Valid_1 (N : Nat)  : (Unit) → Option (Bool)
  | _ =>
    some true
def F_eval_Valid  (N : Nat) (a1 : List ApiVar) (a2 : List ApiValue) : Option (Bool) :=
      bif !decide ((a1.length : Int) = (a2.length : Int)) then
    (none)
    else
    ((L_eval_Valid_1 N a1 a2 N 0).bind (K_eval_Valid_1 N))
theorem P_eval_Valid  {N : Nat} {a1 : List ApiVar} {a2 : List ApiValue} {r : Bool} (h : F_eval_Valid N a1 a2 = some r) : Pure Tryz.prog (Gl.at 0) 103 [(.sl (a1.map ApiVar.v)), (.sl (a2.map ApiValue.v))] (.bool r) := by
  refine pure_run fn103 ?_
  rw [F_eval_Valid] at h
  replace h := bs h
  change GG [.t 4] _ [.pc p103_35] (mk 33 [(0, (.sl (a1.map ApiVar.v))), (1, (.sl (a2.map ApiValue.v)))]) []
  refine gx mo [.pc p103_6, .pc p103_33] 33 [(0, (.sl (a1.map ApiVar.v))), (1, (.sl (a2.map ApiValue.v))), (11, (.bool (!decide ((a1.length : Int) = (a2.length : Int)))))] [] 13 [tw 2 (E_len [] a1 ApiVar.v), tw 4 (E_len [] a2 ApiValue.v)] ?_
  refine go_if h (fun hb3 h => ?_) (fun hb3 h => ?_)
  · cases h
  · rw [hb3]
    refine gx mo [.pc p103_27, .blk 0, .pc p103_32] 33 [(0, (.sl (a1.map ApiVar.v))), (12, (.sl (a2.map ApiValue.v))), (13, (i64 (a2.length : Int))), (14, (i64 0))] [] 10 [tw 2 (E_len [] a2 ApiValue.v)] ?_
    refine go_cut (X := Unit) (fun x => (K_eval_Valid_1 N x).bind some = some r) ([.pc p103_32]) (fun x => (mk 33 [])) (fun x => []) ?_ fun kont1_0 => ?_
    · rintro _ h
      rw [K_eval_Valid_1] at h
      refine gx mo [.pc p103_31] 33 [(4, (.bool true))] [] 4 [] ?_
      obtain rfl := Option.some.inj h
      exact gf (.bool true) (.same rfl)
    refine go_loop' (fun m t s => ∃ (v1_0 : Int), (L_eval_Valid_1 N a1 a2 m v1_0).bind (fun q => (K_eval_Valid_1 N q).bind some) = some r ∧ t = (mk 33 [(0, (.sl (a1.map ApiVar.v))), (12, (.sl (a2.map ApiValue.v))), (13, (i64 (a2.length : Int))), (14, (i64 v1_0))]) ∧ s = []) N ⟨0, go_assoc h, rfl, rfl⟩ ?_
    intro m1 J1 hJ1 t s
    rintro ⟨v1_0, h, rfl, rfl⟩
    cases m1 with
    | zero => exact absurd h (by simp [L_eval_Valid_1])
    | succ m1 =>
      rw [L_eval_Valid_1] at h
      refine gx mo [.pc p103_12, .pc p103_24, .jp J1, .blk 0, .pc p103_32] 33 [(0, (.sl (a1.map ApiVar.v))), (12, (.sl (a2.map ApiValue.v))), (13, (i64 (a2.length : Int))), (14, (i64 v1_0)), (15, (.bool (decide (v1_0 < (a2.length : Int)))))] [] 5 [] ?_
      refine go_if h (fun hb10 h => ?_) (fun hb10 h => ?_)
      · rw [hb10]
        refine go_bind h (fun y11 hy11 h => ?_)
        refine go_bind h (fun y12 hy12 h => ?_)
        refine go_if h (fun hb13 h => ?_) (fun hb13 h => ?_)
        · cases h
        · refine go_bind h (fun r14 hr14 h => ?_)
          refine gx mo [.pc p103_19, .blk 1, .pc p103_23, .jp J1, .blk 0, .pc p103_32] 33 [(0, (.sl (a1.map ApiVar.v))), (12, (.sl (a2.map ApiValue.v))), (13, (i64 (a2.length : Int))), (14, (i64 v1_0)), (31, (.bool (!r14)))] [.row 2 [(ApiValue.v y11)]] 15 [tw 2 (E_ia [] ApiValue.v .i64 hy11), tg 11 (E_ia [.row 2 [(ApiValue.v y11)]] ApiVar.v .i64 hy12), tgb 14 [.row 2 [(ApiValue.v y11)]] (.bin .neq .other false (.c (i64 y11.Type_)) (.c (i64 y12.Type_))) (!decide (y11.Type_ = y12.Type_)) false hb13, tgc 17 [.row 2 [(ApiValue.v y11)]] (P_eval_valid hr14) (fg fl_nil)] ?_
          refine go_if h (fun hb15 h => ?_) (fun hb15 h => ?_)
          · cases h
          · rw [hb15]
            refine gx mo [.jp J1, .blk 0, .pc p103_32] 33 [(0, (.sl (a1.map ApiVar.v))), (12, (.sl (a2.map ApiValue.v))), (13, (i64 (a2.length : Int))), (14, (i64 (IntKind.wrap .i64 (v1_0 + 1))))] [.row 2 [(ApiValue.v y11)]] 7 [] ?_
            refine go_pick [] [] [(0, 0), (12, 0), (13, 0), (14, 0)] (t' := (mk 33 [(0, (.sl (a1.map ApiVar.v))), (12, (.sl (a2.map ApiValue.v))), (13, (i64 (a2.length : Int))), (14, (i64 (IntKind.wrap .i64 (v1_0 + 1))))])) (s' := []) (by kernel_rfl) trivial rfl ?_
            exact go_back rfl (hJ1 m1 _ _ (Nat.lt_succ_self m1) ⟨IntKind.wrap .i64 (v1_0 + 1), h, rfl, rfl⟩)
      · rw [hb10]
        refine gx mo [.pc p103_32] 33 [] [] 2 [] ?_
        exact kont1_0 () h
/-! corebank/eval.tree -/
def p104_95 : PC := (.seq (.reg (oo 12 (.mv (.c .nils)) :: [])) (.seq (.seq (.reg (oo 81 (.fa 3 (.t 3)) :: oo 82 (.ld1 (.t 81)) :: oo 83 (.len .slice (.t 82)) :: oo 84 (.mv (.c (.int .i64 0))) :: [])) (.block 3 (.loop (.seq (.reg (oo 85 (.bin .lss .other false (.t 84) (.t 83)) :: [])) (.seq (.cond (.t 85) .skip (.exit 3)) (.seq (.block 4 (.seq (.reg (oo 86 (.ia 4 (.t 82) (.t 84)) :: oo 87 (.ldA 4 (.t 86)) :: oo 14 (.new (.agg [.int .i64 0, .int .i64 0, .str [], .nils])) :: on_ (.st 4 (.t 14) (.t 87)) :: [])) (.seq (.reg (oo 89 (.ldA 4 (.t 14)) :: om 90 1 :: om 91 2 :: ⟨some 92, .call 104 [.t 89, .t 90, .t 91], none⟩ :: om 88 92 :: oo 93 (.ext 0 (.t 88)) :: oo 94 (.ext 1 (.t 88)) :: oo 15 (.new (.agg [.int .i64 0, .int .i64 0])) :: on_ (.st 2 (.t 15) (.t 93)) :: om 16 94 :: [])) (.seq (.seq (.reg (om 95 16 :: oo 96 (.bin .neq .other true (.t 95) (.c (.int .i64 0))) :: [])) (.cond (.t 96) (.seq (.reg (oo 97 (.build [.int .i64 0, .int .i64 0] []) :: om 98 16 :: on_ (.st 2 (.t 6) (.t 97)) :: om 7 98 :: [])) .ret) .skip)) (.reg (om 99 12 :: oo 100 (.ldA 2 (.t 15)) :: oo 101 (.lit (.agg [.int .i64 0, .int .i64 0]) 1 [(0, .t 100)]) :: oo 102 (.app 2 16 (.t 99) (.t 101)) :: om 12 102 :: [])))))) (.reg (oo 103 (.bin .add .other true (.t 84) (.c (.int .i64 1))) :: om 84 103 :: [])))))))) (.seq (.reg (oo 104 (.fa 0 (.t 3)) :: oo 105 (.ld1 (.t 104)) :: om 106 12 :: ⟨some 107, .call 113 [.t 105, .t 106], none⟩ :: oo 108 (.ext 0 (.t 107)) :: oo 109 (.ext 1 (.t 107)) :: on_ (.st 2 (.t 6) (.t 108)) :: om 7 109 :: [])) .ret)))
def p104_8 : PC := .ret
def p104_58 : PC := (.cond (.t 24) (.seq (.reg (oo 26 (.fa 1 (.t 3)) :: oo 27 (.ld1 (.t 26)) :: oo 28 (.build [.int .i64 0, .int .i64 0] [(0, 1, .c (.int .i64 2)), (1, 1, .t 27)]) :: on_ (.st 2 (.t 6) (.t 28)) :: oo 7 (.mv (.c (.int .i64 0))) :: [])) p104_8) (.seq (.reg (oo 30 (.bin .eql .other true (.t 18) (.c (.int .i64 3))) :: om 29 30 :: [])) (.cond (.t 29) (.seq (.reg (oo 31 (.fa 1 (.t 3)) :: oo 32 (.ld1 (.t 31)) :: oo 33 (.build [.int .i64 0, .int .i64 0] [(0, 1, .c (.int .i64 3)), (1, 1, .t 32)]) :: on_ (.st 2 (.t 6) (.t 33)) :: oo 7 (.mv (.c (.int .i64 0))) :: [])) .ret) (.seq (.reg (oo 35 (.bin .eql .other true (.t 18) (.c (.int .i64 4))) :: om 34 35 :: [])) (.cond (.t 34) (.seq (.reg (om 36 1 :: oo 37 (.len .slice (.t 36)) :: oo 38 (.mv (.c (.int .i64 0))) :: [])) (.block 1 (.loop (.seq (.reg (oo 39 (.bin .lss .other false (.t 38) (.t 37)) :: [])) (.seq (.cond (.t 39) .skip (.exit 1)) (.seq (.block 2 (.seq (.reg (om 40 38 :: oo 41 (.ia 2 (.t 36) (.t 38)) :: oo 42 (.ldA 2 (.t 41)) :: oo 9 (.new (.agg [.str [], .int .i64 0])) :: om 8 40 :: on_ (.st 2 (.t 9) (.t 42)) :: [])) (.seq (.reg (oo 43 (.fa 0 (.t 9)) :: oo 44 (.ld1 (.t 43)) :: oo 45 (.fa 2 (.t 3)) :: oo 46 (.ld1 (.t 45)) :: oo 47 (.bin .eql .other false (.t 44) (.t 46)) :: [])) (.cond (.t 47) (.seq (.reg (om 48 2 :: om 49 8 :: oo 50 (.ia 2 (.t 48) (.t 49)) :: oo 51 (.ldA 2 (.t 50)) :: on_ (.st 2 (.t 6) (.t 51)) :: oo 7 (.mv (.c (.int .i64 0))) :: [])) .ret) .skip)))) (.reg (oo 52 (.bin .add .other true (.t 38) (.c (.int .i64 1))) :: om 38 52 :: [])))))))) (.seq (.reg (oo 54 (.bin .eql .other true (.t 18) (.c (.int .i64 19))) :: om 53 54 :: [])) (.cond (.t 53) (.seq (.reg (oo 56 (.fa 3 (.t 3)) :: oo 57 (.ld1 (.t 56)) :: oo 58 (.ia 4 (.t 57) (.c (.int .i64 0))) :: oo 59 (.ldA 4 (.t 58)) :: om 60 1 :: om 61 2 :: ⟨some 62, .call 104 [.t 59, .t 60, .t 61], none⟩ :: om 55 62 :: oo 63 (.ext 0 (.t 55)) :: oo 64 (.ext 1 (.t 55)) :: oo 10 (.new (.agg [.int .i64 0, .int .i64 0])) :: on_ (.st 2 (.t 10) (.t 63)) :: om 11 64 :: [])) (.seq (.seq (.reg (om 65 11 :: oo 66 (.bin .neq .other true (.t 65) (.c (.int .i64 0))) :: [])) (.cond (.t 66) (.seq (.reg (oo 67 (.build [.int .i64 0, .int .i64 0] []) :: om 68 11 :: on_ (.st 2 (.t 6) (.t 67)) :: om 7 68 :: [])) .ret) .skip)) (.seq (.reg (oo 69 (.fa 3 (.t 3)) :: oo 70 (.ld1 (.t 69)) :: oo 71 (.fa 1 (.t 10)) :: oo 72 (.ld1 (.t 71)) :: oo 73 (.bin .sub .other true (.c (.int .i64 2)) (.t 72)) :: oo 74 (.ia 4 (.t 70) (.t 73)) :: oo 75 (.ldA 4 (.t 74)) :: om 76 1 :: om 77 2 :: ⟨some 78, .call 104 [.t 75, .t 76, .t 77], none⟩ :: oo 79 (.ext 0 (.t 78)) :: oo 80 (.ext 1 (.t 78)) :: on_ (.st 2 (.t 6) (.t 79)) :: om 7 80 :: [])) .ret))) .skip)))))))
def p104_60 : PC := (.cond (.t 19) (.seq (.reg (oo 21 (.fa 1 (.t 3)) :: oo 22 (.ld1 (.t 21)) :: oo 23 (.build [.int .i64 0, .int .i64 0] [(0, 1, .c (.int .i64 1)), (1, 1, .t 22)]) :: on_ (.st 2 (.t 6) (.t 23)) :: oo 7 (.mv (.c (.int .i64 0))) :: [])) .ret) (.seq (.reg (oo 25 (.bin .eql .other true (.t 18) (.c (.int .i64 2))) :: om 24 25 :: [])) p104_58))
def p104_97 : PC := (.seq (.reg (oo 3 (.box (.t 0)) :: oo 6 (.new (.agg [.int .i64 0, .int .i64 0])) :: oo 7 (.mv (.c (.int .i64 0))) :: [])) (.seq (.seq (.reg (oo 17 (.fa 0 (.t 3)) :: oo 18 (.ld1 (.t 17)) :: [])) (.block 0 (.seq (.reg (oo 20 (.bin .eql .other true (.t 18) (.c (.int .i64 1))) :: om 19 20 :: [])) p104_60))) p104_95))
theorem fn104 : FnOk Tryz.prog 104 p104_97 110 [.a 6 2, .t 7] := ⟨false, Tryz.f104, _, Tryz.func104, by decide, rfl, by kernel_rfl, rfl, by kernel_rfl⟩
def F_eval_tree  (N : Nat) (a1 : ApiExpr) (a2 : List ApiVar) (a3 : List ApiValue) : Option (ApiValue × Int) :=
      bif decide (a1.Op_ = 1) then
    (none)
    else
    (bif decide (a1.Op_ = 2) then
    (some ((⟨2, a1.N_⟩ : ApiValue), 0))
    else
    (none))
theorem P_eval_tree  {N : Nat} {a1 : ApiExpr} {a2 : List ApiVar} {a3 : List ApiValue} {r : ApiValue × Int} (h : F_eval_tree N a1 a2 a3 = some r) : Pure Tryz.prog (Gl.at 0) 104 [(ApiExpr.v a1), (.sl (a2.map ApiVar.v)), (.sl (a3.map ApiValue.v))] (.tup [(ApiValue.v r.1), (i64 r.2)]) := by
  refine pure_run fn104 ?_
  rw [F_eval_tree] at h
  replace h := bs h
  change GG [.a 6 2, .t 7] _ [.pc p104_97] (mk 110 [(0, (ApiExpr.v a1)), (1, (.sl (a2.map ApiVar.v))), (2, (.sl (a3.map ApiValue.v)))]) []
  refine gx mo [.pc p104_60, .blk 0, .pc p104_95] 110 [(1, (.sl (a2.map ApiVar.v))), (2, (.sl (a3.map ApiValue.v))), (3, (.ref 0 0 0)), (6, (.ref 1 0 0)), (18, (i64 a1.Op_)), (19, (.bool (decide (a1.Op_ = 1))))] [.row 4 [(ApiExpr.v a1)], .row 2 [(.agg [(i64 0), (i64 0)])]] 18 [] ?_
  refine go_if h (fun hb4 h => ?_) (fun hb4 h => ?_)
  · cases h
  · rw [hb4]
    refine gx mo [.pc p104_58, .blk 0, .pc p104_95] 110 [(1, (.sl (a2.map ApiVar.v))), (2, (.sl (a3.map ApiValue.v))), (3, (.ref 0 0 0)), (6, (.ref 1 0 0)), (18, (i64 a1.Op_)), (24, (.bool (decide (a1.Op_ = 2))))] [.row 4 [(ApiExpr.v a1)], .row 2 [(.agg [(i64 0), (i64 0)])]] 6 [] ?_
    refine go_if h (fun hb5 h => ?_) (fun hb5 h => ?_)
    · rw [hb5]
      refine gx mo [.pc p104_8, .blk 0, .pc p104_95] 110 [(6, (.ref 1 0 0)), (7, (i64 0))] [.row 4 [(ApiExpr.v a1)], .row 2 [(.agg [(i64 2), (i64 a1.N_)])]] 9 [] ?_
      obtain rfl := Option.some.inj h
      exact gf (.tup [(.agg [(i64 2), (i64 a1.N_)]), (i64 0)]) (f_tupl (fg (fs fl_nil)))
    · cases h
end
end Go.TL
