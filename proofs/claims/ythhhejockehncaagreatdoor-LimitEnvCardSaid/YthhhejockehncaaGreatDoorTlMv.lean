import Derived.RangeFuncNested
import Derived.RangeFuncBox
import Derived.RangeFuncBound
import Derived.RangeFuncCalls
import Derived.RangeFuncLeaves
import Derived.Shelf.Abstract
import Derived.Shelf.RegionOpen
import Derived.WalkKit
import Derived.OwnWalkIn
import Derived.TacticsInMore
import Derived.LoopNIn
import Derived.LoopIn
import Derived.IntWalk
import Derived.StillTailTactics
import Derived.Test.YthhhejockehncaaGreatDoorTlAG
import Derived.Test.YthhhejockehncaaGreatDoorChecked
set_option linter.all false
namespace Go.Proofs
open Go.RowKit Go.Shelf
attribute [local go_sem] Oper.semAt_some

namespace Mv
/-- An entry as it is handed on. -/
structure E where
  Id : Int
  Booked : Int
  Val : Int
  Kind : Int
  Auth : Int
  Period : Int
  Key : ByteArray
  Text : ByteArray
  LP : Option Addr
  LN : Nat
  LC : Nat
  Chain : Int
def E.Legs (e : E) : Value := .slice e.LP e.LN e.LC
def E.cells (e : E) : List Value := [.int .i64 e.Id, .int .i64 e.Booked, .int .i64 e.Val, .int .i64 e.Kind, .int .i64 e.Auth, .int .i64 e.Period, .string e.Key, .string e.Text, e.Legs, .int .u64 e.Chain]
structure L where
  Account : Int
  Amount : Int
  Currency : ByteArray
def L.cells (e : L) : List Value := [.int .i64 e.Account, .int .i64 e.Amount, .string e.Currency]
abbrev J := List (E × List L)
def encs (x : E × Int) : Array Value := #[.agg x.1.cells.toArray, .int .i64 x.2]
def legs (a : Int) (e : E) (l : List L) : List (E × Int) := (l.filter fun x => decide (x.Account = a)).map fun x => (e, x.Amount)
def all (a : Int) (j : J) : List (E × Int) := j.flatMap fun x => legs a x.1 x.2
/-- The legs in memory. -/
def LegsAt (n₀ : Nat) (W : World) (v : Value) (l : List L) : Prop := ∃ p cap, v = .slice p l.length cap ∧ l.length < 4611686018427387904 ∧ ∀ k (h : k < l.length), ∃ b o, p = some ⟨b, o, none⟩ ∧ b < n₀ ∧
  W.cell? ⟨b, o + k * 3, none⟩ = some (.int .i64 l[k].Account) ∧ W.cell? ⟨b, o + k * 3 + 1, none⟩ = some (.int .i64 l[k].Amount) ∧ W.cell? ⟨b, o + k * 3 + 2, none⟩ = some (.string l[k].Currency)
def At (n₀ : Nat) (W : World) (v : Value) (j : J) : Prop := ∃ p cap, v = .slice p j.length cap ∧ j.length < 4611686018427387904 ∧ ∀ k (h : k < j.length), LegsAt n₀ W j[k].1.Legs j[k].2 ∧ ∃ b o, p = some ⟨b, o, none⟩ ∧ b < n₀ ∧
  ∀ i (hi : i < 10), W.cell? ⟨b, o + k * 10 + i, none⟩ = some (j[k].1.cells[i]'hi)

theorem all_take (a : Int) (j : J) {k : Nat} (h : k < j.length) : all a (j.take (k + 1)) = all a (j.take k) ++ legs a j[k].1 j[k].2 := by
  rw [List.take_succ_eq_append_getElem h]
  simp [all, -List.take_append_getElem]
theorem all_prefix (a : Int) (j : J) (k : Nat) : all a (j.take k) <+: all a j := by
  refine ⟨all a (j.drop k), ?_⟩
  unfold all
  rw [← List.flatMap_append, List.take_append_drop]
theorem legs_take (a : Int) (e : E) (l : List L) {m : Nat} (h : m < l.length) : legs a e (l.take (m + 1)) = legs a e (l.take m) ++ (if l[m].Account = a then [(e, l[m].Amount)] else []) := by
  rw [List.take_succ_eq_append_getElem h]
  by_cases hx : l[m].Account = a
  · simp [legs, hx, -List.take_append_getElem]
  · simp [legs, hx, -List.take_append_getElem]
theorem legs_prefix (a : Int) (e : E) (l : List L) (m : Nat) : legs a e (l.take m) <+: legs a e l := by
  refine ⟨legs a e (l.drop m), ?_⟩
  unfold legs
  rw [← List.map_append, ← List.filter_append, List.take_append_drop]
theorem both_prefix (a : Int) (j : J) {k : Nat} (h : k < j.length) (m : Nat) : all a (j.take k) ++ legs a j[k].1 (j[k].2.take m) <+: all a j := by
  refine List.IsPrefix.trans ?_ (all_prefix a j (k + 1))
  rw [all_take a j h]
  exact (List.prefix_append_right_inj _).2 (legs_prefix _ _ _ _)
theorem heap_lt {w : World} {b : Nat} {o : Obj} (h : w.heap[b]? = some o) : b < w.heap.size := by
  rcases Nat.lt_or_ge b w.heap.size with hlt | hge
  · exact hlt
  · rw [Array.getElem?_eq_none hge] at h; cases h
theorem cell_alloc_l {W : World} {a : Addr} {v : Value} (o : Obj) (h : W.cell? a = some v) : (W.alloc o).cell? a = some v := cell_kept h (World.grownBy_alloc W o none) (fun r e => by cases e)
/-- What a round keeps. -/
def Kp (n₀ n₁ : Nat) (W W' : World) : Prop := Below n₀ W W' ∧ ∀ b, n₁ ≤ b → ∀ o : Obj, W.heap[b]? = some o → o.isCells = true → W'.heap[b]? = some o
theorem Kp.trans {n₀ n₁ : Nat} {A B C : World} (h : Kp n₀ n₁ A B) (g : Kp n₀ n₁ B C) : Kp n₀ n₁ A C :=
  ⟨h.1.trans g.1, fun b hb o ho hc => g.2 b hb o (h.2 b hb o ho hc) hc⟩
theorem Kp.refl {n₀ n₁ : Nat} (A : World) : Kp n₀ n₁ A A := ⟨Below.refl _ _, fun _ _ _ h _ => h⟩
theorem Kp.alloc {n₀ n₁ : Nat} {A : World} (h : n₀ ≤ A.heap.size) (o : Obj) : Kp n₀ n₁ A (A.alloc o) := ⟨(Below.refl _ _).alloc h _, fun b hb o ho _ => (Below.heap_alloc _ _ _ (heap_lt ho)).trans ho⟩
theorem Kp.cell {n₀ n₁ : Nat} {A B : World} (h : Kp n₀ n₁ A B) {b o : Nat} {v : Value} (hb : n₁ ≤ b) (hc : A.cell? ⟨b, o, none⟩ = some v) : B.cell? ⟨b, o, none⟩ = some v := by
  obtain ⟨obj, h1, h2⟩ : ∃ obj : Obj, A.heap[b]? = some obj ∧ obj.isCells = true := by
    cases hh : A.heap[b]? with
    | none => simp [World.cell?, hh] at hc
    | some obj =>
      refine ⟨obj, rfl, ?_⟩
      cases obj <;> first | rfl | (simp [World.cell?, hh] at hc)
  have : B.heap[b]? = A.heap[b]? := (h.2 b hb obj h1 h2).trans h1.symm
  exact (World.cell?_of_block (w := A) (w' := B) (a := ⟨b, o, none⟩) this).trans hc
set_option maxRecDepth 100000 in
set_option maxHeartbeats 4000000 in
theorem mv_in (F : Fence) (n : Nat) (h83 : F.fn 83) (hro : F.round = none) (hn : 1 ≤ n) (l Bj Ba n₀ n₁ : Nat) (v : Value) (j : J) (a : Int) (J0 Jx : List (E × Int) → World → Prop)
    (hY : ∀ pre x W, J0 pre W → pre.length < (all a j).length → YieldAt F (n - 1) Tryz.prog l (encs x) W fun e W' =>
      (e = .returned (.bool true) ∧ J0 (pre ++ [x]) W' ∧ Kp n₀ n₁ W W') ∨ (e = .returned (.bool false) ∧ Jx (pre ++ [x]) W'))
    (W : World) (hJ : AbidesFrom W.heap.size J0) (hBj : W.cell? ⟨Bj, 0, none⟩ = some v) (hBa : W.cell? ⟨Ba, 0, none⟩ = some (.int .i64 a)) (hba : n₁ ≤ Ba) (hW : n₀ ≤ W.heap.size) (hW1 : n₁ ≤ W.heap.size) (hv : At n₀ W v j) (h0 : J0 [] W) :
    CallsIn F n Tryz.prog 83 #[.func (.yield l) #[] #[], .pointer (some ⟨Bj, 0, none⟩), .pointer (some ⟨Ba, 0, none⟩)] W fun e W' => (∃ v, e = .returned v) ∧
      ((∃ ys, ys = all a j ∧ J0 ys W') ∨ (∃ pre, pre <+: all a j ∧ Jx pre W')) := by
  obtain ⟨p, cap, rfl, hjl, hv⟩ := hv
  refine callsIn_of_wp Tryz.func83 rfl h83 ?_ hro
  simp only [Tryz.ntmps83, List.size_toArray, List.length_cons, List.length_nil, Nat.reduceAdd, Nat.reduceSub, Array.replicate_succ, Array.replicate_zero, List.push_toArray, List.append_toArray, List.nil_append, List.cons_append]
  gi_wp2
  gi_loopw [10] (fun i wr => ∃ k : Nat, k ≤ j.length ∧ i = .int .i64 k ∧ J0 (all a (j.take k)) wr ∧ Kp n₀ n₁ W wr)
    (fun i _ => j.length - (intOf i).toNat)
  case atStart => exact ⟨0, Nat.zero_le _, rfl, h0, Kp.refl _⟩
  case round =>
    obtain ⟨k, hk, rfl, hJs, hnx⟩ := hrel
    by_cases hlt : k < j.length
    · obtain ⟨hl, b, o, rfl, hb, hc⟩ := hv k hlt
      obtain ⟨⟨e, le⟩, hje⟩ : ∃ x, j[k] = x := ⟨_, rfl⟩
      rw [hje] at hl hc
      obtain ⟨lp, lcap, hlv, hll, hl⟩ := hl
      dsimp only at hlv hl hc
      have hc0 := (hnx.1.cell (p := ⟨b, o + k * 10, none⟩) hb).trans (hc 0 (by omega))
      have hc1 := (hnx.1.cell (p := ⟨b, o + k * 10 + 1, none⟩) hb).trans (hc 1 (by omega))
      have hc2 := (hnx.1.cell (p := ⟨b, o + k * 10 + 2, none⟩) hb).trans (hc 2 (by omega))
      have hc3 := (hnx.1.cell (p := ⟨b, o + k * 10 + 3, none⟩) hb).trans (hc 3 (by omega))
      have hc4 := (hnx.1.cell (p := ⟨b, o + k * 10 + 4, none⟩) hb).trans (hc 4 (by omega))
      have hc5 := (hnx.1.cell (p := ⟨b, o + k * 10 + 5, none⟩) hb).trans (hc 5 (by omega))
      have hc6 := (hnx.1.cell (p := ⟨b, o + k * 10 + 6, none⟩) hb).trans (hc 6 (by omega))
      have hc7 := (hnx.1.cell (p := ⟨b, o + k * 10 + 7, none⟩) hb).trans (hc 7 (by omega))
      have hc8 := (hnx.1.cell (p := ⟨b, o + k * 10 + 8, none⟩) hb).trans (hc 8 (by omega))
      have hc9 := (hnx.1.cell (p := ⟨b, o + k * 10 + 9, none⟩) hb).trans (hc 9 (by omega))
      simp only [E.cells, List.getElem_cons_zero, List.getElem_cons_succ] at hc0 hc1 hc2 hc3 hc4 hc5 hc6 hc7 hc8 hc9
      rw [hlv] at hc8
      gi_wp2
      obtain ⟨wo, hwo⟩ : ∃ wo, wo = wr := ⟨_, rfl⟩
      rw [← hwo] at hnx hJs hc0 hc1 hc2 hc3 hc4 hc5 hc6 hc7 hc8 hc9 ⊢
      clear hwo wr
      have hs : W.heap.size ≤ wo.heap.size := hnx.1.size
      obtain ⟨W1, hW1e⟩ : ∃ W1, wo.alloc (Obj.cells #[Value.int IntKind.i64 e.Id, Value.int IntKind.i64 e.Booked, Value.int IntKind.i64 e.Val, Value.int IntKind.i64 e.Kind, Value.int IntKind.i64 e.Auth, Value.int IntKind.i64 e.Period, Value.string e.Key, Value.string e.Text, Value.slice lp le.length lcap, Value.int IntKind.u64 e.Chain] 61) = W1 := ⟨_, rfl⟩
      rw [hW1e]
      have hB1 : Kp n₀ n₁ wo W1 := by rw [← hW1e]; exact Kp.alloc (by omega) _
      have hJ1 : J0 (all a (j.take k) ++ legs a e (le.take 0)) W1 := by
        rw [← hW1e]
        simp only [legs, List.take_zero, List.filter_nil, List.map_nil, List.append_nil]
        exact hJ _ _ _ none hJs (World.grownBy_alloc _ _ _) (fun r e => by cases e)
      have hbox : ∀ i (hi : i < 10), W1.cell? ⟨wo.heap.size, i, none⟩ = some (e.cells[i]'hi) := by
        rw [← hW1e]
        intro i hi
        simp only [E.cells, hlv]
        simp only [World.cell?, World.alloc_heap_new]
        match i, hi with
        | 0, _ | 1, _ | 2, _ | 3, _ | 4, _ | 5, _ | 6, _ | 7, _ | 8, _ | 9, _ => rfl
      gi_loopw [17] (fun i w2 => ∃ m : Nat, m ≤ le.length ∧ i = .int .i64 m ∧ J0 (all a (j.take k) ++ legs a e (le.take m)) w2 ∧ Kp n₀ n₁ W w2 ∧ Kp n₀ n₁ W1 w2)
        (fun i _ => le.length - (intOf i).toNat)
      case atStart => exact ⟨0, Nat.zero_le _, rfl, hJ1, hnx.trans hB1, Kp.refl _⟩
      case round =>
        obtain ⟨m, hm, rfl, hJm, hnm, hkm⟩ := hrel
        by_cases hmt : m < le.length
        · obtain ⟨lb, lo, rfl, hlb, g0, g1, g2⟩ := hl m hmt
          have g0 := (hnm.1.cell (p := ⟨lb, lo + m * 3, none⟩) hlb).trans g0
          have g1 := (hnm.1.cell (p := ⟨lb, lo + m * 3 + 1, none⟩) hlb).trans g1
          have g2 := (hnm.1.cell (p := ⟨lb, lo + m * 3 + 2, none⟩) hlb).trans g2
          have hBa' := hnm.cell hba hBa
          have e0 := cell_alloc_l (Obj.cells #[Value.int IntKind.i64 le[m].Account, Value.int IntKind.i64 le[m].Amount, Value.string le[m].Currency] 93) (hkm.cell (by omega) (hbox 0 (by omega)))
          have e1 := cell_alloc_l (Obj.cells #[Value.int IntKind.i64 le[m].Account, Value.int IntKind.i64 le[m].Amount, Value.string le[m].Currency] 93) (hkm.cell (by omega) (hbox 1 (by omega)))
          have e2 := cell_alloc_l (Obj.cells #[Value.int IntKind.i64 le[m].Account, Value.int IntKind.i64 le[m].Amount, Value.string le[m].Currency] 93) (hkm.cell (by omega) (hbox 2 (by omega)))
          have e3 := cell_alloc_l (Obj.cells #[Value.int IntKind.i64 le[m].Account, Value.int IntKind.i64 le[m].Amount, Value.string le[m].Currency] 93) (hkm.cell (by omega) (hbox 3 (by omega)))
          have e4 := cell_alloc_l (Obj.cells #[Value.int IntKind.i64 le[m].Account, Value.int IntKind.i64 le[m].Amount, Value.string le[m].Currency] 93) (hkm.cell (by omega) (hbox 4 (by omega)))
          have e5 := cell_alloc_l (Obj.cells #[Value.int IntKind.i64 le[m].Account, Value.int IntKind.i64 le[m].Amount, Value.string le[m].Currency] 93) (hkm.cell (by omega) (hbox 5 (by omega)))
          have e6 := cell_alloc_l (Obj.cells #[Value.int IntKind.i64 le[m].Account, Value.int IntKind.i64 le[m].Amount, Value.string le[m].Currency] 93) (hkm.cell (by omega) (hbox 6 (by omega)))
          have e7 := cell_alloc_l (Obj.cells #[Value.int IntKind.i64 le[m].Account, Value.int IntKind.i64 le[m].Amount, Value.string le[m].Currency] 93) (hkm.cell (by omega) (hbox 7 (by omega)))
          have e8 := cell_alloc_l (Obj.cells #[Value.int IntKind.i64 le[m].Account, Value.int IntKind.i64 le[m].Amount, Value.string le[m].Currency] 93) (hkm.cell (by omega) (hbox 8 (by omega)))
          have e9 := cell_alloc_l (Obj.cells #[Value.int IntKind.i64 le[m].Account, Value.int IntKind.i64 le[m].Amount, Value.string le[m].Currency] 93) (hkm.cell (by omega) (hbox 9 (by omega)))
          simp only [E.cells, List.getElem_cons_zero, List.getElem_cons_succ] at e0 e1 e2 e3 e4 e5 e6 e7 e8 e9
          rw [hlv] at e8
          have hBa2 := cell_alloc_l (Obj.cells #[Value.int IntKind.i64 le[m].Account, Value.int IntKind.i64 le[m].Amount, Value.string le[m].Currency] 93) hBa'
          by_cases hx : le[m].Account = a
          · have hpl : (all a (j.take k) ++ legs a e (le.take m)).length < (all a j).length := by
              have := (both_prefix a j hlt (m + 1)).length_le
              rw [hje] at this
              simp only [legs_take a e le hmt, hx, if_true, List.length_append, List.length_cons, List.length_nil] at this ⊢
              omega
            obtain ⟨fn, tmps, assign, body, hy, hR⟩ := hY (all a (j.take k) ++ legs a e (le.take m)) (e, le[m].Amount) (wr.alloc (Obj.cells #[Value.int IntKind.i64 le[m].Account, Value.int IntKind.i64 le[m].Amount, Value.string le[m].Currency] 93)) (hJ _ _ _ none hJm (World.grownBy_alloc _ _ _) (fun r e => by cases e)) hpl
            simp only [encs, E.cells, hlv] at hy
            rw [hx] at hy hR hBa2 e0 e1 e2 e3 e4 e5 e6 e7 e8 e9 g0
            gi_wp2
            refine hR.mono ?_
            rintro er W3 (⟨rfl, hJ3, hk3⟩ | ⟨rfl, hJx3⟩)
            · gi_wp2
              have hka : Kp n₀ n₁ wr (wr.alloc (Obj.cells #[Value.int IntKind.i64 a, Value.int IntKind.i64 le[m].Amount, Value.string le[m].Currency] 93)) :=
                Kp.alloc (by have := hnm.1.size; omega) _
              refine ⟨⟨m + 1, by omega, rfl, ?_, hnm.trans (hka.trans hk3), hkm.trans (hka.trans hk3)⟩, by simp only [intOf]; omega⟩
              rw [legs_take a e le hmt, if_pos hx, ← List.append_assoc]
              exact hJ3
            · gi_wp2
              refine bodyPost_ret (results_none rfl _ _ _) rfl ?_
              refine ⟨⟨_, rfl⟩, .inr ⟨_, ?_, hJx3⟩⟩
              have := both_prefix a j hlt (m + 1)
              rw [hje] at this
              simp only [legs_take a e le hmt, if_pos hx, ← List.append_assoc] at this
              exact this
          · gi_wp2
            refine ⟨fun _ h => (by cases h), ?_⟩
            gi_wp2
            refine ⟨⟨m + 1, by omega, rfl, ?_, hnm.trans (Kp.alloc (by have := hnm.1.size; omega) _), hkm.trans (Kp.alloc (by have := hnm.1.size; omega) _)⟩, by simp only [intOf]; omega⟩
            rw [legs_take a e le hmt, if_neg hx, List.append_nil]
            exact hJ _ _ _ none hJm (World.grownBy_alloc _ _ _) (fun r e => by cases e)
        · obtain rfl : m = le.length := by omega
          gi_wp2
          refine ⟨⟨k + 1, by omega, rfl, ?_, hnm⟩, by simp only [intOf]; omega⟩
          rw [all_take a j hlt, hje]
          rw [List.take_length] at hJm
          exact hJm
    · obtain rfl : k = j.length := by omega
      gi_wp2
      go_end0
      exact ⟨⟨_, rfl⟩, .inl ⟨_, rfl, by rw [List.take_length] at hJs; exact hJs⟩⟩
theorem At.below {n₀ : Nat} {w W : World} {v : Value} {j : J} (hv : At n₀ w v j) (hW : Below n₀ w W) : At n₀ W v j := by
  obtain ⟨p, cap, e, h1, h2⟩ := hv
  refine ⟨p, cap, e, h1, fun k h => ?_⟩
  obtain ⟨⟨q, c, e1, e2, e3⟩, b, o, g1, g2, g3⟩ := h2 k h
  refine ⟨⟨q, c, e1, e2, fun m hm => ?_⟩, b, o, g1, g2, fun i hi => (hW.cell (p := ⟨b, o + k * 10 + i, none⟩) (by show b < _; omega)).trans (g3 i hi)⟩
  obtain ⟨b', o', f1, f2, f3, f4, f5⟩ := e3 m hm
  exact ⟨b', o', f1, f2, (hW.cell (p := ⟨b', o' + m * 3, none⟩) (by show b' < _; omega)).trans f3, (hW.cell (p := ⟨b', o' + m * 3 + 1, none⟩) (by show b' < _; omega)).trans f4, (hW.cell (p := ⟨b', o' + m * 3 + 2, none⟩) (by show b' < _; omega)).trans f5⟩
theorem Kp.b {n₀ n₁ : Nat} {w : World} (h : n₀ ≤ w.heap.size) (W : World) (l : Nat) (o o' : Obj) (hl : w.heap.size ≤ l) (ho : W.heap[l]? = some o) (hc : o.isCells = false) (hw : o.isWalk = false) : Kp n₀ n₁ W (W.putObj l o') := by
  refine ⟨belowK_b h W l o o' hl ho hc hw, fun b hb x hx hxc => ?_⟩
  have hne : b ≠ l := by
    rintro rfl
    rw [ho] at hx
    cases hx
    rw [hc] at hxc
    cases hxc
  exact ((grownBy_putObj' W l o').block b (heap_lt hx) (fun e => hne (Option.some.inj e))).trans hx
theorem Kp.setCell {n₀ n₁ : Nat} {W : World} {b o : Nat} (h0 : n₀ ≤ b) (h1 : b < n₁) (v : Value) : Kp n₀ n₁ W (W.setCell ⟨b, o, none⟩ v) := by
  refine ⟨(Below.refl _ _).setCell (p := ⟨b, o, none⟩) h0 v, fun c hc x hx _ => ?_⟩
  exact (Below.heap_setCell _ _ _ _ (by show c ≠ b; omega)).trans hx
/-- The iterator's contract. -/
theorem mv_stops (F : Fence) (n : Nat) (h83 : F.fn 83) (hro : F.round = none) (hn : 1 ≤ n) (Bj Ba n₀ n₁ : Nat) (v : Value) (j : J) (a : Int) (w : World) (hBj : w.cell? ⟨Bj, 0, none⟩ = some v) (hBa : w.cell? ⟨Ba, 0, none⟩ = some (.int .i64 a))
    (hba : n₁ ≤ Ba) (hbj : Bj < w.heap.size) (hba' : Ba < w.heap.size) (hw : n₀ ≤ w.heap.size) (hw1 : n₁ ≤ w.heap.size) (hv : At n₀ w v j) :
    SeqStopsK F n Tryz.prog 83 #[.pointer (some ⟨Bj, 0, none⟩), .pointer (some ⟨Ba, 0, none⟩)] encs (Kp n₀ n₁) (fun ys => ys = all a j) (fun pre => pre <+: all a j) (all a j).length w := by
  intro l J0 Jx W hW hJ hJx hY h0
  refine mv_in F n h83 hro hn l Bj Ba n₀ n₁ v j a J0 Jx hY W hJ ((hW.cell (p := ⟨Bj, 0, none⟩) (by show Bj < _; omega)).trans hBj) ((hW.cell (p := ⟨Ba, 0, none⟩) (by show Ba < _; omega)).trans hBa) hba (Nat.le_trans hw hW.size) (Nat.le_trans hw1 hW.size) (hv.below (hW.mono hw)) h0

set_option maxHeartbeats 1000000 in
/-- movements: the list and the account are boxed; the function value captures the boxes. -/
theorem movements_in (F : Fence) (n : Nat) (h59 : F.fn 59) (hro : F.round = none) (p : Option Addr) (l c : Nat) (a : Int) (w : World) :
    CallsIn F n Tryz.prog 59 #[.slice p l c, .int .i64 a] w fun e w' => e = .returned (.func (.func 83) #[] #[.pointer (some ⟨w.heap.size, 0, none⟩), .pointer (some ⟨w.heap.size + 1, 0, none⟩)]) ∧ w' = (w.alloc (.cells #[.slice p l c] 29)).alloc (.cells #[.int .i64 a] 3) := by
  refine callsIn_of_wp Tryz.func59 rfl h59 ?_ hro
  simp only [Tryz.ntmps59, List.size_toArray, List.length_cons, List.length_nil, Nat.reduceAdd, Nat.reduceSub, Array.replicate_succ, Array.replicate_zero, List.push_toArray, List.append_toArray, List.nil_append, List.cons_append]
  gi_wp2
  go_ret
  exact ⟨rfl, rfl⟩

def sub (n : Int) (l : List (E × Int)) : Int := l.foldl (fun n x => wrap64 (n - x.2)) n
theorem sub_snoc (n : Int) (l : List (E × Int)) (x : E × Int) : sub n (l ++ [x]) = wrap64 (sub n l - x.2) := by simp [sub]

set_option maxRecDepth 100000 in
set_option maxHeartbeats 2000000 in
theorem Of_in (F : Fence) (n : Nat) (h26 : F.fn 26) (h59 : F.fn 59) (h83 : F.fn 83) (hro : F.round = none) (hn : 3 ≤ n) (v : Value) (j : J) (a : Int) (w : World) (hv : At w.heap.size w v j) :
    CallsIn F n Tryz.prog 26 #[v, .int .i64 a] w fun e W' => e = .returned (.int .i64 (sub 0 (all a j))) ∧ Below w.heap.size w W' := by
  have h1 : 1 ≤ n := by omega
  have hv' := hv
  obtain ⟨p, cap, rfl, hjl, hv⟩ := hv
  refine callsIn_of_wp_marks Tryz.func26 rfl h26 ?_ hro
  simp only [Tryz.ntmps26, List.size_toArray, List.length_cons, List.length_nil, Nat.reduceAdd, Nat.reduceSub, Array.replicate_succ, Array.replicate_zero, List.push_toArray, List.append_toArray, List.nil_append, List.cons_append]
  gi_wp2_with (gi_at_call 59; refine (movements_in F (n - 1) h59 hro _ _ _ _ _).mono ?_; rintro e w' ⟨rfl, rfl⟩)
  have bS := Boxed.new w 3 (.int .i64 0)
  have bN := Boxed.new (w.alloc (.cells #[.int .i64 0] 3)) 29 (.slice p j.length cap)
  have bA := Boxed.new ((w.alloc (.cells #[.int .i64 0] 3)).alloc (.cells #[.slice p j.length cap] 29)) 3 (.int .i64 a)
  simp only [World.size_alloc] at bN bA
  have hB0 : Below w.heap.size w (((w.alloc (.cells #[.int .i64 0] 3)).alloc (.cells #[.slice p j.length cap] 29)).alloc (.cells #[.int .i64 a] 3)) := (((Below.refl _ w).alloc (Nat.le_refl _) _).alloc (by simp) _).alloc (by simp; omega) _
  refine wpIn_rangeFunc_ownG hro h1 (gf := 83) (lb := #[.pointer (some ⟨w.heap.size + 1, 0, none⟩), .pointer (some ⟨w.heap.size + 1 + 1, 0, none⟩)]) rfl h83 (enters_of Tryz.func83 (by kernel_rfl) rfl)
    (mv_stops F (n - 1) h83 hro (by omega) (w.heap.size + 1) (w.heap.size + 1 + 1) w.heap.size (w.heap.size + 1) _ j a _ (bN.alloc _).cell bA.cell (by omega) (by simp) (by simp) (by simp; omega) (by simp) (hv'.below hB0)) Kp.trans (Kp.b (by simp; omega)) (Below.refl _ _) (fun _ => rfl)
    (fun pre W => (W.cell? ⟨w.heap.size, 0, none⟩ = some (.int .i64 (sub 0 pre)) ∧ W.frozen? ⟨w.heap.size, 0, none⟩ = false) ∧ Below w.heap.size w W)
    (fun _ _ _ => False)
    (OwnFrom.and (Own.from (fun s A B row hs hg hr => ⟨cell_kept hs.1 hg hr, (frozen_kept hs.1 hg hr).trans hs.2⟩) _) (ownFrom_below (Nat.le_refl _) (by simp; omega)))
    (fun _ _ _ _ _ hs _ _ => hs)
    ⟨⟨((bS.alloc _).alloc _).cell, ((bS.alloc _).alloc _).frozen⟩, hB0⟩
    (fun x => { tmps := #[.slice p j.length cap, .int .i64 a, undef, undef, .int .i64 0, .pointer (some ⟨w.heap.size, 0, none⟩), undef, .int .i64 x.2, .slice p j.length cap, .int .i64 a, .func (.func 83) #[] #[.pointer (some ⟨w.heap.size + 1, 0, none⟩), .pointer (some ⟨w.heap.size + 1 + 1, 0, none⟩)], .agg x.1.cells.toArray, .int .i64 x.2, undef, undef, undef, undef], defers := [] }) ?assign ?body ?done ?stop
  case assign =>
    intro l x W K hK
    simp only [encs]
    gi_wp2
    exact hK
  case body =>
    rintro l pre x W ⟨⟨hc, hf⟩, hB⟩ _
    gi_wp2
    exact ⟨(KeepsOthers.setCell _ _ _).from _, Kp.setCell (Nat.le_refl _) (Nat.lt_succ_self _) _, ⟨by rw [sub_snoc]; exact World.cell?_setCell_same' _ _ _ (by rw [hc]; rfl), by rw [World.frozen?_setCell]; exact hf⟩, hB.setCell (p := ⟨w.heap.size, 0, none⟩) (Nat.le_refl _) _⟩
  case done =>
    rintro D ys W hD rfl ⟨⟨hc, _⟩, hB⟩ hK
    gi_wp2
    refine ⟨by simp, .inl ⟨_, _, rfl, run_takeDeferred hK, ?_⟩⟩
    exact ⟨_, results_tmp rfl _ _ _, rfl, hB.trans (belowK_b (w := w) (Nat.le_refl _) W D _ _ (by simp at hD; omega) hK rfl rfl)⟩
  case stop =>
    rintro D c pre W _ _ h _
    exact h.elim

/-! ### balance.Turnover -/
def turnStep (f t : Int) (s : Int × Int) (x : E × Int) : Int × Int := if x.1.Booked < f ∨ t < x.1.Booked then s else if 0 < x.2 then (wrap64 (s.1 + x.2), s.2) else (s.1, wrap64 (s.2 - x.2))
def turn (f t : Int) (l : List (E × Int)) : Int × Int := l.foldl (turnStep f t) (0, 0)
theorem turn_snoc (f t : Int) (l : List (E × Int)) (x : E × Int) : turn f t (l ++ [x]) = turnStep f t (turn f t l) x := by simp [turn]
/-- A box of an entry. -/
def BoxE (W : World) (B : Nat) (e : E) : Prop := W.heap[B]? = some (.cells e.cells.toArray 61 (0, 0))
theorem BoxE.lt {W : World} {B : Nat} {e : E} (h : BoxE W B e) : B < W.heap.size := (Array.getElem?_eq_some_iff.1 h).1
theorem BoxE.cell {W : World} {B : Nat} {e : E} (h : BoxE W B e) (i : Nat) (hi : i < 10) : W.cell? ⟨B, i, none⟩ = some (e.cells[i]'hi) := by
  simp only [World.cell?, show W.heap[B]? = _ from h]
  match i, hi with
  | 0, _ | 1, _ | 2, _ | 3, _ | 4, _ | 5, _ | 6, _ | 7, _ | 8, _ | 9, _ => rfl
theorem BoxE.own {β : Type} (B : Nat) (e : β → E) : Own (fun s W => BoxE W B (e s)) := fun s X Y row hs hg hrow =>
  (hg.block B hs.lt (fun e' => by obtain ⟨o, ho, hc⟩ := hrow B e'.symm; rw [show X.heap[B]? = _ from hs] at ho; cases ho; cases hc)).trans hs

set_option maxRecDepth 100000 in
set_option maxHeartbeats 4000000 in
theorem Turnover_in (F : Fence) (n : Nat) (h29 : F.fn 29) (h59 : F.fn 59) (h83 : F.fn 83) (hro : F.round = none) (hn : 3 ≤ n) (v : Value) (j : J) (a f t : Int) (w : World) (hv : At w.heap.size w v j) :
    CallsIn F n Tryz.prog 29 #[v, .int .i64 a, .int .i64 f, .int .i64 t] w fun e W' => e = .returned (.tuple #[.int .i64 (turn f t (all a j)).1, .int .i64 (turn f t (all a j)).2]) ∧ Below w.heap.size w W' := by
  have h1 : 1 ≤ n := by omega
  have hv' := hv
  obtain ⟨p, cap, rfl, hjl, hv⟩ := hv
  refine callsIn_of_wp_marks Tryz.func29 rfl h29 ?_ hro
  simp only [Tryz.ntmps29, List.size_toArray, List.length_cons, List.length_nil, Nat.reduceAdd, Nat.reduceSub, Array.replicate_succ, Array.replicate_zero, List.push_toArray, List.append_toArray, List.nil_append, List.cons_append]
  gi_wp2_with (gi_at_call 59; refine (movements_in F (n - 1) h59 hro _ _ _ _ _).mono ?_; rintro e w' ⟨rfl, rfl⟩)
  have hB0 : Below w.heap.size w ((((((w.alloc (.cells #[.int .i64 f] 3)).alloc (.cells #[.int .i64 t] 3)).alloc (.cells #[.int .i64 0] 3)).alloc (.cells #[.int .i64 0] 3)).alloc (.cells #[.slice p j.length cap] 29)).alloc (.cells #[.int .i64 a] 3)) := by
    exact ((((((Below.refl _ w).alloc (Nat.le_refl _) _).alloc (by simp) _).alloc (by simp; omega) _).alloc (by simp; omega) _).alloc (by simp; omega) _).alloc (by simp; omega) _
  have bF := ((((Boxed.new w 3 (.int .i64 f)).alloc (.cells #[.int .i64 t] 3)).alloc (.cells #[.int .i64 0] 3)).alloc (.cells #[.int .i64 0] 3)).alloc (.cells #[.slice p j.length cap] 29) |>.alloc (.cells #[.int .i64 a] 3)
  have bT := (((Boxed.new (w.alloc (.cells #[.int .i64 f] 3)) 3 (.int .i64 t)).alloc (.cells #[.int .i64 0] 3)).alloc (.cells #[.int .i64 0] 3)).alloc (.cells #[.slice p j.length cap] 29) |>.alloc (.cells #[.int .i64 a] 3)
  have bD := ((Boxed.new ((w.alloc (.cells #[.int .i64 f] 3)).alloc (.cells #[.int .i64 t] 3)) 3 (.int .i64 0)).alloc (.cells #[.int .i64 0] 3)).alloc (.cells #[.slice p j.length cap] 29) |>.alloc (.cells #[.int .i64 a] 3)
  have bC := ((Boxed.new (((w.alloc (.cells #[.int .i64 f] 3)).alloc (.cells #[.int .i64 t] 3)).alloc (.cells #[.int .i64 0] 3)) 3 (.int .i64 0))).alloc (.cells #[.slice p j.length cap] 29) |>.alloc (.cells #[.int .i64 a] 3)
  have bJ := (Boxed.new ((((w.alloc (.cells #[.int .i64 f] 3)).alloc (.cells #[.int .i64 t] 3)).alloc (.cells #[.int .i64 0] 3)).alloc (.cells #[.int .i64 0] 3)) 29 (.slice p j.length cap)).alloc (.cells #[.int .i64 a] 3)
  have bA := Boxed.new (((((w.alloc (.cells #[.int .i64 f] 3)).alloc (.cells #[.int .i64 t] 3)).alloc (.cells #[.int .i64 0] 3)).alloc (.cells #[.int .i64 0] 3)).alloc (.cells #[.slice p j.length cap] 29)) 3 (.int .i64 a)
  simp only [World.size_alloc] at bF bT bD bC bJ bA ⊢
  have hsz : ((((((w.alloc (.cells #[.int .i64 f] 3)).alloc (.cells #[.int .i64 t] 3)).alloc (.cells #[.int .i64 0] 3)).alloc (.cells #[.int .i64 0] 3)).alloc (.cells #[.slice p j.length cap] 29)).alloc (.cells #[.int .i64 a] 3)).heap.size = w.heap.size + 6 := by simp
  obtain ⟨W0, hW0⟩ : ∃ W0, ((((((w.alloc (.cells #[.int .i64 f] 3)).alloc (.cells #[.int .i64 t] 3)).alloc (.cells #[.int .i64 0] 3)).alloc (.cells #[.int .i64 0] 3)).alloc (.cells #[.slice p j.length cap] 29)).alloc (.cells #[.int .i64 a] 3)) = W0 := ⟨_, rfl⟩
  rw [hW0] at bF bT bD bC bJ bA hB0 hsz ⊢
  clear hW0
  refine wpIn_rangeFunc_ownH hro h1 (gf := 83) (lb := #[.pointer (some ⟨w.heap.size + 1 + 1 + 1 + 1, 0, none⟩), .pointer (some ⟨w.heap.size + 1 + 1 + 1 + 1 + 1, 0, none⟩)]) rfl h83 (enters_of Tryz.func83 (by kernel_rfl) rfl)
    (mv_stops F (n - 1) h83 hro (by omega) (w.heap.size + 1 + 1 + 1 + 1) (w.heap.size + 1 + 1 + 1 + 1 + 1) w.heap.size (w.heap.size + 4) _ j a W0 bJ.cell bA.cell (by omega) (by omega) (by omega) (by omega) (by omega) (hv'.below hB0)) Kp.trans (Kp.b (by omega)) (Below.refl _ _) (fun _ => rfl)
    (fun pre W => ((Boxed W w.heap.size 3 (.int .i64 f) ∧ Boxed W (w.heap.size + 1) 3 (.int .i64 t)) ∧ (Boxed W (w.heap.size + 1 + 1) 3 (.int .i64 (turn f t pre).1) ∧ Boxed W (w.heap.size + 1 + 1 + 1) 3 (.int .i64 (turn f t pre).2))) ∧ Below w.heap.size w W)
    (fun _ _ _ => False)
    (OwnFrom.and (OwnFrom.and (OwnFrom.and (Own.from (boxed_own _ _ _) _) (Own.from (boxed_own _ _ _) _)) (OwnFrom.and (Own.from (boxed_own _ _ (fun pre => .int .i64 (turn f t pre).1)) _) (Own.from (boxed_own _ _ (fun pre => .int .i64 (turn f t pre).2)) _))) (ownFrom_below (by omega) (by omega)))
    (fun _ _ _ _ _ hs _ _ => hs)
    ⟨⟨⟨bF, bT⟩, ⟨bD, bC⟩⟩, hB0⟩
    (fun x a' W => ∃ Bx, BoxE W Bx x.1 ∧ a' = { tmps := #[Value.slice p (List.length j) cap, Value.int IntKind.i64 a, Value.int IntKind.i64 f, Value.int IntKind.i64 t, undef, undef, Value.pointer (some { block := w.heap.size, off := 0 }), Value.pointer (some { block := w.heap.size + 1, off := 0 }), Value.int IntKind.i64 0, Value.int IntKind.i64 0, Value.pointer (some { block := w.heap.size + 1 + 1, off := 0 }), Value.pointer (some { block := w.heap.size + 1 + 1 + 1, off := 0 }), .pointer (some ⟨Bx, 0, none⟩), .int .i64 x.2, Value.slice p (List.length j) cap, Value.int IntKind.i64 a, Value.func (Fn.func 83) #[] #[Value.pointer (some { block := w.heap.size + 1 + 1 + 1 + 1, off := 0 }), Value.pointer (some { block := w.heap.size + 1 + 1 + 1 + 1 + 1, off := 0 })], .agg x.1.cells.toArray, .int .i64 x.2, undef, undef, undef, undef, undef, undef, undef, undef, undef, undef, undef, undef, undef, undef, undef, undef, undef, undef, undef, undef, undef, undef], defers := [] })
    (fun x a' s A B row hs hg hr => by obtain ⟨Bx, h1, h2⟩ := hs; exact ⟨Bx, BoxE.own Bx (fun _ : Unit => x.1) () A B row h1 hg (fun r e => (hr r e).2), h2⟩) ?assign ?body ?done ?stop
  case assign =>
    rintro l pre x W K ⟨⟨⟨b0, b1⟩, ⟨b2, b3⟩⟩, hB⟩ hK
    simp only [encs, E.cells, E.Legs] at hK ⊢
    gi_wp2
    exact hK _ _ ((KeepsOthers.alloc _ _).from _) (Kp.alloc (by have := hB.size; omega) _) ⟨⟨⟨b0.alloc _, b1.alloc _⟩, ⟨b2.alloc _, b3.alloc _⟩⟩, hB.alloc (by have := hB.size; omega) _⟩ ⟨W.heap.size, World.alloc_heap_new W _, rfl⟩
  case body =>
    rintro l pre x a' W hl ⟨r, hr⟩ ⟨⟨⟨b0, b1⟩, ⟨b2, b3⟩⟩, hB⟩ ⟨Bx, hbx, rfl⟩ hlt
    have c1 := hbx.cell 1 (by omega)
    simp only [E.cells, List.getElem_cons_succ, List.getElem_cons_zero] at c1
    have c2 := b0.cell
    have c3 := b1.cell
    have c4 := b2.cell
    have c5 := b3.cell
    have f4 := b2.frozen
    have f5 := b3.frozen
    gi_wp2
    · have e : turn f t (pre ++ [x]) = turn f t pre := by rw [turn_snoc, turnStep, if_pos (by assumption)]
      exact ⟨KeepsFrom.refl _ _, Kp.refl _, ⟨⟨b0, b1⟩, by rw [e]; exact ⟨b2, b3⟩⟩, hB⟩
    · have e : turn f t (pre ++ [x]) = (wrap64 ((turn f t pre).1 + x.2), (turn f t pre).2) := by rw [turn_snoc, turnStep, if_neg (by omega), if_pos (by assumption)]
      exact ⟨(KeepsOthers.setCell _ _ _).from _, Kp.setCell (by omega) (by omega) _, ⟨⟨b0.other (by omega) _, b1.other (by omega) _⟩, by rw [e]; exact ⟨b2.set _, b3.other (by omega) _⟩⟩, hB.setCell (p := ⟨w.heap.size + 1 + 1, 0, none⟩) (by show _ ≤ w.heap.size + 1 + 1; omega) _⟩
    · have e : turn f t (pre ++ [x]) = ((turn f t pre).1, wrap64 ((turn f t pre).2 - x.2)) := by rw [turn_snoc, turnStep, if_neg (by omega), if_neg (by omega)]
      exact ⟨(KeepsOthers.setCell _ _ _).from _, Kp.setCell (by omega) (by omega) _, ⟨⟨b0.other (by omega) _, b1.other (by omega) _⟩, by rw [e]; exact ⟨b2.other (by omega) _, b3.set _⟩⟩, hB.setCell (p := ⟨w.heap.size + 1 + 1 + 1, 0, none⟩) (by show _ ≤ w.heap.size + 1 + 1 + 1; omega) _⟩
    · have e : turn f t (pre ++ [x]) = turn f t pre := by rw [turn_snoc, turnStep, if_pos (.inl (by assumption))]
      exact ⟨KeepsFrom.refl _ _, Kp.refl _, ⟨⟨b0, b1⟩, by rw [e]; exact ⟨b2, b3⟩⟩, hB⟩
  case done =>
    rintro D ys W hD rfl ⟨⟨⟨b0, b1⟩, ⟨b2, b3⟩⟩, hB⟩ hK
    have c4 := b2.cell
    have c5 := b3.cell
    gi_wp2
    gi_region
    all_goals gi_wp2
    all_goals
      refine ⟨by simp, .inl ⟨_, _, rfl, run_takeDeferred (by exact hK), ?_⟩⟩
      exact ⟨_, results_tmp2 rfl _ _ _, rfl, (hB.drew).trans (belowK_b (w := w) (Nat.le_refl _) W.drew D _ _ (by omega) hK rfl rfl)⟩
  case stop =>
    rintro D c pre W _ _ h _
    exact h.elim

/-! ### balance.Daily -/
def valid (d : Int) : Bool := decide (0 ≤ d) && decide (d ≤ 73048)
theorem Valid_in (F : Fence) (n : Nat) (h23 : F.fn 23) (hro : F.round = none) (d : Int) (w : World) :
    CallsIn F n Tryz.prog 23 #[.int .i64 d] w fun e w' => e = .returned (.bool (valid d)) ∧ w' = w := by
  refine callsIn_of_wp Tryz.func23 rfl h23 ?_ hro
  simp only [Tryz.ntmps23, List.size_toArray, List.length_cons, List.length_nil, Nat.reduceAdd, Nat.reduceSub, Array.replicate_succ, Array.replicate_zero, List.push_toArray, List.append_toArray, List.nil_append, List.cons_append]
  gi_wp2
  · have h : 0 ≤ d := by assumption
    go_ret
    simp [valid, h]
  · have h : d < 0 := by assumption
    go_ret
    simp [valid, show ¬ (0 ≤ d) by omega]

theorem make_ints (W : World) (L : Nat) (hL : L ≤ 4000) : (Instr.makeSlice 62 (.int .i64 L) (.int .i64 L)).run Tryz.prog W = .ok (.slice (some ⟨W.heap.size, 0, none⟩) L L) (W.alloc (.cells ((List.replicate L (0 : Int)).map (Value.int .i64)).toArray 3)) := by
  have hi : (Tryz.prog.info? 3).map (fun i => (i.zero, i.size, i.bytes)) = some (some (.int .i64 0), 1, 8) := by kernel_rfl
  obtain ⟨i, h0, h1, h2, h3⟩ := info_parts hi
  have := run_makeSlice (P := Tryz.prog) W 62 3 i (.int .i64 0) (by kernel_rfl) h0 h1 .i64 .i64 L L (by omega) (Int.le_refl _) (by rw [h2]; omega) (by rw [h3]; omega) (by omega)
  have e : madeCells (Value.int .i64 0).cells (L * 1) = ((List.replicate L (0 : Int)).map (Value.int .i64)).toArray := by
    rw [madeCells]
    simp [Value.cells]
    apply Array.ext
    · simp
    · intro k h1 h2
      simp [Nat.mod_one]
  rw [this, Int.toNat_natCast, h2, e]

/-- A row of numbers. -/
def RowI (W : World) (B : Nat) (l : List Int) : Prop := W.heap[B]? = some (.cells (l.map (Value.int .i64)).toArray 3 (0, 0))
theorem RowI.lt {W : World} {B : Nat} {l : List Int} (h : RowI W B l) : B < W.heap.size := (Array.getElem?_eq_some_iff.1 h).1
theorem RowI.cell {W : World} {B : Nat} {l : List Int} (h : RowI W B l) (i : Nat) (hi : i < l.length) : W.cell? ⟨B, i, none⟩ = some (.int .i64 l[i]) := by
  simp [World.cell?, show W.heap[B]? = _ from h, hi]
theorem RowI.frozen {W : World} {B : Nat} {l : List Int} (h : RowI W B l) (i : Nat) : W.frozen? ⟨B, i, none⟩ = false := by
  simp [World.frozen?, show W.heap[B]? = _ from h]
theorem RowI.own {β : Type} (B : Nat) (f : β → List Int) : Own (fun s W => RowI W B (f s)) := fun s X Y row hs hg hrow =>
  (hg.block B hs.lt (fun e' => by obtain ⟨o, ho, hc⟩ := hrow B e'.symm; rw [show X.heap[B]? = _ from hs] at ho; cases ho; cases hc)).trans hs
theorem RowI.alloc {W : World} {B : Nat} {l : List Int} (h : RowI W B l) (o : Obj) : RowI (W.alloc o) B l := (Below.heap_alloc _ _ _ h.lt).trans h
theorem RowI.other {W : World} {B B' : Nat} {l : List Int} (h : RowI W B l) (hne : B ≠ B') (u : Value) : RowI (W.setCell ⟨B', 0, none⟩ u) B l := (Below.heap_setCell _ _ _ _ hne).trans h
theorem RowI.set {W : World} {B : Nat} {l : List Int} (h : RowI W B l) (i : Nat) (u : Int) : RowI (W.setCell ⟨B, i, none⟩ (.int .i64 u)) B (l.set i u) := by
  obtain ⟨hlt, hk⟩ := Array.getElem?_eq_some_iff.1 h
  show (W.heap.modify B _)[B]? = _
  rw [Array.getElem?_eq_getElem (by rw [Array.size_modify]; exact hlt), Array.getElem_modify_self, hk]
  simp [List.map_set]

def dayStep (f t : Int) (l : List Int) (x : E × Int) : List Int := if x.1.Val ≤ t then l.set (max f x.1.Val - f).toNat (wrap64 (l.getD (max f x.1.Val - f).toNat 0 - x.2)) else l
def days (f t : Int) (L : Nat) (xs : List (E × Int)) : List Int := xs.foldl (dayStep f t) (List.replicate L 0)
def psum (l : List Int) (k : Nat) : List Int := l.set k (wrap64 (l[k]! + l[k - 1]!))
def psums (l : List Int) : Nat → List Int
  | 0 => l
  | 1 => l
  | k + 2 => psum (psums l (k + 1)) (k + 1)
theorem psums_length (l : List Int) : ∀ k, (psums l k).length = l.length
  | 0 => rfl
  | 1 => rfl
  | k + 2 => by rw [psums, psum, List.length_set, psums_length l (k + 1)]
theorem days_snoc (f t : Int) (L : Nat) (xs : List (E × Int)) (x : E × Int) : days f t L (xs ++ [x]) = dayStep f t (days f t L xs) x := by simp [days]
theorem days_length (f t : Int) (L : Nat) (xs : List (E × Int)) : (days f t L xs).length = L := by
  have key : ∀ (xs : List (E × Int)) (l : List Int), (xs.foldl (dayStep f t) l).length = l.length := by
    intro xs
    induction xs with
    | nil => intro l; rfl
    | cons x xs ih =>
      intro l
      rw [List.foldl_cons, ih, dayStep]
      split <;> simp
  rw [days, key]
  simp

set_option maxRecDepth 100000 in
set_option maxHeartbeats 4000000 in
theorem Daily_in (n : Nat) (hn : 3 ≤ n) (v : Value) (j : J) (a f : Int) (L : Nat) (hL1 : 1 ≤ L) (hL2 : L ≤ 4000) (hf : valid f = true) (ht : valid (f + L - 1) = true) (w : World) (hv : At w.heap.size w v j) :
    CallsIn Fence.wide n Tryz.prog 27 #[v, .int .i64 a, .int .i64 f, .int .i64 (f + L - 1)] w fun e W' => ∃ B, e = .returned (.slice (some ⟨B, 0, none⟩) L L) ∧ w.heap.size ≤ B ∧ RowI W' B (psums (days f (f + L - 1) L (all a j)) L) ∧ Below w.heap.size w W' := by
  have h1 : 1 ≤ n := by omega
  have h27 : Fence.wide.fn 27 := trivial
  have h23 : Fence.wide.fn 23 := trivial
  have h59 : Fence.wide.fn 59 := trivial
  have h83 : Fence.wide.fn 83 := trivial
  have hro : Fence.wide.round = none := rfl
  have hv' := hv
  obtain ⟨p, cap, rfl, hjl, hv⟩ := hv
  have hf1 : 0 ≤ f ∧ f ≤ 73048 := by simpa [valid] using hf
  have ht1 : 0 ≤ f + (L : Int) - 1 ∧ f + (L : Int) - 1 ≤ 73048 := by simpa [valid] using ht
  have hft : f ≤ f + (L : Int) - 1 := by omega
  have hd : f + (L : Int) - 1 - f < 4000 := by omega
  have hlt : ¬ (f + L - 1 < f) := by omega
  have hw1 : wrap64 (f + L - 1 - f) = L - 1 := by unfold wrap64; omega
  have hw2 : wrap64 ((L : Int) - 1 + 1) = L := by unfold wrap64; omega
  have hmk : ∀ W : World, (Instr.makeSlice 62 (.int .i64 (f + L - 1 - f + 1)) (.int .i64 (f + L - 1 - f + 1))).run Tryz.prog W = .ok (.slice (some ⟨W.heap.size, 0, none⟩) L L) (W.alloc (.cells ((List.replicate L (0 : Int)).map (Value.int .i64)).toArray 3)) := fun W => by
    rw [show f + (L : Int) - 1 - f + 1 = (L : Nat) by omega]
    exact make_ints W L hL2
  refine callsIn_of_wp_marks Tryz.func27 rfl h27 ?_ hro
  simp only [Tryz.ntmps27, List.size_toArray, List.length_cons, List.length_nil, Nat.reduceAdd, Nat.reduceSub, Array.replicate_succ, Array.replicate_zero, List.push_toArray, List.append_toArray, List.nil_append, List.cons_append]
  gi_wp2_with (first | (gi_at_call 59; refine (movements_in Fence.wide (n - 1) h59 hro _ _ _ _ _).mono ?_; rintro e w' ⟨rfl, rfl⟩) | (gi_at_call 23; refine (Valid_in Fence.wide (n - 1) h23 hro _ _).mono ?_; rintro e w' ⟨rfl, rfl⟩; rw [hf]) | (gi_at_call 23; refine (Valid_in Fence.wide (n - 1) h23 hro _ _).mono ?_; rintro e w' ⟨rfl, rfl⟩; rw [ht]))
  have hB0 : Below w.heap.size w ((((((w.alloc (.cells #[.int .i64 f] 3)).alloc (.cells #[.int .i64 (f + ↑L - 1)] 3)).alloc (.cells (Array.replicate L (.int .i64 0)) 3)).alloc (.cells #[.slice (some ⟨w.heap.size + 1 + 1, 0, none⟩) L L] 62)).alloc (.cells #[.slice p j.length cap] 29)).alloc (.cells #[.int .i64 a] 3)) := by
    exact ((((((Below.refl _ w).alloc (Nat.le_refl _) _).alloc (by simp) _).alloc (by simp; omega) _).alloc (by simp; omega) _).alloc (by simp; omega) _).alloc (by simp; omega) _
  have bF := ((((Boxed.new w 3 (.int .i64 f)).alloc (.cells #[.int .i64 (f + ↑L - 1)] 3)).alloc (.cells (Array.replicate L (.int .i64 0)) 3)).alloc (.cells #[.slice (some ⟨w.heap.size + 1 + 1, 0, none⟩) L L] 62)).alloc (.cells #[.slice p j.length cap] 29) |>.alloc (.cells #[.int .i64 a] 3)
  have bT := (((Boxed.new (w.alloc (.cells #[.int .i64 f] 3)) 3 (.int .i64 (f + ↑L - 1))).alloc (.cells (Array.replicate L (.int .i64 0)) 3)).alloc (.cells #[.slice (some ⟨w.heap.size + 1 + 1, 0, none⟩) L L] 62)).alloc (.cells #[.slice p j.length cap] 29) |>.alloc (.cells #[.int .i64 a] 3)
  have bR : RowI ((((((w.alloc (.cells #[.int .i64 f] 3)).alloc (.cells #[.int .i64 (f + ↑L - 1)] 3)).alloc (.cells (Array.replicate L (.int .i64 0)) 3)).alloc (.cells #[.slice (some ⟨w.heap.size + 1 + 1, 0, none⟩) L L] 62)).alloc (.cells #[.slice p j.length cap] 29)).alloc (.cells #[.int .i64 a] 3)) (w.heap.size + 1 + 1) (List.replicate L 0) := by
    refine RowI.alloc (RowI.alloc (RowI.alloc ?_ _) _) _
    unfold RowI
    rw [List.map_replicate, List.toArray_replicate]
    simpa using World.alloc_heap_new ((w.alloc (.cells #[.int .i64 f] 3)).alloc (.cells #[.int .i64 (f + ↑L - 1)] 3)) (.cells (Array.replicate L (.int .i64 0)) 3)
  have bO := ((Boxed.new (((w.alloc (.cells #[.int .i64 f] 3)).alloc (.cells #[.int .i64 (f + ↑L - 1)] 3)).alloc (.cells (Array.replicate L (.int .i64 0)) 3)) 62 (.slice (some ⟨w.heap.size + 1 + 1, 0, none⟩) L L))).alloc (.cells #[.slice p j.length cap] 29) |>.alloc (.cells #[.int .i64 a] 3)
  have bJ := (Boxed.new ((((w.alloc (.cells #[.int .i64 f] 3)).alloc (.cells #[.int .i64 (f + ↑L - 1)] 3)).alloc (.cells (Array.replicate L (.int .i64 0)) 3)).alloc (.cells #[.slice (some ⟨w.heap.size + 1 + 1, 0, none⟩) L L] 62)) 29 (.slice p j.length cap)).alloc (.cells #[.int .i64 a] 3)
  have bA := Boxed.new (((((w.alloc (.cells #[.int .i64 f] 3)).alloc (.cells #[.int .i64 (f + ↑L - 1)] 3)).alloc (.cells (Array.replicate L (.int .i64 0)) 3)).alloc (.cells #[.slice (some ⟨w.heap.size + 1 + 1, 0, none⟩) L L] 62)).alloc (.cells #[.slice p j.length cap] 29)) 3 (.int .i64 a)
  simp only [World.size_alloc] at bF bT bO bJ bA ⊢
  have hsz : (((((((w.alloc (.cells #[.int .i64 f] 3)).alloc (.cells #[.int .i64 (f + ↑L - 1)] 3)).alloc (.cells (Array.replicate L (.int .i64 0)) 3)).alloc (.cells #[.slice (some ⟨w.heap.size + 1 + 1, 0, none⟩) L L] 62)).alloc (.cells #[.slice p j.length cap] 29)).alloc (.cells #[.int .i64 a] 3))).heap.size = w.heap.size + 6 := by simp
  obtain ⟨W0, hW0⟩ : ∃ W0, ((((((w.alloc (.cells #[.int .i64 f] 3)).alloc (.cells #[.int .i64 (f + ↑L - 1)] 3)).alloc (.cells (Array.replicate L (.int .i64 0)) 3)).alloc (.cells #[.slice (some ⟨w.heap.size + 1 + 1, 0, none⟩) L L] 62)).alloc (.cells #[.slice p j.length cap] 29)).alloc (.cells #[.int .i64 a] 3)) = W0 := ⟨_, rfl⟩
  rw [hW0] at bF bT bR bO bJ bA hB0 hsz ⊢
  clear hW0 hmk hw1 hw2
  refine wpIn_rangeFunc_ownH hro h1 (gf := 83) (lb := #[.pointer (some ⟨w.heap.size + 1 + 1 + 1 + 1, 0, none⟩), .pointer (some ⟨w.heap.size + 1 + 1 + 1 + 1 + 1, 0, none⟩)]) rfl h83 (enters_of Tryz.func83 (by kernel_rfl) rfl)
    (mv_stops Fence.wide (n - 1) h83 hro (by omega) (w.heap.size + 1 + 1 + 1 + 1) (w.heap.size + 1 + 1 + 1 + 1 + 1) w.heap.size (w.heap.size + 4) _ j a W0 bJ.cell bA.cell (by omega) (by omega) (by omega) (by omega) (by omega) (hv'.below hB0)) Kp.trans (Kp.b (by omega)) (Below.refl _ _) (fun _ => rfl)
    (fun pre W => ((Boxed W w.heap.size 3 (.int .i64 f) ∧ Boxed W (w.heap.size + 1) 3 (.int .i64 (f + ↑L - 1))) ∧ (Boxed W (w.heap.size + 1 + 1 + 1) 62 (.slice (some ⟨w.heap.size + 1 + 1, 0, none⟩) L L) ∧ RowI W (w.heap.size + 1 + 1) (days f (f + ↑L - 1) L pre))) ∧ Below w.heap.size w W)
    (fun _ _ _ => False)
    (OwnFrom.and (OwnFrom.and (OwnFrom.and (Own.from (boxed_own _ _ _) _) (Own.from (boxed_own _ _ _) _)) (OwnFrom.and (Own.from (boxed_own _ _ _) _) (Own.from (RowI.own _ _) _))) (ownFrom_below (by omega) (by omega)))
    (fun _ _ _ _ _ hs _ _ => hs)
    ⟨⟨⟨bF, bT⟩, ⟨bO, bR⟩⟩, hB0⟩
    (fun x a' W => ∃ Bx, BoxE W Bx x.1 ∧ a' = { tmps := #[Value.slice p (List.length j) cap, Value.int IntKind.i64 a, Value.int IntKind.i64 f, Value.int IntKind.i64 (f + ↑L - 1), undef, undef, Value.pointer (some { block := w.heap.size, off := 0 }), Value.pointer (some { block := w.heap.size + 1, off := 0 }), Value.slice none 0 0, Value.pointer (some { block := w.heap.size + 1 + 1 + 1, off := 0 }), .pointer (some ⟨Bx, 0, none⟩), .int .i64 x.2, undef, Value.int IntKind.i64 f, Value.bool true, Value.bool false, Value.bool false, Value.int IntKind.i64 (f + ↑L - 1), Value.bool true, Value.bool false, Value.bool false, Value.bool false, Value.int IntKind.i64 f, Value.int IntKind.i64 (f + ↑L - 1), Value.bool (decide (f + ↑L - 1 < f)), Value.bool (decide (f + ↑L - 1 < f)), Value.bool (decide (f + ↑L - 1 < f)), Value.int IntKind.i64 (f + ↑L - 1), Value.int IntKind.i64 f, Value.int IntKind.i64 (f + ↑L - 1 - f), Value.bool (decide (4000 ≤ f + ↑L - 1 - f)), Value.bool (decide (f + ↑L - 1 < f) || decide (4000 ≤ f + ↑L - 1 - f)), Value.int IntKind.i64 (f + ↑L - 1), Value.int IntKind.i64 f, Value.int IntKind.i64 (f + ↑L - 1 - f), Value.int IntKind.i64 (f + ↑L - 1 - f + 1), Value.slice (some { block := w.heap.size + 1 + 1, off := 0 }) L L, Value.slice p (List.length j) cap, Value.int IntKind.i64 a, Value.func (Fn.func 83) #[] #[Value.pointer (some { block := w.heap.size + 1 + 1 + 1 + 1, off := 0 }), Value.pointer (some { block := w.heap.size + 1 + 1 + 1 + 1 + 1, off := 0 })], .agg x.1.cells.toArray, .int .i64 x.2, undef, undef, undef, undef, undef, undef, undef, undef, undef, undef, undef, undef, undef, undef, undef, undef, undef, undef, undef, undef, undef, undef, undef, undef, undef, undef, undef, undef, undef, undef, undef, undef, undef, undef], defers := [] })
    (fun x a' s A B row hs hg hr => by obtain ⟨Bx, h1, h2⟩ := hs; exact ⟨Bx, BoxE.own Bx (fun _ : Unit => x.1) () A B row h1 hg (fun r e => (hr r e).2), h2⟩) ?assign ?body ?done ?stop
  case assign =>
    rintro l pre x W K ⟨⟨⟨b0, b1⟩, ⟨b2, b3⟩⟩, hB⟩ hK
    simp only [encs, E.cells, E.Legs] at hK ⊢
    gi_wp2
    exact hK _ _ ((KeepsOthers.alloc _ _).from _) (Kp.alloc (by have := hB.size; omega) _) ⟨⟨⟨b0.alloc _, b1.alloc _⟩, ⟨b2.alloc _, b3.alloc _⟩⟩, hB.alloc (by have := hB.size; omega) _⟩ ⟨W.heap.size, World.alloc_heap_new W _, rfl⟩
  case body =>
    rintro l pre x a' W hl ⟨r, hr⟩ ⟨⟨⟨b0, b1⟩, ⟨b2, b3⟩⟩, hB⟩ ⟨Bx, hbx, rfl⟩ hlt
    have c1 := hbx.cell 2 (by omega)
    simp only [E.cells, List.getElem_cons_succ, List.getElem_cons_zero] at c1
    have c2 := b0.cell
    have c3 := b1.cell
    have c4 := b2.cell
    have hlen := days_length f (f + ↑L - 1) L pre
    have go : ∀ k : Nat, k < L → max f x.1.Val - f = k → x.1.Val ≤ f + ↑L - 1 → ∀ W', W' = W.setCell ⟨w.heap.size + 1 + 1, k, none⟩ (.int .i64 (wrap64 ((days f (f + ↑L - 1) L pre)[k]! - x.2))) →
        KeepsFrom W0.heap.size W W' ∧ Kp w.heap.size (w.heap.size + 4) W W' ∧ ((Boxed W' w.heap.size 3 (.int .i64 f) ∧ Boxed W' (w.heap.size + 1) 3 (.int .i64 (f + ↑L - 1))) ∧ (Boxed W' (w.heap.size + 1 + 1 + 1) 62 (.slice (some ⟨w.heap.size + 1 + 1, 0, none⟩) L L) ∧ RowI W' (w.heap.size + 1 + 1) (days f (f + ↑L - 1) L (pre ++ [x])))) ∧ Below w.heap.size w W' := by
      rintro k hk hm hv W' rfl
      have hb : ∀ {B t v}, Boxed W B t v → B ≠ w.heap.size + 1 + 1 → Boxed (W.setCell ⟨w.heap.size + 1 + 1, k, none⟩ (.int .i64 (wrap64 ((days f (f + ↑L - 1) L pre)[k]! - x.2)))) B t v := fun h hne => (Below.heap_setCell _ _ _ _ hne).trans h
      refine ⟨(KeepsOthers.setCell _ _ _).from _, Kp.setCell (by omega) (by omega) _, ⟨⟨hb b0 (by omega), hb b1 (by omega)⟩, hb b2 (by omega), ?_⟩, hB.setCell (p := ⟨w.heap.size + 1 + 1, k, none⟩) (by show _ ≤ w.heap.size + 1 + 1; omega) _⟩
      rw [days_snoc, dayStep, if_pos hv, hm, Int.toNat_natCast]
      have e : (days f (f + ↑L - 1) L pre).getD k 0 = (days f (f + ↑L - 1) L pre)[k]! := by
        have : k < (days f (f + ↑L - 1) L pre).length := by omega
        simp [List.getD, this]
      rw [e]
      exact b3.set k _
    by_cases hc : x.1.Val ≤ f + ↑L - 1
    · by_cases hx : f < x.1.Val
      · have hk : (x.1.Val - f).toNat < L := by omega
        have c5 := b3.cell (x.1.Val - f).toNat (by omega)
        have f5 := b3.frozen (x.1.Val - f).toNat
        have e5 : (days f (f + ↑L - 1) L pre)[(x.1.Val - f).toNat]! = (days f (f + ↑L - 1) L pre)[(x.1.Val - f).toNat]'(by omega) := by
          rw [getElem!_pos _ _ (by omega)]
        have := go _ hk (by omega) hc _ rfl
        rw [e5] at this
        clear go e5
        gi_wp2
        first | exact this | (rw [hsz] at this; exact this)
      · have c5 := b3.cell 0 (by omega)
        have f5 := b3.frozen 0
        have e5 : (days f (f + ↑L - 1) L pre)[0]! = (days f (f + ↑L - 1) L pre)[0]'(by omega) := by
          rw [getElem!_pos _ _ (by omega)]
        have := go 0 (by omega) (by omega) hc _ rfl
        rw [e5] at this
        clear go e5
        gi_wp2
        first | exact this | (rw [hsz] at this; exact this)
    · have e : days f (f + ↑L - 1) L (pre ++ [x]) = days f (f + ↑L - 1) L pre := by rw [days_snoc, dayStep, if_neg hc]
      clear go
      gi_wp2
      exact ⟨KeepsFrom.refl _ _, Kp.refl _, ⟨⟨b0, b1⟩, b2, by rw [e]; exact b3⟩, hB⟩
  case done =>
    rintro D ys W hD rfl ⟨⟨⟨b0, b1⟩, ⟨b2, b3⟩⟩, hB⟩ hK
    have c4 := b2.cell
    have hlen := days_length f (f + ↑L - 1) L (all a j)
    obtain ⟨l0, hl0⟩ : ∃ l0, days f (f + ↑L - 1) L (all a j) = l0 := ⟨_, rfl⟩
    rw [hl0] at b3 hlen
    gi_wp2
    gi_loopw [12] (fun i wr => ∃ k : Nat, 1 ≤ k ∧ k ≤ L ∧ i = .int .i64 k ∧ Boxed wr (w.heap.size + 1 + 1 + 1) 62 (.slice (some ⟨w.heap.size + 1 + 1, 0, none⟩) L L) ∧ RowI wr (w.heap.size + 1 + 1) (psums l0 k) ∧ Below w.heap.size w wr ∧ wr.heap[D]? = some (.deferred (some [])))
      (fun i _ => L - (intOf i).toNat)
    case atStart => exact ⟨1, Nat.le_refl _, hL1, rfl, b2, b3, hB, hK⟩
    case round =>
      obtain ⟨k, hk1, hkL, rfl, r2, r3, rB, rK⟩ := hrel
      have hpl := psums_length l0 k
      have d4 := r2.cell
      by_cases hk : k < L
      · obtain ⟨z, hz⟩ : ∃ z : Int, (k : Int) - 1 = z := ⟨_, rfl⟩
        obtain ⟨m, hm⟩ : ∃ m : Nat, z.toNat = m := ⟨_, rfl⟩
        have hkm : k = m + 1 := by omega
        obtain ⟨x, hx⟩ : ∃ x, (psums l0 k)[k]'(by omega) = x := ⟨_, rfl⟩
        obtain ⟨y, hy⟩ : ∃ y, (psums l0 k)[m]'(by omega) = y := ⟨_, rfl⟩
        have d5 := r3.cell k (by omega)
        have d6 := r3.cell m (by omega)
        rw [hx] at d5
        rw [hy] at d6
        have g5 := r3.frozen k
        have q1 : (0 : Int) ≤ z := by omega
        have q2 : (k : Int) < (L : Int) := by omega
        have q5 : z < (L : Int) := by omega
        have q7 : wrap64 ((k : Int) - 1) = z := by unfold wrap64; omega
        have q9 : wrap64 z = z := by unfold wrap64; omega
        have q10 : IntKind.i64.wrap z = z := IntWalk.i64_in _ (by omega)
        have q8 : psums l0 (k + 1) = (psums l0 k).set k (wrap64 (x + y)) := by
          subst hx; subst hy; subst hkm
          rw [psums, psum, getElem!_pos _ _ (by omega), getElem!_pos _ _ (by omega)]
          rfl
        clear hx hy hkm hpl
        gi_wp2
        rw [wpIn_wide]
        go_still_tail 11, (by kernel_rfl)
        change wpList _ _ _ _ _ wr.drew
        have e3 : RowI wr.drew (w.heap.size + 1 + 1) (psums l0 k) := r3
        have e2 : Boxed wr.drew (w.heap.size + 1 + 1 + 1) 62 (.slice (some ⟨w.heap.size + 1 + 1, 0, none⟩) L L) := r2
        have eB : Below w.heap.size w wr.drew := rB.drew
        have eK : wr.drew.heap[D]? = some (.deferred (some [])) := rK
        have e5 : wr.drew.cell? ⟨w.heap.size + 1 + 1, k, none⟩ = some (.int .i64 x) := d5
        have eg : wr.drew.frozen? ⟨w.heap.size + 1 + 1, k, none⟩ = false := g5
        clear d4 d5 d6 g5 r2 r3 rB rK
        generalize wr.drew = w2 at e3 e2 eB eK e5 eg ⊢
        go_wp2
        gi_wp2
        refine ⟨⟨k + 1, by omega, by omega, by simp, (Below.heap_setCell _ _ _ _ (by show w.heap.size + 1 + 1 + 1 ≠ w.heap.size + 1 + 1; omega)).trans e2, by rw [q8]; exact e3.set k _, eB.setCell (p := ⟨w.heap.size + 1 + 1, k, none⟩) (by show _ ≤ w.heap.size + 1 + 1; omega) _, (Below.heap_setCell _ _ _ _ ?_).trans eK⟩, ?_⟩
        · show D ≠ w.heap.size + 1 + 1
          rintro rfl
          rw [show w2.heap[w.heap.size + 1 + 1]? = _ from e3] at eK
          cases eK
        · simp only [intOf]
          omega
      · obtain rfl : k = L := by omega
        gi_wp2
        refine ⟨by simp, .inl ⟨_, _, rfl, run_takeDeferred rK, ?_⟩⟩
        refine ⟨_, results_tmp rfl _ _ _, w.heap.size + 1 + 1, rfl, by omega, ?_, rB.trans (belowK_b (w := w) (Nat.le_refl _) wr D _ _ (by omega) rK rfl rfl)⟩
        rw [hl0]
        exact (grownBy_putObj' wr D _).block _ r3.lt (fun e => by
          have e' := Option.some.inj e
          rw [← e'] at rK
          rw [show wr.heap[w.heap.size + 1 + 1]? = _ from r3] at rK
          cases rK) |>.trans r3
  case stop =>
    rintro D c pre W _ _ h _
    exact h.elim

set_option maxRecDepth 100000 in
set_option maxHeartbeats 4000000 in
theorem Daily_nil (n : Nat) (hn : 1 ≤ n) (v : Value) (a f t : Int) (hbad : ¬ (valid f = true ∧ valid t = true ∧ f ≤ t ∧ t - f < 4000)) (w : World) :
    CallsIn Fence.wide n Tryz.prog 27 #[v, .int .i64 a, .int .i64 f, .int .i64 t] w fun e W' => e = .returned (.slice none 0 0) ∧ Below w.heap.size w W' := by
  have h23 : Fence.wide.fn 23 := trivial
  have hro : Fence.wide.round = none := rfl
  have hB0 : Below w.heap.size w ((w.alloc (.cells #[.int .i64 f] 3)).alloc (.cells #[.int .i64 t] 3)) := ((Below.refl _ w).alloc (Nat.le_refl _) _).alloc (by simp) _
  refine callsIn_of_wp_marks Tryz.func27 rfl trivial ?_ rfl
  simp only [Tryz.ntmps27, List.size_toArray, List.length_cons, List.length_nil, Nat.reduceAdd, Nat.reduceSub, Array.replicate_succ, Array.replicate_zero, List.push_toArray, List.append_toArray, List.nil_append, List.cons_append]
  cases hf : valid f
  · gi_wp2_with (first | (gi_at_call 23; refine (Valid_in Fence.wide (n - 1) h23 hro _ _).mono ?_; rintro e w' ⟨rfl, rfl⟩; rw [hf]))
    exact ⟨_, results_tmp rfl _ _ _, rfl, hB0⟩
  · cases ht : valid t
    · gi_wp2_with (first | (gi_at_call 23; refine (Valid_in Fence.wide (n - 1) h23 hro _ _).mono ?_; rintro e w' ⟨rfl, rfl⟩; rw [hf]) | (gi_at_call 23; refine (Valid_in Fence.wide (n - 1) h23 hro _ _).mono ?_; rintro e w' ⟨rfl, rfl⟩; rw [ht]))
      exact ⟨_, results_tmp rfl _ _ _, rfl, hB0⟩
    · have hf1 : 0 ≤ f ∧ f ≤ 73048 := by simpa [valid] using hf
      have ht1 : 0 ≤ t ∧ t ≤ 73048 := by simpa [valid] using ht
      have hw1 : wrap64 (t - f) = t - f := by unfold wrap64; omega
      by_cases h1 : f ≤ t
      · have h2 : 4000 ≤ t - f := by
          rcases Int.lt_or_le (t - f) 4000 with h | h
          · exact absurd ⟨hf, ht, h1, h⟩ hbad
          · exact h
        gi_wp2_with (first | (gi_at_call 23; refine (Valid_in Fence.wide (n - 1) h23 hro _ _).mono ?_; rintro e w' ⟨rfl, rfl⟩; rw [hf]) | (gi_at_call 23; refine (Valid_in Fence.wide (n - 1) h23 hro _ _).mono ?_; rintro e w' ⟨rfl, rfl⟩; rw [ht]))
        exact ⟨_, results_tmp rfl _ _ _, rfl, hB0⟩
      · have h1' : t < f := by omega
        gi_wp2_with (first | (gi_at_call 23; refine (Valid_in Fence.wide (n - 1) h23 hro _ _).mono ?_; rintro e w' ⟨rfl, rfl⟩; rw [hf]) | (gi_at_call 23; refine (Valid_in Fence.wide (n - 1) h23 hro _ _).mono ?_; rintro e w' ⟨rfl, rfl⟩; rw [ht]))
        exact ⟨_, results_tmp rfl _ _ _, rfl, hB0⟩
end Mv
end Go.Proofs
