/- slices.Insert of one element: the contract. -/
import Derived.Test.YthhhejockehncaaGreatDoorTlBr
import Derived.Test.YthhhejockehncaaGreatDoorTlIns
set_option maxRecDepth 20000
set_option linter.all false
set_option linter.unusedVariables false
namespace Go.TL
open Go Go.Proofs
noncomputable section
/-! ### slices.Insert of one element: the call's contract -/
open Go.RowKit Go.Lib
def insI {α : Type} (bytes : Nat) (l : List α) (i : Int) (x : α) : Option (List α) := if 0 ≤ i ∧ i ≤ (l.length : Int) ∧ (l.length + 1) * bytes ≤ 35184372088832 then some (l.take i.toNat ++ x :: l.drop i.toNat) else none

theorem run_overlaps {P : Program} (w : World) (tS tR e : TypeId) (ht : P.underlying tS = some (.slice e)) (size : Nat) (hz : ∀ w, (Go.sizeOf e).run P w = .ok size w)
    (a b : Addr) (la ca lb cb : Nat) (hne : a.block ≠ b.block) (tA tB : TypeId) (kA kB : Nat)
    (hsa : w.shape? a.block = some (tA, kA)) (hsb : w.shape? b.block = some (tB, kB)) (hkA : kA ≠ 0) (hkB : kB ≠ 0)
    (hfb : w.frozen? b = false) (hfe : w.frozen? { block := b.block, off := kB } = false) :
    (Extern.SlicesOverlaps.overlaps #[tS, tS] #[tR] #[.slice (some a) la ca, .slice (some b) lb cb]).run P w = .ok (.bool false) w := by
  have hnb : (a.block != b.block) = true := by simpa using hne
  have hnb' : (a.block == b.block) = false := by simpa using hne
  change Sem.run P (α := Value) (do
    let some t := (#[tS, tS] : Array TypeId)[0]? | stuck "slices.overlaps: no parameter types"
    let .slice elem ← underlying t | stuck "slices.overlaps: slice type expected"
    let size ← sizeOf elem
    match (some a : Option Addr), (some b : Option Addr) with
    | some a, some b =>
      if la = 0 ∨ lb = 0 ∨ size = 0 then pure (Value.bool false)
      else if a.block != b.block && (← frozen a) && (← frozen b) then unsupported .addressObserved
      else do
        if a.block != b.block then do
          noView a; noView b
          if ← mayBeOne a b then return Value.bool ((← choose (.extern "sameAddr.stringBytes" 2)) == 1)
        pure (Value.bool (a.block == b.block && a.off < b.off + lb * size && b.off < a.off + la * size))
    | _, _ => pure (Value.bool false)) w = _
  by_cases h0 : la = 0 ∨ lb = 0 ∨ size = 0
  · simp [run_underlying ht, hz, h0]
  · cases kB with
    | zero => exact absurd rfl hkB
    | succ kB =>
      cases kA with
      | zero => exact absurd rfl hkA
      | succ kA =>
        cases hfa : w.frozen? a <;> cases hfx : w.frozen? { block := a.block, off := kA + 1 } <;>
          simp [run_underlying ht, hz, h0, hnb, hnb', frozen, noView, viewAt, mayBeOne, stringish, shape, Sem.run, hsa, hsb, hfb, hfe, hfa, hfx]

theorem alloc_setCells (t : TypeId) : ∀ (vs mid pre post : List Value) (w : World), mid.length = vs.length →
    (w.alloc (.cells (pre ++ mid ++ post).toArray t)).setCells w.heap.size pre.length vs = w.alloc (.cells (pre ++ vs ++ post).toArray t)
  | [], [], _, _, _, _ => rfl
  | [], _ :: _, _, _, _, h => by simp at h
  | _ :: _, [], _, _, _, h => by simp at h
  | v :: vs, m :: mid, pre, post, w, h => by
    rw [World.setCells]
    have e1 : (w.alloc (.cells (pre ++ m :: mid ++ post).toArray t)).setCell ⟨w.heap.size, pre.length, none⟩ v = w.alloc (.cells ((pre ++ [v]) ++ mid ++ post).toArray t) := by
      have e2 : ∀ i : Nat, ((w.alloc (.cells (pre ++ m :: mid ++ post).toArray t)).setCell ⟨w.heap.size, pre.length, none⟩ v).heap[i]? = (w.alloc (.cells ((pre ++ [v]) ++ mid ++ post).toArray t)).heap[i]? := by
        intro i
        simp only [World.setCell, World.alloc, Array.getElem?_modify]
        by_cases hi : w.heap.size = i
        · subst hi
          simp
        · rw [if_neg hi, Array.getElem?_push, Array.getElem?_push]
          simp [show ¬ i = w.heap.size from fun e => hi e.symm]
      have e3 := Array.ext_getElem? e2
      simp only [World.setCell, World.alloc] at e3 ⊢
      rw [e3]
    rw [e1]
    have := alloc_setCells t vs mid (pre ++ [v]) post w (by simpa using h)
    simp only [List.length_append, List.length_cons, List.length_nil] at this
    rw [show pre ++ v :: vs ++ post = pre ++ [v] ++ vs ++ post by simp]
    exact this

theorem info93 : ∃ i, Tryz.prog.info? 93 = some i ∧ i.zero = some (.agg #[.int .i64 0, .int .i64 0, .string ⟨#[]⟩]) ∧ i.size = 3 ∧ i.bytes = 32 :=
  info_parts (show (Tryz.prog.info? 93).map (fun i => (i.zero, i.size, i.bytes)) = some (some (.agg #[.int .i64 0, .int .i64 0, .string ⟨#[]⟩]), 3, 32) by kernel_rfl)
theorem size93 (w : World) : (Go.sizeOf 93).run Tryz.prog w = .ok 3 w := run_sizeOf (show sizeP Tryz.prog 93 = some 3 by kernel_rfl)
theorem run_copyL (w : World) {w' : World} (ty : TypeId) (d a : Addr) (dLen dc sLen sc k : Nat) (vs : List Value) (hk : Nat.min sLen dLen = k) (hl : (loadCells a (k * 3)).run Tryz.prog w = .ok vs.toArray w) (hs : (storeCells d vs).run Tryz.prog w = .ok () w') :
    (Builtin.copy_ #[58, 58] ty #[.slice (some d) dLen dc, .slice (some a) sLen sc]).run Tryz.prog w = .ok (goInt k) w' := by
  simp [Builtin.copy_, run_underlying Go.Proofs.Ins.t58, Builtin.lenOf, Builtin.firstCells, size93, hk, hl, hs]

theorem Rel.osl_inv {w : World} {M : Nat → Prop} {β : Beta} {c n : Nat} {x : Value} (h : Rel w M β (.osl c 0 n) x) : (∃ b p s cap arr t fr, x = .slice (some ⟨b, p, none⟩) n cap ∧ β[c]? = some (b, p, s) ∧ n ≤ cap ∧ w.heap[b]? = some (.cells arr t fr) ∧ p + cap * s ≤ arr.size) ∨
    (n = 0 ∧ ∃ b p q, x = .slice (some ⟨b, p, none⟩) 0 0 ∧ β[c]? = some q) := by
  cases h with
  | osl h hcap hb hz => exact .inl ⟨_, _, _, _, _, _, _, by rw [Nat.zero_mul, Nat.add_zero], h, hcap, hb, by rw [Nat.zero_add] at hz; exact hz⟩
  | osl0 b p h => exact .inr ⟨rfl, b, p, _, rfl, h⟩

theorem leg_like (x y : ApiLeg) : like y.v x.v.cells = x.v := rfl
theorem leg_set (l : List ApiLeg) (i : Nat) (hi : i < l.length) (x : ApiLeg) (m : List V) (hm : m = (((l.map ApiLeg.v).drop 0).take (i + 1) ++ (l.map ApiLeg.v).drop i)) (hi2 : i < m.length) :
    m.set i (like m[i] (splice m[i].cells 0 x.v.cells)) = (l.take i ++ x :: l.drop i).map ApiLeg.v := by
  subst hm
  have e0 : ((((l.map ApiLeg.v).drop 0).take (i + 1) ++ (l.map ApiLeg.v).drop i))[i]'hi2 = l[i].v := by
    rw [List.getElem_append_left (by simp; omega)]
    simp
  rw [e0]
  have e1 : splice l[i].v.cells 0 x.v.cells = x.v.cells := rfl
  rw [e1, leg_like]
  rw [List.drop_zero, List.map_append, List.map_cons, List.map_take, List.map_drop]
  have e2 : (l.map ApiLeg.v).take (i + 1) = (l.map ApiLeg.v).take i ++ [l[i].v] := by
    rw [List.take_succ_eq_append_getElem (by simpa using hi)]
    simp
  rw [e2, List.append_assoc, List.set_append, if_neg (by simp; omega), List.length_take, List.length_map, Nat.min_eq_left (by omega), Nat.sub_self]
  rfl

theorem leg_cells (x : ApiLeg) : x.v.stores = true ∧ x.v.cells.length = 3 := ⟨rfl, rfl⟩

theorem load_move {P : Program} {w w' : World} {A : Nat → Prop} {β : Beta} {σ : List Cell} {b p s : Nat} {ys : List V} (he : ElemsAt w (Mav A β σ) β b p s ys) (hsame : ∀ o, w'.cell? ⟨b, o, none⟩ = w.cell? ⟨b, o, none⟩) :
    ∃ arr, (loadCells ⟨b, p, none⟩ (ys.length * s)).run P w' = .ok arr w' ∧ RelL w (Mav A β σ) β (flat ys) arr.toList := by
  have hsz : ∀ x ∈ ys, x.cells.length = s := fun x hx => by
    obtain ⟨i, hi, rfl⟩ := List.mem_iff_getElem.1 hx
    exact (he i hi).2.1
  have hl := flat_length ys hsz
  have hall : ∀ k, k < ys.length * s → ∃ x, w.cell? ⟨b, p + k, none⟩ = some x ∧ ∀ (h : k < (flat ys).length), Rel w (Mav A β σ) β ((flat ys)[k]'h) x := by
    intro k hk
    have hs0 : 0 < s := by
      rcases Nat.eq_zero_or_pos s with h0 | h0
      · subst h0; simp at hk
      · exact h0
    have hi : k / s < ys.length := Nat.div_lt_of_lt_mul (by rw [Nat.mul_comm]; exact hk)
    have hj : k % s < s := Nat.mod_lt _ hs0
    have hk' : k = (k / s) * s + k % s := by rw [Nat.mul_comm]; exact (Nat.div_add_mod k s).symm
    obtain ⟨f1, f2, f3⟩ := he (k / s) hi
    obtain ⟨x, h1, h2⟩ := f3 (k % s) (by rw [f2]; exact hj)
    refine ⟨x, by rw [show p + k = p + k / s * s + k % s by omega]; exact h1, fun h => ?_⟩
    have hg := flat_get ys hsz (k / s) (k % s) hi hj
    rw [← hk', List.getElem?_eq_getElem h, List.getElem?_eq_getElem (by rw [f2]; exact hj)] at hg
    injection hg with hg
    rw [hg]
    exact h2
  let f : Nat → Value := fun k => if hk : k < ys.length * s then Classical.choose (hall k hk) else default
  have hf : ∀ k (hk : k < ys.length * s), w.cell? ⟨b, p + k, none⟩ = some (f k) ∧ ∀ (h : k < (flat ys).length), Rel w (Mav A β σ) β ((flat ys)[k]'h) (f k) := fun k hk => by
    simp only [f, dif_pos hk]
    exact Classical.choose_spec (hall k hk)
  refine ⟨((List.range (ys.length * s)).map f).toArray, run_loadCells w' _ _ f (fun j hj => by rw [addr_add]; exact (hsame _).trans (hf j hj).1), by simp [hl], fun j hj x hx => ?_⟩
  have hj' : j < ys.length * s := by rw [← hl]; exact hj
  simp [hj'] at hx
  subst hx
  exact (hf j hj').2 hj


section
variable {A : Nat → Prop} {w : World} {β : Beta} {σ : List Cell}

/-- slices.Insert(l, i, x) at a row of the call's own. -/
theorem ins_ok_ApiLeg {c : Nat} {l l' : List ApiLeg} {i : Int} {x : ApiLeg} (hr : σ[c]? = some (.row 3 (l.map ApiLeg.v))) (h : insI 32 l i x = some l') :
    CallOk Tryz.prog (Gl.at 0) 89 [.osl c 0 l.length, i64 i, .sl [x.v]] σ (fun v σ' => v = .osl σ.length 0 l'.length ∧ σ' = σ.set c .dead ++ [.row 3 (l'.map ApiLeg.v)]) := by
  unfold insI at h
  split at h <;> try (cases h; done)
  rename_i hc
  obtain ⟨hi0, hi1, hbd⟩ := hc
  obtain ⟨k, rfl⟩ := Int.eq_ofNat_of_zero_le hi0
  simp only [Int.ofNat_eq_natCast, Int.toNat_natCast] at h
  have hk : k ≤ l.length := by omega
  injection h with h
  subst h
  intro A w β xs hs hxs
  obtain ⟨xs⟩ := xs
  obtain ⟨v1, v2, v3, rfl⟩ : ∃ a b c, xs = [a, b, c] := by
    have := hxs.1
    match xs, this with
    | [a, b, c], _ => exact ⟨a, b, c, rfl⟩
  have r1 := hxs.2 0 (by simp) v1 (by simp)
  have r2 := rel_int (hxs.2 1 (by simp) v2 (by simp))
  have r3 := hxs.2 2 (by simp) v3 (by simp)
  subst r2
  simp only [List.getElem_cons_zero, List.getElem_cons_succ] at r1 r3
  refine ⟨_, w, run_enter Tryz.func89 (by decide) rfl _ w, .inr ⟨rfl, rfl, ?_⟩⟩
  obtain ⟨vb, vo, vc, rfl⟩ : ∃ vb vo vc, v3 = .slice (some ⟨vb, vo, none⟩) 1 vc := by
    rcases sl_elems r3 with ⟨he, -⟩ | ⟨b, p, s, cap, rfl, -⟩
    · cases he
    · exact ⟨b, p, cap, rfl⟩
  have hlen' : (l.take k ++ x :: l.drop k).length = l.length + 1 := by simp; omega
  by_cases hend : k = l.length
  · -- at the end
    subst hend
    have hev : evApp σ 3 32 (.osl c 0 l.length) [x.v] = some (.osl σ.length 0 (l.length + 1), σ.set c .dead ++ [.row 3 ((l.take l.length ++ x :: l.drop l.length).map ApiLeg.v)]) := by
      have ht : (l.map ApiLeg.v).take l.length = l.map ApiLeg.v := by rw [show l.length = (l.map ApiLeg.v).length by simp, List.take_length]
      simp [evApp, hr, hbd, ht]
    have hok := app_ok (P := Tryz.prog) (sT := 58) (xT := 58) (ty := 58) (s := 3) (bytes := 32) (by kernel_rfl) hs (y := .sl [x.v]) (ys := [x.v]) rfl (by intro v hv; simp only [List.mem_singleton] at hv; subst hv; exact leg_cells x) hev r1 r3
    obtain ⟨vr, w', β', e1, e2, e3, e4⟩ := hok
    have hrun : ∀ ty, (Builtin.append_ #[58, 58] ty #[v1, .slice (some ⟨vb, vo, none⟩) 1 vc]).run Tryz.prog w = .ok vr w' := fun ty => e1
    obtain ⟨base, n, cp, hv1, hn, hcp⟩ : ∃ base n cp, v1 = .slice base n cp ∧ n = l.length ∧ n ≤ cp := by
      rcases r1.osl_inv with ⟨b, p, s, cap, _, _, _, rfl, _, hcap, _⟩ | ⟨hn, b, p, q, rfl, _⟩
      · exact ⟨_, _, _, rfl, rfl, hcap⟩
      · exact ⟨_, _, _, rfl, hn.symm, Nat.le_refl _⟩
    subst hv1; subst hn
    refine (Go.Proofs.Ins.ends base l.length cp _ vb vo vc rfl w hrun hcp).mono ?_
    rintro e W' ⟨rfl, rfl⟩
    refine ⟨vr, _, _, β', rfl, ⟨?_, rfl⟩, e2, e3, e4⟩
    rw [hlen']
  · have hkl : k < l.length := by omega
    have hn63 : l.length + 1 ≤ 9223372036854775807 := by omega
    obtain ⟨b, p, s, cap, arr, t, fr, rfl, hβ, hcap, hblk, hz⟩ : ∃ b p s cap arr t fr, v1 = .slice (some ⟨b, p, none⟩) l.length cap ∧ β[c]? = some (b, p, s) ∧ l.length ≤ cap ∧ w.heap[b]? = some (.cells arr t fr) ∧ p + cap * s ≤ arr.size := by
      rcases r1.osl_inv with h | ⟨hn, -⟩
      · exact h
      · omega
    obtain ⟨o1, o2, o3, o4, o5⟩ := hs.ok c _ _ hr hβ
    simp only at o1 o2 o3 o4 o5
    subst o1
    have hmc : ∀ y ∈ (l.map ApiLeg.v).drop k, y.stores = true ∧ y.cells.length = 3 := fun y hy => by
      obtain ⟨z, -, rfl⟩ := List.mem_map.1 (List.mem_of_mem_drop hy)
      exact leg_cells z
    have hdl : ((l.map ApiLeg.v).drop k).length = l.length - k := by simp
    -- what is shifted, as it reads
    have hsub : ElemsAt w (Mav A β σ) β b (p + k * 3) 3 ((l.map ApiLeg.v).drop k) := by
      have := ElemsAt.sub o3 k (l.length - k) (by simp; omega)
      rwa [List.take_of_length_le (by simp)] at this
    have hvne : vb ≠ b := by
      have hm : Mset β σ b := ⟨c, _, _, hr, rfl, hβ⟩
      cases r3 with
      | sl x hcap hl hc hr' => exact fun e => (hc 0 0 (by simp) (by have := (hl _ (List.mem_singleton.2 rfl)).2; rw [← this]; show 0 < 3; omega)).2 (.inr (e ▸ hm))
    have hvcell : ∃ y, w.cell? ⟨vb, vo, none⟩ = some y := by
      rcases sl_elems r3 with ⟨he, -⟩ | ⟨b, p, s, cap, he, -, hel⟩
      · cases he
      · injection he with he
        injection he with he
        injection he with h1 h2
        subst h1; subst h2
        obtain ⟨-, -, h3⟩ := hel 0 (by simp)
        obtain ⟨y, hy, -⟩ := h3 0 (by show 0 < 3; omega)
        exact ⟨y, by simpa using hy⟩
    by_cases hroom : l.length + 1 ≤ cap
    · -- there is room
      obtain ⟨hs1, he1⟩ := hs.drew
      obtain ⟨arr1, l1, rl1⟩ := loadCells_rel (P := Tryz.prog) (w := w.drew) (A := A) (β := β) (σ := σ) (b := b) (p := p + k * 3) (s := 3) (ys := (l.map ApiLeg.v).drop k) (fun i hi => by
        obtain ⟨f1, f2, f3⟩ := hsub i hi
        exact ⟨f1, f2, fun j hj => by obtain ⟨x, h4, h5⟩ := f3 j hj; exact ⟨x, h4, h5.ext he1⟩⟩)
      obtain ⟨a1, a2, a3⟩ := hs1.appendIn (P := Tryz.prog) (o := 0) (n := k + 1) (cap := cap) (ys := (l.map ApiLeg.v).drop k) (vs := arr1.toList) hr hβ (by simp; omega) (w := w.drew) hblk (by rw [Nat.zero_add]; exact hz) (by rw [hdl]; omega) hmc rl1
      rw [hdl] at l1
      have b1 : (β ++ [(b, p + 0 * 3, 3)])[σ.length]? = some (b, p + 0 * 3, 3) := by rw [← hs.len]; simp
      have c1 : (σ.set c .dead ++ [.row 3 (((l.map ApiLeg.v).drop 0).take (k + 1) ++ (l.map ApiLeg.v).drop k)])[σ.length]? = some (Cell.row 3 (((l.map ApiLeg.v).drop 0).take (k + 1) ++ (l.map ApiLeg.v).drop k)) := by
        rw [List.getElem?_append_right (by simp)]
        simp
      obtain ⟨W1, hW1⟩ : ∃ W1, w.drew.setCells b (p + (0 + (k + 1)) * 3) arr1.toList = W1 := ⟨_, rfl⟩
      rw [hW1] at a1 a2 a3
      have q3 := (r3.ext he1).ext a3
      obtain ⟨arr2, l2, rl2⟩ : ∃ arr2, (loadCells ⟨vb, vo, none⟩ (1 * 3)).run Tryz.prog W1 = .ok arr2 W1 ∧ RelL W1 (Mav A (β ++ [(b, p + 0 * 3, 3)]) (σ.set c .dead ++ [.row 3 (((l.map ApiLeg.v).drop 0).take (k + 1) ++ (l.map ApiLeg.v).drop k)])) (β ++ [(b, p + 0 * 3, 3)]) (flat [x.v]) arr2.toList := by
        rcases sl_elems q3 with ⟨he, -⟩ | ⟨b, p, s, cap, he, -, hel⟩
        · cases he
        · injection he with he
          injection he with he
          injection he with h1 h2
          subst h1; subst h2
          have hs3 : s = 3 := (hel 0 (by simp)).2.1.symm
          subst hs3
          exact loadCells_rel (P := Tryz.prog) hel
      have hl2 : arr2.toList.length = 3 := by rw [rl2.1]; rfl
      have hki : k < (((l.map ApiLeg.v).drop 0).take (k + 1) ++ (l.map ApiLeg.v).drop k).length := by simp; omega
      obtain ⟨d1, d2, d3⟩ := a2.store (P := Tryz.prog) (i := k) (o := 0) (ys := x.v.cells) (vs := arr2.toList) c1 b1 hki (by show 0 + 3 ≤ 3; omega) (fun y hy => stores_cells (leg_cells x).1 y hy) (by rw [hl2]; rfl) (fun j hj => by
        have hj3 : j < arr2.toList.length := by rw [hl2]; exact hj
        exact ⟨arr2.toList[j], List.getElem?_eq_getElem hj3, rl2.2 j hj _ (List.getElem?_eq_getElem hj3)⟩)
      rw [leg_set l k hkl x _ rfl hki, List.set_append, if_neg (by simp)] at d2 d3
      simp only [List.length_set, Nat.sub_self, List.set_cons_zero] at d2 d3
      have hrun := Go.Proofs.Ins.room b p l.length cap k vb vo vc w W1 (W1.setCells b (p + 0 * 3 + k * 3 + 0) arr2.toList) (l.length - k) 1 hkl hn63 hroom
        (fun lb cb => by
          rw [run_callFunc_extern Tryz.func99 (by kernel_rfl) (by kernel_rfl) (by kernel_rfl) (e := Extern.SlicesOverlaps.overlaps #[58, 58] #[4]) (by kernel_rfl)]
          obtain ⟨y, hy⟩ := hvcell
          obtain ⟨arrv, tv, frv, hva, hvz⟩ : ∃ arrv tv frv, w.heap[vb]? = some (.cells arrv tv frv) ∧ arrv.size ≠ 0 := by
            unfold World.cell? at hy
            split at hy <;> try (cases hy; done)
            rename_i cs t' fr' hh
            refine ⟨_, _, _, hh, fun h0 => ?_⟩
            split at hy <;> try (cases hy; done)
            rw [Array.getElem?_eq_none (by omega)] at hy
            cases hy
          obtain ⟨arr0, t0, fr0, g1, g2, g3⟩ := o2
          rw [hblk] at g1
          injection g1 with g1
          injection g1 with g1 g1' g1''
          subst g1; subst g1'; subst g1''
          rw [run_overlaps w 58 4 93 Go.Proofs.Ins.t58 3 size93 ⟨vb, vo, none⟩ ⟨b, p + (k + 1) * 3, none⟩ 1 vc lb cb hvne tv t arrv.size arr.size (by simp [World.shape?, hva]) (by simp [World.shape?, hblk]) hvz (by omega)
            (by have := g2 (p + (k + 1) * 3) (by omega); simp only [World.frozen?, hblk]; simpa using this) (by have := g2 arr.size (by omega); simp only [World.frozen?, hblk]; simpa using this)]
          rfl)
        (fun ty dc sc => run_copyL w.drew ty ⟨b, p + (k + 1) * 3, none⟩ ⟨b, p + k * 3, none⟩ (l.length - k) dc (l.length + 1 - k) sc (l.length - k) arr1.toList (by simp only [Nat.min_def]; split <;> omega) l1 (by rw [Nat.zero_add] at a1; exact a1))
        (fun ty dc => run_copyL W1 ty ⟨b, p + k * 3, none⟩ ⟨vb, vo, none⟩ (l.length + 1 - k) dc 1 vc 1 arr2.toList (by simp only [Nat.min_def]; split <;> omega) l2 (by simpa using d1))
      refine hrun.mono ?_
      rintro e W' ⟨rfl, rfl⟩
      refine ⟨_, _, _, β ++ [(b, p + 0 * 3, 3)], rfl, ⟨rfl, rfl⟩, ?_, d2, (he1.trans a3).trans d3⟩
      obtain ⟨arr', fr', x1, x2⟩ := ((he1.trans a3).trans d3).kept b _ _ _ hblk
      rw [hlen']
      have := Rel.osl (M := Mav A (β ++ [(b, p + 0 * 3, 3)]) (σ.set c .dead ++ [.row 3 ((l.take k ++ x :: l.drop k).map ApiLeg.v)])) (n := l.length + 1) (cap := cap) (o := 0) b1 hroom x1 (by rw [x2]; simpa using hz)
      simpa using this
    · -- there is none
      obtain ⟨i0, hi0, hz0, hzs, hzb⟩ := info93
      obtain ⟨hs1, he1⟩ := hs.drew
      obtain ⟨arrT, lT, rlT⟩ := loadCells_rel (P := Tryz.prog) (w := w.drew) (A := A) (β := β) (σ := σ) (b := b) (p := p) (s := 3) (ys := (l.map ApiLeg.v).take k) (fun i hi => by
        have hs0 := ElemsAt.sub o3 0 k (by simp; omega)
        rw [Nat.zero_mul, Nat.add_zero, List.drop_zero] at hs0
        obtain ⟨f1, f2, f3⟩ := hs0 i hi
        exact ⟨f1, f2, fun j hj => by obtain ⟨x, h4, h5⟩ := f3 j hj; exact ⟨x, h4, h5.ext he1⟩⟩)
      have hTl : ((l.map ApiLeg.v).take k).length = k := by simp; omega
      rw [hTl] at lT
      have hold : (Builtin.firstCells i0.size k (.slice (some ⟨b, p, none⟩) k cap)).run Tryz.prog w.drew = .ok arrT.toList.toArray w.drew := by
        rw [hzs]
        exact lT
      have hkk : (l.length : Int) + 1 - (k : Int) = ((l.length + 1 - k : Nat) : Int) := by omega
      have hrz := fun ty => Lib.run_append_grow_zeros (P := Tryz.prog) w 58 3 ty 93 i0 _ .i64 .i64 Go.Proofs.Ins.t58 (by kernel_rfl) hi0 hz0 (some ⟨b, p, none⟩) k cap arrT.toList hold (l.length + 1 - k) (by omega) (by rw [hzs]; omega) (by omega) (by omega) (by rw [hzb]; omega) (by rw [hzb, show k + (l.length + 1 - k) = l.length + 1 by omega]; exact growslice_fits (by omega) (by omega))
      have hbw : b < w.heap.size := o5
      have hvw : vb < w.heap.size := by obtain ⟨y, hy⟩ := hvcell; exact cell_lt hy
      -- the cells that are handed on
      obtain ⟨hs2, he2⟩ := hs1.drew
      have velems : ElemsAt w (Mav A β σ) β vb vo 3 [x.v] := by
        rcases sl_elems r3 with ⟨he, -⟩ | ⟨b, p, s, cap, he, -, hel⟩
        · cases he
        · injection he with he
          injection he with he
          injection he with h1 h2
          subst h1; subst h2
          have hs3 : s = 3 := (hel 0 (by simp)).2.1.symm
          subst hs3
          exact hel
      obtain ⟨G, hG⟩ : ∃ G, grownCap w (l.length + 1) cap 93 = G := ⟨_, rfl⟩
      have hGn : l.length + 1 ≤ G := by rw [← hG]; exact grownCap_ge w _ _ _
      have e0 : k + (l.length + 1 - k) = l.length + 1 := by omega
      simp only [e0, hG] at hrz
      obtain ⟨Z, hZ⟩ : ∃ Z, (Builtin.zeroCells (Value.agg #[.int .i64 0, .int .i64 0, .string ⟨#[]⟩]).cells (l.length + 1 - k)).toList = Z := ⟨_, rfl⟩
      obtain ⟨Rr, hRr⟩ : ∃ R, (Builtin.zeroCells (Value.agg #[.int .i64 0, .int .i64 0, .string ⟨#[]⟩]).cells (G - (l.length + 1))).toList = R := ⟨_, rfl⟩
      have hZl : Z.length = (l.length + 1 - k) * 3 := by rw [← hZ, Array.length_toList, zeroCells_size]; rfl
      have hRl : Rr.length = (G - (l.length + 1)) * 3 := by rw [← hRr, Array.length_toList, zeroCells_size]; rfl
      have hTl3 : arrT.toList.length = k * 3 := by rw [rlT.1, flat_length (s := 3) _ (fun y hy => by obtain ⟨z, -, rfl⟩ := List.mem_map.1 (List.mem_of_mem_take hy); rfl), hTl]
      have earr : arrT.toList.toArray ++ Builtin.zeroCells (Value.agg #[.int .i64 0, .int .i64 0, .string ⟨#[]⟩]).cells (l.length + 1 - k) ++ Builtin.zeroCells (Value.agg #[.int .i64 0, .int .i64 0, .string ⟨#[]⟩]).cells (G - (l.length + 1)) = (arrT.toList ++ Z.take 3 ++ (Z.drop 3 ++ Rr)).toArray := by
        rw [← List.append_assoc, List.append_assoc arrT.toList, List.take_append_drop, ← hZ, ← hRr]
        apply Array.ext'
        simp
      rw [earr] at hrz
      have hcell : ∀ (ww : World) (cs : Array Value) (bb : Nat) (hb : bb < ww.heap.size) (o : Nat), (ww.alloc (.cells cs 93)).cell? ⟨bb, o, none⟩ = ww.cell? ⟨bb, o, none⟩ := fun ww cs bb hb o => cell_of_heap (a := ⟨bb, o, none⟩) (Below.heap_alloc ww _ bb hb)
      obtain ⟨arr2, l2, rl2⟩ := load_move (P := Tryz.prog) (w' := w.drew.alloc (.cells (arrT.toList ++ Z.take 3 ++ (Z.drop 3 ++ Rr)).toArray 93)) velems (fun o => hcell w.drew _ vb hvw o)
      have hl2 : arr2.toList.length = 3 := by rw [rl2.1]; rfl
      have storeAt : ∀ (ww : World) (pre mid post vs : List Value), mid.length = vs.length → (∀ v ∈ vs, v.oneCell' = true) → (storeCells ⟨ww.heap.size, pre.length, none⟩ vs).run Tryz.prog (ww.alloc (.cells (pre ++ mid ++ post).toArray 93)) = .ok () (ww.alloc (.cells (pre ++ vs ++ post).toArray 93)) := by
        intro ww pre mid post vs hm h1
        have := run_storeCells_cells (P := Tryz.prog) ww.heap.size pre.length vs 0 (ww.alloc (.cells (pre ++ mid ++ post).toArray 93))
          (fun j hj => by rw [World.cell?_alloc_at (w := ww) _ _ ww.heap.size _ rfl, Array.getElem?_eq_getElem (by simp; omega)]; rfl)
          (fun j _ => World.frozen?_alloc_at (w := ww) _ _ ww.heap.size _ rfl) h1
        rw [Nat.add_zero, alloc_setCells 93 vs mid pre post ww hm] at this
        exact this
      have one : ∀ {ys : List V} {vs : List Value}, (∀ y ∈ ys, y.stores = true) → RelL w (Mav A β σ) β (flat ys) vs → ∀ v ∈ vs, v.oneCell' = true := by
        intro ys vs hys hrel v hv
        obtain ⟨j, hj, rfl⟩ := List.mem_iff_getElem.1 hv
        have hj' : j < (flat ys).length := by rw [← hrel.1]; exact hj
        refine leaf_one ?_ (hrel.2 j hj' _ (List.getElem?_eq_getElem hj))
        have := List.getElem_mem hj'
        simp only [flat, List.mem_flatMap] at this
        obtain ⟨y, hy1, hy2⟩ := this
        exact stores_cells (hys y hy1) _ hy2
      obtain ⟨arr3, l3, rl3⟩ := load_move (P := Tryz.prog) (w' := w.drew.drew.alloc (.cells (arrT.toList ++ arr2.toList ++ Z.drop 3 ++ Rr).toArray 93)) hsub (fun o => hcell w.drew.drew _ b hbw o)
      rw [hdl] at l3
      have hl3 : arr3.toList.length = (l.length - k) * 3 := by rw [rl3.1, flat_length (s := 3) _ (fun y hy => (hmc y hy).2), hdl]
      have s1 := storeAt w.drew arrT.toList (Z.take 3) (Z.drop 3 ++ Rr) arr2.toList (by rw [List.length_take, hl2]; omega) (one (by intro y hy; simp only [List.mem_singleton] at hy; subst hy; exact (leg_cells x).1) rl2)
      have s2 := storeAt w.drew.drew (arrT.toList ++ arr2.toList) (Z.drop 3) Rr arr3.toList (by rw [List.length_drop, hl3]; omega) (one (fun y hy => (hmc y hy).1) rl3)
      have hrun := Go.Proofs.Ins.grow b p l.length cap k vb vo vc w.heap.size G w _ (w.drew.alloc (.cells (arrT.toList ++ arr2.toList ++ Z.drop 3 ++ Rr).toArray 93)) _ 1 (l.length - k) hkl hcap (by omega) hn63 hGn (by rw [hkk]; exact hrz)
        (fun ty dc => run_copyL _ ty ⟨w.heap.size, k * 3, none⟩ ⟨vb, vo, none⟩ (l.length + 1 - k) dc 1 vc 1 arr2.toList (by simp only [Nat.min_def]; split <;> omega) l2 (by rw [hTl3] at s1; rw [List.append_assoc _ _ Rr]; exact s1))
        (fun ty dc sc => run_copyL _ ty ⟨w.heap.size, (k + 1) * 3, none⟩ ⟨b, p + k * 3, none⟩ (l.length + 1 - (k + 1)) dc (l.length - k) sc (l.length - k) arr3.toList (by simp only [Nat.min_def]; split <;> omega) l3 (by rw [List.length_append, hTl3, hl2] at s2; rw [show (k + 1) * 3 = k * 3 + 3 by omega]; exact s2))
      have hrel : RelL w.drew.drew (Mav A β σ) β (flat ((l.take k ++ x :: l.drop k).map ApiLeg.v)) (arrT.toList ++ arr2.toList ++ arr3.toList) := by
        have e : flat ((l.take k ++ x :: l.drop k).map ApiLeg.v) = flat ((l.map ApiLeg.v).take k) ++ flat [x.v] ++ flat ((l.map ApiLeg.v).drop k) := by
          simp [flat, List.map_take, List.map_drop]
        rw [e]
        exact ((rlT.ext he2).append ((rl2.ext he1).ext he2)).append ((rl3.ext he1).ext he2)
      have hF := Flat.of_list Rr (s := 3) (fun y hy => by obtain ⟨z, -, rfl⟩ := List.mem_map.1 hy; exact leg_cells z) hrel
      obtain ⟨n1, n2⟩ := hs2.newRow 93 hF
      have hlt : c < σ.length := get_lt hr
      have hr2 : (σ ++ [Cell.row 3 ((l.take k ++ x :: l.drop k).map ApiLeg.v)])[c]? = some (Cell.row 3 (l.map ApiLeg.v)) := by rw [List.getElem?_append_left hlt]; exact hr
      obtain ⟨n3, n4⟩ := n1.kill hr2 (by simp)
      rw [List.set_append, if_pos hlt] at n3 n4
      refine hrun.mono ?_
      rintro e W' ⟨rfl, rfl⟩
      refine ⟨_, _, _, _, rfl, ⟨rfl, rfl⟩, ?_, n3, ((he1.trans he2).trans n2).trans n4⟩
      rw [hlen']
      have b1 : (β ++ [(w.drew.drew.heap.size, 0, 3)])[σ.length]? = some (w.heap.size, 0, 3) := by rw [← hs.len]; simp
      have := Rel.osl (w := w.drew.drew.alloc (.cells (arrT.toList ++ arr2.toList ++ arr3.toList ++ Rr).toArray 93)) (M := Mav A (β ++ [(w.drew.drew.heap.size, 0, 3)]) (σ.set c .dead ++ [.row 3 ((l.take k ++ x :: l.drop k).map ApiLeg.v)])) (n := l.length + 1) (cap := G) (o := 0) b1 hGn (World.alloc_heap_new' _ _) (by
        simp only [List.size_toArray, List.length_append, hTl3, hl2, hl3, hRl]
        omega)
      simpa using this
end

theorem ins_nil_ApiLeg {σ : List Cell} {l' : List ApiLeg} {i : Int} {x : ApiLeg} {u : V} (hu : u = .nils ∨ u = .cap0) (h : insI 32 [] i x = some l') :
    CallOk Tryz.prog (Gl.at 0) 89 [u, i64 i, .sl [x.v]] σ (fun v σ' => v = .osl σ.length 0 l'.length ∧ σ' = σ ++ [.row 3 (l'.map ApiLeg.v)]) := by
  unfold insI at h
  split at h <;> try (cases h; done)
  rename_i hc
  obtain ⟨hi0, hi1, hbd⟩ := hc
  simp only [List.length_nil] at hi1 hbd
  obtain rfl : i = 0 := by omega
  simp only [Int.toNat_zero, List.take_zero, List.drop_zero, List.nil_append, Option.some.injEq] at h
  subst h
  intro A w β xs hs hxs
  obtain ⟨xs⟩ := xs
  obtain ⟨v1, v2, v3, rfl⟩ : ∃ a b c, xs = [a, b, c] := by
    have := hxs.1
    match xs, this with
    | [a, b, c], _ => exact ⟨a, b, c, rfl⟩
  have r1 := hxs.2 0 (by simp) v1 (by simp)
  have r2 := rel_int (hxs.2 1 (by simp) v2 (by simp))
  have r3 := hxs.2 2 (by simp) v3 (by simp)
  subst r2
  simp only [List.getElem_cons_zero, List.getElem_cons_succ] at r1 r3
  refine ⟨_, w, run_enter Tryz.func89 (by decide) rfl _ w, .inr ⟨rfl, rfl, ?_⟩⟩
  obtain ⟨vb, vo, vc, rfl⟩ : ∃ vb vo vc, v3 = .slice (some ⟨vb, vo, none⟩) 1 vc := by
    rcases sl_elems r3 with ⟨he, -⟩ | ⟨b, p, s, cap, rfl, -⟩
    · cases he
    · exact ⟨b, p, cap, rfl⟩
  have hev : evApp σ 3 32 u [x.v] = some (.osl σ.length 0 1, σ ++ [.row 3 [x.v]]) := by rcases hu with rfl | rfl <;> rfl
  have hok := app_ok (P := Tryz.prog) (sT := 58) (xT := 58) (ty := 58) (s := 3) (bytes := 32) (by kernel_rfl) hs (y := .sl [x.v]) (ys := [x.v]) rfl (by intro v hv; simp only [List.mem_singleton] at hv; subst hv; exact leg_cells x) hev r1 r3
  obtain ⟨vr, w', β', e1, e2, e3, e4⟩ := hok
  have hrun : ∀ ty, (Builtin.append_ #[58, 58] ty #[v1, .slice (some ⟨vb, vo, none⟩) 1 vc]).run Tryz.prog w = .ok vr w' := fun ty => e1
  obtain ⟨base, hv1⟩ : ∃ base, v1 = .slice base 0 0 := by
    rcases hu with rfl | rfl
    · cases r1; exact ⟨_, rfl⟩
    · cases r1; exact ⟨_, rfl⟩
  subst hv1
  refine (Go.Proofs.Ins.ends base 0 0 _ vb vo vc rfl w hrun (Nat.le_refl _)).mono ?_
  rintro e W' ⟨rfl, rfl⟩
  exact ⟨vr, _, _, β', rfl, ⟨rfl, rfl⟩, e2, e3, e4⟩
end
end Go.TL
