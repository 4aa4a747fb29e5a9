/- LimitEnv: the contract and the card, from the function's own theorem. -/
import Derived.Test.YthhhejockehncaaGreatDoorTlOp
import Derived.Test.YthhhejockehncaaGreatDoorTlFe
import Derived.Lib.LaidTab
import Derived.LaidLaws
import Derived.Test.YthhhejockehncaaGreatDoorTie
import Derived.OpenShut
import Derived.SevenTiedAt
import Derived.Stop.Joined
import Derived.JoinedCondRecord
import Derived.Deep.DeepWitnessRowRef
import Derived.Deep.DeepHandedRow
set_option maxRecDepth 20000
set_option linter.all false
set_option linter.unusedVariables false
namespace Go.TL
open Go Go.Proofs
noncomputable section
open Go.ChangeShapes Go.WideShapes Go.ChangeAt Go.RowKit
open Go.Proofs.YthhhejockehncaaGreatDoor (Rows.limitEnvRow Rows.limitEnvSpec)
namespace Ev
open Go.Proofs.YthhhejockehncaaGreatDoor
theorem gTab : Tryz.prog.globalNamed "strings.asciiSpace" = some 2 := by kernel_rfl
theorem laidOut : laidOutB Tryz.prog = true := by kernel_rfl
theorem p4 : Tryz.f3.params = #[33, 35] := by kernel_rfl
theorem u3 : Tryz.prog.underlying 3 = some (.int .i64) := by kernel_rfl
theorem u4 : Tryz.prog.underlying 4 = some .bool := by kernel_rfl

/-- What the row's list gives: the table's cells. -/
theorem table {W : World} (h : laidMetH Tryz.prog Rows.limitEnvRow.laid W) : Lib.TabIs Tryz.prog W "strings.asciiSpace" .u8 asciiSpace := by
  have h : laidMet Tryz.prog Rows.limitEnvRow.laid W := h
  obtain ⟨ps, hv, hnd, hc⟩ := h
  iterate 7 obtain ⟨_, _, _, _, _, _, _, _, _, _, hv, _⟩ := hv
  obtain ⟨g', t', cs, fuel, p, q, hg', ht', hvar, hd, _, _⟩ := hv
  obtain rfl := Option.some.inj (gTab.symm.trans hg')
  obtain rfl := Option.some.inj ((show (Tryz.prog.globals[2]?).map (·.type) = some 246 by kernel_rfl).symm.trans ht')
  rw [show (Rows.laid_strings_asciiSpace : DataW Unit) = Lib.tabData .u8 asciiSpace by kernel_rfl] at hd
  unfold Lib.TabIs
  rw [hvar, ← Lib.cells_of_tab (show Tryz.prog.underlying 246 = some (.array 256 5) by kernel_rfl) (show Tryz.prog.underlying 5 = some (.int .u8) by kernel_rfl) (by kernel_rfl) (by kernel_rfl) hd]

theorem s33 : Tryz.prog.underlying 33 = some (.struct #[{ name := "Currencies", type := 22, offset := 0, embedded := false, tag := "", pkgPath := "", byteOffset := 0 }, { name := "Calendars", type := 23, offset := 1, embedded := false, tag := "", pkgPath := "", byteOffset := 24 }, { name := "Chart", type := 24, offset := 2, embedded := false, tag := "", pkgPath := "", byteOffset := 48 }, { name := "Plan", type := 26, offset := 3, embedded := false, tag := "", pkgPath := "", byteOffset := 72 }, { name := "Products", type := 27, offset := 17, embedded := false, tag := "", pkgPath := "", byteOffset := 184 }, { name := "Accounts", type := 28, offset := 18, embedded := false, tag := "", pkgPath := "", byteOffset := 208 }, { name := "Journal", type := 29, offset := 19, embedded := false, tag := "", pkgPath := "", byteOffset := 232 }, { name := "Holds", type := 30, offset := 20, embedded := false, tag := "", pkgPath := "", byteOffset := 256 }, { name := "Blocks", type := 31, offset := 21, embedded := false, tag := "", pkgPath := "", byteOffset := 280 }]) := by kernel_rfl
theorem s35 : Tryz.prog.underlying 35 = some (.struct #[{ name := "Id", type := 3, offset := 0, embedded := false, tag := "", pkgPath := "", byteOffset := 0 }, { name := "Day", type := 3, offset := 1, embedded := false, tag := "", pkgPath := "", byteOffset := 8 }, { name := "Amount", type := 3, offset := 2, embedded := false, tag := "", pkgPath := "", byteOffset := 16 }]) := by kernel_rfl
theorem okWide_struct {P : Program} {W : World} {r : Reach} {base : Nat} {t : TypeId} {v : Value} {fs : Array Field} (hu : P.underlying t = some (.struct fs)) (h : Value.okWide P W r base t v) : ∃ cs, v = .agg cs := by
  unfold Value.okWide at h
  rw [hu] at h
  obtain ⟨cs, h, -⟩ := h
  exact ⟨cs, h⟩

theorem post_below {H : Type} {enc : TypeId × Value → H} {P : Program} {f : Func} {s : ChangeSpec} {apart fresh handsOn again : Bool} {W W' : World} {args : Array Value} {v : Value} {ds gs : List (DataW H)} {before pa pv : List MemPlace}
    (hW : DataW.Whole enc P f.params.toList s.vars apart W args.toList ds gs before)
    (hres : ∀ (b : Nat) (sp : Nat → Bool) (hd : Bool), DataW.TrodAll enc P W' b sp hd f.resultTypes.toList (v.resultList f.resultTypes.size) (s.fn H (ds ++ gs)).results [])
    (hargs : ∀ sp : Nat → Bool, (∀ p ∈ before, sp p.block = true) → DataW.TrodAll enc P W' 0 sp true f.params.toList args.toList (s.fn H (ds ++ gs)).args pa)
    (hvars : ∀ sp : Nat → Bool, (∀ p ∈ before, sp p.block = true) → DataW.TrodVars enc P W' sp s.vars (s.fn H (ds ++ gs)).vars pv)
    (hps : before = pa ++ pv) (hb : RowKit.Below W.heap.size W W')
    (hok : ∀ (j : Nat) (t : TypeId) (r : Value), f.resultTypes[j]? = some t → (v.resultList f.resultTypes.size)[j]? = some r → Value.okWide P W' .any 0 t r) :
    s.post enc P f apart fresh handsOn again W args v W' := by
  have hold : ∀ p ∈ before, (fun b => decide (b < W.heap.size)) p.block = true := fun p hp => by simpa using hW.lt p hp
  have hlt := hW.lt
  refine ⟨ds, gs, before, [], pa, pv, hW, hres _ _ _, hargs _ hold, hvars _ hold, World.keptBut_mono (fun p hp => ⟨hp, ?_⟩) (hb.frame (· ∈ before)), fun _ => ?_⟩
  · rw [hps, List.mem_append] at hp
    exact Or.inr hp
  · obtain ⟨_, _, _, _, _, hz, hn⟩ := hW
    refine ⟨hok, _, _, ([] ++ pa) ++ pv, ⟨[] ++ pa, pv, trodAll_append (hargs _ (fun _ _ => rfl)) (hres _ _ _), hvars _ (fun _ _ => rfl), rfl, ?_, ?_⟩, ?_⟩
    · intro b off hp
      have hin : MemPlace.cell b off ∈ before := by rw [hps]; simpa using hp
      rw [hb.frozen (p := ⟨b, off, none⟩) (hlt _ hin)]
      exact hz b off hin
    · intro ha
      have := hn ha
      rw [hps] at this
      simpa using this
    · intro p hp _
      rw [hps]
      simpa using hp

theorem rel_agg {w : World} {M : Nat → Prop} {xs : List V} {cs : Array Value} (h : RelL w M [] xs cs.toList) (hs : xs.all V.leaf = true) : Rel w M [] (.agg xs) (.agg cs) := by
  have hl : cs.size = xs.length := by simpa using h.1
  refine .agg hl (fun v hv => List.all_eq_true.1 hs v hv) (fun j hj => ?_)
  have hlt : j < cs.size := by omega
  refine h.2 j hj _ ?_
  simp [Array.getD, hlt]

theorem contract (main : ∀ (b : ApiBooks) (q : Corebanklaw25Query), b.fit → q.fit → Pure Tryz.prog (Gl.at 0) 3 [b.v, q.v] (.bool true))
    (H : Type) (enc : TypeId × Value → H) (W : World) (base : Nat) (args : Array Value) (ds gs : List (DataW H)) (before : List MemPlace)
    (hval : ∀ (j : Nat) t v, Tryz.f3.params[j]? = some t → args[j]? = some v → Value.okWide Tryz.prog W .any base t v)
    (hW : DataW.Whole enc Tryz.prog Tryz.f3.params.toList Rows.limitEnvSpec.vars false W args.toList ds gs before) (hL : laidMetH Tryz.prog Rows.limitEnvRow.laid W) :
    Calls Tryz.prog 3 args W fun e W' => ∃ v, e = .returned v ∧ Rows.limitEnvSpec.post enc Tryz.prog Tryz.f3 false true false false W args v W' := by
  have hW' := hW
  obtain ⟨p, q, hA0, hV, rfl, hfz, hnd⟩ := hW
  have hA : DataW.TrodAll enc Tryz.prog W 0 (fun _ => true) true Tryz.f3.params.toList args.toList ds p := hA0
  rw [p4] at hA hval
  obtain ⟨v0, v1, d0, d1, p0, p1, rfl, rfl, rfl, h0, h1⟩ := trodAll_two hA
  obtain ⟨rfl, rfl⟩ := trodVars_none hV
  have hlt : ∀ x ∈ p0 ++ p1 ++ [], x.block < W.heap.size := fun x hx => hW'.lt x hx
  -- the values
  obtain ⟨cs0, rfl⟩ := okWide_struct s33 (hval 0 33 v0 rfl rfl)
  obtain ⟨cs1, rfl⟩ := okWide_struct s35 (hval 1 35 v1 rfl rfl)
  have h0' := h0
  have h1' := h1
  obtain ⟨n0, g0⟩ := h0
  obtain ⟨n1, g1⟩ := h1
  obtain ⟨b, rb, fb⟩ := open_ApiBooks n0 enc W 0 (fun _ => true) true cs0.toList (d0, p0) g0
  obtain ⟨q, rq, fq⟩ := open_Corebanklaw25Query n1 enc W 0 (fun _ => true) true cs1.toList (d1, p1) g1
  -- the call
  have hglob : Glob (Gl.at 0) M0 W := by
    intro gv hgv
    simp only [Gl, Globals.at, List.mem_singleton] at hgv
    subst hgv
    exact .imm (fun j => .int .u8 (asciiSpace.getD j 0)) (fun v hv => by obtain ⟨x, -, rfl⟩ := List.mem_map.1 hv; rfl)
      (fun j hj => ⟨by have := (table hL).cell gTab j (by simpa using hj); simpa using this, fun h => h⟩) (fun j hj => by
        have hj' : j < asciiSpace.length := by simpa using hj
        have : asciiSpace.getD j 0 = asciiSpace[j] := by simp [List.getD, hj']
        rw [this, List.getElem_map]
        exact .int _ _)
  obtain ⟨nx, w1, r1, r2⟩ := main b q fb fq M0 W #[.agg cs0, .agg cs1] (fun _ h => h.elim) hglob ⟨rfl, fun j hj x hx => by
    match j, hj with
    | 0, _ => simp at hx; subst hx; exact rel_agg rb rfl
    | 1, _ => simp at hx; subst hx; exact rel_agg rq rfl⟩
  have hent := run_enter (P := Tryz.prog) (f := 3) (fn := Tryz.f3) Tryz.func3 (by decide) (rfl : Tryz.f3.body = some _) #[.agg cs0, .agg cs1] W
  rw [hent] at r1
  injection r1 with r1 r1'
  subst r1; subst r1'
  rcases r2 with ⟨x, hx, -⟩ | ⟨-, -, hcalls⟩
  · cases hx
  refine hcalls.mono ?_
  rintro e W' ⟨x, rfl, hx, hb⟩
  cases hx
  refine ⟨_, rfl, post_below (pa := p0 ++ p1) (pv := []) hW' (fun _ _ _ => trodAll_cons_mk (shut_bool u4 _) trodAll_mk0) (fun sp hsp => ?_) (fun _ _ => rfl) (by simp) hb (ok_one (by kernel_rfl) rfl (okWide_bool_mk u4 _))⟩
  · have same : ∀ {l : List MemPlace}, (∀ x ∈ l, x ∈ p0 ++ p1 ++ []) → ∀ x ∈ l, W.sameAt W' x := fun h x hx => hb.same (hlt x (h x hx))
    rw [p4]
    exact trodAll_mk2 (WideElems.Trod_stays laidOut (by kernel_rfl) (of_decide_eq_true (by kernel_rfl)) h0' (same (by simp +contextual)) (fun x hx => hsp x (by simp [hx])))
      (WideElems.Trod_stays laidOut (by kernel_rfl) (of_decide_eq_true (by kernel_rfl)) h1' (same (by simp +contextual)) (fun x hx => hsp x (by simp [hx])))

/-- A world for the witness: the settled one, the listed variables holding what their initialisers lay. -/
noncomputable def laidWorld (os : Os) : World :=
  let N := (World.settled Tryz.prog os).heap.size
  let w0 := World.holding Tryz.prog os ⟨#[.cells #[.int .u16 9, .int .u16 13, .int .u16 1, .int .u16 32, .int .u16 133, .int .u16 101, .int .u16 160, .int .u16 5760, .int .u16 5600, .int .u16 8192, .int .u16 8202, .int .u16 1, .int .u16 8232, .int .u16 8233, .int .u16 1, .int .u16 8239, .int .u16 8287, .int .u16 48, .int .u16 12288, .int .u16 12288, .int .u16 1] 276, .cells #[.slice (some ⟨N, 0, none⟩) 7 7, .slice none 0 0, .int .i64 2] 273, .cells #[.string ⟨#[105, 110, 118, 97, 108, 105, 100, 32, 115, 121, 110, 116, 97, 120]⟩] 284, .cells #[.string ⟨#[118, 97, 108, 117, 101, 32, 111, 117, 116, 32, 111, 102, 32, 114, 97, 110, 103, 101]⟩] 284], #[], []⟩
  let put (h : Array Obj) (g : Nat) (cs : Array Value) : Array Obj := h.modify g fun
    | .cells _ t frozen => .cells cs t frozen
    | o => o
  let h := put w0.heap 0 #[.int .i64 0, .int .i64 0, .int .i64 1, .int .i64 0, .int .i64 0, .int .i64 1, .int .i64 0, .int .i64 0, .int .i64 1, .int .i64 1]
  let h := put h 2 (asciiSpace.map fun z => Value.int .u8 z).toArray
  let h := put h 5 #[.pointer (some ⟨N + 1, 0, none⟩)]
  let h := put h 6 #[.iface 282 (.pointer (some ⟨N + 2, 0, none⟩))]
  let h := put h 7 #[.iface 282 (.pointer (some ⟨N + 3, 0, none⟩))]
  let h := put h 8 #[.int .u64 1, .int .u64 10, .int .u64 100, .int .u64 1000, .int .u64 10000, .int .u64 100000, .int .u64 1000000, .int .u64 10000000, .int .u64 100000000, .int .u64 1000000000, .int .u64 10000000000, .int .u64 100000000000, .int .u64 1000000000000, .int .u64 10000000000000, .int .u64 100000000000000, .int .u64 1000000000000000, .int .u64 10000000000000000, .int .u64 100000000000000000, .int .u64 1000000000000000000, .int .u64 10000000000000000000]
  let h := put h 9 #[.int .u8 0, .int .u8 1, .int .u8 28, .int .u8 2, .int .u8 29, .int .u8 14, .int .u8 24, .int .u8 3, .int .u8 30, .int .u8 22, .int .u8 20, .int .u8 15, .int .u8 25, .int .u8 17, .int .u8 4, .int .u8 8, .int .u8 31, .int .u8 27, .int .u8 13, .int .u8 23, .int .u8 21, .int .u8 19, .int .u8 16, .int .u8 7, .int .u8 26, .int .u8 12, .int .u8 18, .int .u8 6, .int .u8 11, .int .u8 5, .int .u8 10, .int .u8 9]
  let h := put h 10 #[.int .u8 0, .int .u8 1, .int .u8 56, .int .u8 2, .int .u8 57, .int .u8 49, .int .u8 28, .int .u8 3, .int .u8 61, .int .u8 58, .int .u8 42, .int .u8 50, .int .u8 38, .int .u8 29, .int .u8 17, .int .u8 4, .int .u8 62, .int .u8 47, .int .u8 59, .int .u8 36, .int .u8 45, .int .u8 43, .int .u8 51, .int .u8 22, .int .u8 53, .int .u8 39, .int .u8 33, .int .u8 30, .int .u8 24, .int .u8 18, .int .u8 12, .int .u8 5, .int .u8 63, .int .u8 55, .int .u8 48, .int .u8 27, .int .u8 60, .int .u8 41, .int .u8 37, .int .u8 16, .int .u8 46, .int .u8 35, .int .u8 44, .int .u8 21, .int .u8 52, .int .u8 32, .int .u8 23, .int .u8 11, .int .u8 54, .int .u8 26, .int .u8 40, .int .u8 15, .int .u8 34, .int .u8 20, .int .u8 31, .int .u8 10, .int .u8 25, .int .u8 14, .int .u8 19, .int .u8 9, .int .u8 13, .int .u8 8, .int .u8 7, .int .u8 6]
  { w0 with heap := h }

noncomputable def wArgs : Array Value := #[.agg #[.slice none 0 0, .slice none 0 0, .slice none 0 0, .int .i64 0, .int .i64 0, .int .i64 0, .int .i64 0, .int .i64 0, .int .i64 0, .int .i64 0, .int .i64 0, .int .i64 0, .int .i64 0, .int .i64 0, .int .i64 0, .int .i64 0, .int .i64 0, .slice none 0 0, .slice none 0 0, .slice none 0 0, .slice none 0 0, .slice none 0 0], .agg #[.int .i64 0, .int .i64 0, .int .i64 0]]
noncomputable def wData {H : Type} : List (DataW H) := [.agg [.nil, .nil, .nil, .agg [.lit (.int .i64 0), .lit (.int .i64 0), .lit (.int .i64 0), .lit (.int .i64 0), .lit (.int .i64 0), .lit (.int .i64 0), .lit (.int .i64 0), .lit (.int .i64 0), .lit (.int .i64 0), .lit (.int .i64 0), .lit (.int .i64 0), .lit (.int .i64 0), .lit (.int .i64 0), .lit (.int .i64 0)], .nil, .nil, .nil, .nil, .nil], .agg [.lit (.int .i64 0), .lit (.int .i64 0), .lit (.int .i64 0)]]
theorem laid_met (os : Os) : laidMet Tryz.prog Rows.limitEnvRow.laid ((laidWorld os).forCall (fun _ _ => 0) ⟨#[], wArgs, []⟩).memory :=
  laidMet_of_run' 12 (by kernel_rfl) (by kernel_rfl)
theorem own : ownKnob Tryz.prog.godebug = none := by kernel_rfl

theorem reads (os : Os) {H : Type} (enc : TypeId × Value → H) : ∃ places, DataW.whole enc Tryz.prog ((laidWorld os).forCall (fun _ _ => 0) ⟨#[], wArgs, []⟩).memory Tryz.f3.params.toList Rows.limitEnvSpec.vars false wArgs.toList 12 = some (wData, [], places) := by
  have hw : (DataW.whole enc Tryz.prog ((laidWorld os).forCall (fun _ _ => 0) ⟨#[], wArgs, []⟩).memory Tryz.f3.params.toList Rows.limitEnvSpec.vars false wArgs.toList 12).map (fun x => (x.1, x.2.1)) = some (wData, []) := by kernel_rfl
  obtain ⟨⟨x1, x2, x3⟩, hx, hx1⟩ := Option.map_eq_some_iff.1 hw
  simp only [Prod.mk.injEq] at hx1
  obtain ⟨rfl, rfl⟩ := hx1
  exact ⟨x3, hx⟩

abbrev Main : Prop := ∀ (b : ApiBooks) (q : Corebanklaw25Query), b.fit → q.fit → Pure Tryz.prog (Gl.at 0) 3 [b.v, q.v] (.bool true)

set_option maxRecDepth 100000 in
theorem lifted (main : Main) (os : Os) (started : os.Started) (H : Type) (enc : TypeId × Value → H) (F : Stop.Interp) :
    ReturnsInHanded {} Tryz.checked os 3 .any ((OpenSpec.ofChange Rows.limitEnvSpec).preRow enc Tryz.prog Tryz.f3 Rows.limitEnvRow.domain false Rows.limitEnvRow.laid) (((OpenSpec.ofChange Rows.limitEnvSpec).at F).post enc Tryz.prog Tryz.f3 false true false false) := by
  obtain ⟨places, hx⟩ := reads os enc
  refine returnsInHanded_of_row (C := Tryz.checked) (s := OpenSpec.ofChange Rows.limitEnvSpec) own started (by kernel_rfl) Tryz.func3
    (witness_row_atRef (enc := enc) (C := Tryz.checked) false (laidWorld os) wArgs rfl (by kernel_rfl) (by kernel_rfl) (by kernel_rfl)
      (OpenSpec.preRow_of_cond 12 hx (by kernel_rfl) (fun k hk => by cases hk) (by kernel_rfl) (laid_met os))) ?_
  intro W base args ds gs before hval hW _ _ _ hL _ _
  exact contract main H enc W base args ds gs before hval hW hL

theorem said (main : Main) : Rows.LimitEnvSaid :=
  OpenClaim.holds_of_cond 3 Tryz.f3 rfl rfl rfl rfl rfl rfl rfl ⟨rfl, rfl, rfl, rfl, rfl⟩ rfl rfl rfl rfl rfl (by kernel_rfl) Tryz.func3 jf
    (of_decide_eq_true (by kernel_rfl)) (by unfold Func.isWrapper; first | (rw [if_pos (by decide +kernel)]; kernel_rfl) | (rw [if_neg (by decide +kernel)]; exact ⟨rfl, rfl⟩))
    (fun os started H enc _ F => by rw [OpenClaim.pre_eq_preRow]; exact lifted main os started H enc F)

theorem plain (f : FuncId) (fn : Func) (hf : Tryz.pinned.checked.prog.funcNamed "corebank/corebanklaw25.LimitEnv" = some f) (hfn : Tryz.pinned.checked.prog.funcs[f]? = some fn) :
    true = Tryz.pinned.checked.prog.looks [] ∧ ∀ (j : Nat) t, fn.params[j]? = some t → Tryz.pinned.checked.prog.wantsStandIn t = false := by
  obtain rfl : f = 3 := Option.some.inj ((show Tryz.prog.funcNamed "corebank/corebanklaw25.LimitEnv" = some 3 by kernel_rfl).symm.trans hf) |>.symm
  obtain rfl : fn = Tryz.f3 := (Option.some.inj (Tryz.func3.symm.trans hfn)).symm
  refine ⟨by kernel_rfl, fun j t ht => ?_⟩
  rw [p4] at ht
  match j, ht with
  | 0, ht => simp at ht; subst ht; exact (show Tryz.prog.wantsStandIn 33 = false by kernel_rfl)
  | 1, ht => simp at ht; subst ht; exact (show Tryz.prog.wantsStandIn 35 = false by kernel_rfl)

theorem card (main : Main) : Rows.LimitEnvCardSaid :=
  Claim7.holds_tied_plain_at .later [] _ _ _ _ (said main) (fun _ h => by cases h) (by kernel_rfl) (fun _ h => by cases h) limitEnv_row_tie rfl ⟨rfl, rfl⟩ (by kernel_rfl) rfl plain (by kernel_rfl)

end Ev
end
end Go.TL
