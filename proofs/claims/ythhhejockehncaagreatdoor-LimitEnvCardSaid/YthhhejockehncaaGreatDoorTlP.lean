/-
  Tree land, part P: each prepared operation does what the model's operation does.
-/
import Derived.Test.YthhhejockehncaaGreatDoorTlO
set_option linter.all false
namespace Go.TL
open Go

section
variable {P : Program} {G : Globals}

theorem map_some {α β : Type} {o : Option α} {f : α → β} {y : β} (h : o.map f = some y) : ∃ x, o = some x ∧ f x = y := by
  cases o with
  | none => cases h
  | some x => exact ⟨x, rfl, by simpa using h⟩

theorem pair_eq {α β : Type} {a a' : α} {b b' : β} (h : (a, b) = (a', b')) : a = a' ∧ b = b' := by injection h with h1 h2; exact ⟨h1, h2⟩

theorem parts_spec {t : TypeId} : ∀ {l : List (Nat × Operand)} {ps : List (Nat × Nat × Opd)}, prepParts P t l = some ps → ps.length = l.length ∧
    ∀ (i : Nat) (p : Nat × Nat × Opd) (x : Nat × Operand), ps[i]? = some p → l[i]? = some x → placeOf P t x.1 = some (p.1, p.2.1) ∧ p.2.2 = prepOpd x.2
  | [], ps, h => by
    simp only [prepParts, Option.some.injEq] at h
    subst h
    exact ⟨rfl, fun i p x h => by simp at h⟩
  | (i0, x0) :: r, ps, h => by
    simp only [prepParts] at h
    split at h <;> try (cases h; done)
    rename_i o s l h1 h2
    injection h with h
    subst h
    obtain ⟨q1, q2⟩ := parts_spec h2
    refine ⟨by simp [q1], fun i p x e1 e2 => ?_⟩
    cases i with
    | zero =>
      simp at e1 e2
      subst e1; subst e2
      exact ⟨h1, rfl⟩
    | succ i => exact q2 i p x (by simpa using e1) (by simpa using e2)

theorem slc_ok {t : TypeId} {k : SK} (hp : prepSlice P t = some k) {x : V} {lo hi : Option V} {v : V} {A : Nat → Prop} {w : World} {β : Beta} {σ : List Cell} (h : evSlc σ k x lo hi = some v) (hs : SR G w A β σ) {a : Value} {b c : Option Value}
    (ha : Rel w (Mav A β σ) β x a) (rb : RelB w (Mav A β σ) β lo b) (rc : RelB w (Mav A β σ) β hi c) : ∃ y, (Instr.sliceAt t a b c none).run P w = .ok y w ∧ Rel w (Mav A β σ) β v y := by
  have hk : (k = .str ∧ P.underlying t = some .string) ∨ ∃ e n, k = .slice n ∧ P.underlying t = some (.slice e) ∧ sizeP P e = some n := by
    unfold prepSlice at hp
    split at hp <;> try (cases hp; done)
    · rename_i hu
      injection hp with hp
      exact .inl ⟨hp.symm, hu⟩
    · rename_i e hu
      obtain ⟨n, h1, h2⟩ := map_some hp
      exact .inr ⟨e, n, h2.symm, hu, h1⟩
  unfold evSlc at h
  split at h <;> try (cases h; done)
  · rcases hk with ⟨-, hu⟩ | ⟨e, n, hc, -⟩
    · exact slice_str_ok hu h ha rb rc
    · cases hc
  · rcases hk with ⟨hc, -⟩ | ⟨e, n, hc, hu, hz⟩
    · cases hc
    · exact slice_nils_ok hu hz h ha rb rc
  · rcases hk with ⟨hc, -⟩ | ⟨e, n, hc, hu, hz⟩
    · cases hc
    · injection hc with hc
      subst hc
      split at h <;> try (cases h; done)
      rename_i hall
      exact slice_sl_ok hu hz (fun y hy => by simpa using List.all_eq_true.1 hall y hy) h ha rb rc
  · rcases hk with ⟨hc, -⟩ | ⟨e, n, hc, hu, hz⟩
    · cases hc
    · injection hc with hc
      subst hc
      split at h <;> try (cases h; done)
      rename_i s ys hrow
      split at h <;> try (cases h; done)
      rename_i hss
      subst hss
      exact slice_osl_ok hu hz hrow h hs ha rb rc

theorem clip_ok {t e : TypeId} {sz : Nat} (hu : P.underlying t = some (.slice e)) (hz : sizeP P e = some sz) {x v : V} (h : evClip x = some v) {lo : Option Operand} {hi mx : Operand} (h1 : zeroK lo = true) (h2 : zeroK (some hi) = true) (h3 : zeroK (some mx) = true)
    {a : Act} {w : World} {M : Nat → Prop} {β : Beta} {y : Value} (ha : Rel w M β x y) :
    ∃ z, (Instr.sliceAt t y (lo.map a.eval) (some (a.eval hi)) (some (a.eval mx))).run P w = .ok z w ∧ Rel w M β v z := by
  have hk : ∀ o : Operand, zeroK (some o) = true → ∃ k, a.eval o = .int k 0 := by
    intro o ho
    unfold zeroK at ho
    split at ho <;> try (cases ho; done)
    · rename_i he; cases he
    · rename_i k he
      injection he with he
      subst he
      exact ⟨k, rfl⟩
  have hlo : lo.map a.eval = none ∨ ∃ k, lo.map a.eval = some (.int k 0) := by
    cases lo with
    | none => exact .inl rfl
    | some o =>
      obtain ⟨k, hk⟩ := hk o h1
      exact .inr ⟨k, by simp [hk]⟩
  obtain ⟨k2, e2⟩ := hk hi h2
  obtain ⟨k3, e3⟩ := hk mx h3
  have hb : ∀ (k : IntKind) (y : Nat) (code : BoundsCode), (Instr.sliceBound (.int k 0) y code).run P w = .ok 0 w := fun k y code => by
    have := sliceBound_ok (P := P) (k := k) (i := 0) (y := y) (code := code) (w := w) (Int.le_refl 0) (by omega)
    simpa using this
  have hsb : ∀ len cap, (Instr.sliceBounds true len cap (lo.map a.eval) (some (a.eval hi)) (some (a.eval mx))).run P w = .ok (0, 0, 0) w := fun len cap => by
    rw [e2, e3]
    rcases hlo with h | ⟨k, h⟩ <;> rw [h] <;> simp [Instr.sliceBounds, hb]
  unfold evClip at h
  split at h <;> try (cases h; done)
  · injection h with h
    subst h
    cases ha
    exact ⟨.slice none 0 0, by simp only [Instr.sliceAt, Sem.run_bind, run_underlying hu, Result.andThen_ok, Instr.slice, hsb, run_sizeOf hz, Sem.run_pure]; rfl, .nils⟩
  all_goals
    injection h with h
    subst h
    cases ha
    all_goals exact ⟨_, by simp only [Instr.sliceAt, Sem.run_bind, run_underlying hu, Result.andThen_ok, Instr.slice, hsb, run_sizeOf hz, Sem.run_pure]; rfl, .cap0 _⟩

theorem nil_ok {x v : V} (h : evNil x = some v) {w : World} {M : Nat → Prop} {β : Beta} {y : Value} (ha : Rel w M β x y) {o : Oper} {a : Act} {q : Operand} (ho : o.op = .nilCheck q) (hq : a.eval q = y) :
    (execOp a.eval o).run P w = .ok (.value y) w ∧ Rel w M β v y := by
  unfold evNil at h
  split at h <;> try (cases h; done)
  · injection h with h; subst h
    refine ⟨?_, ha⟩
    cases ha
    simp only [execOp, ho, hq]; rfl
  · injection h with h; subst h
    refine ⟨?_, ha⟩
    cases ha
    simp only [execOp, ho, hq]; rfl
  · injection h with h; subst h
    refine ⟨?_, ha⟩
    cases ha
    simp only [execOp, ho, hq]; rfl
  · split at h <;> try (cases h; done)
    rename_i hm
    injection h with h; subst h
    refine ⟨?_, ha⟩
    cases ha
    rename_i f _ _ _ _ _ _ _ _ _
    simp only [execOp, ho, hq]
    cases f <;> first | rfl | exact absurd rfl (hm _)

theorem op_ok {mo : Bool} {o : Oper} {q : O} (hp : prepOp mo P o.op = some q) {A : Nat → Prop} {w : World} {β : Beta} {σ σ' : List Cell} {tm : List V} {a : Act} (hs : St G A w β σ tm a) {v : V} (h : evO G tm σ q = some (v, σ')) :
    OkOp P G A w β σ (execOp a.eval o) v σ' := by
  have her := fun x => ev_rel hs x
  unfold prepOp at hp
  split at hp <;> try (cases hp; done)
  case h_1 x ho =>
    injection hp with hp; subst hp
    simp only [evO, Option.some.injEq] at h
    obtain ⟨rfl, rfl⟩ := pair_eq h
    exact ⟨_, _, w, β, by simp only [execOp, ho]; rfl, .inl rfl, her x, hs.sr, .refl _ _ _⟩
  case h_2 x ho =>
    injection hp with hp; subst hp
    simp only [evO, Option.some.injEq] at h
    obtain ⟨rfl, rfl⟩ := pair_eq h
    exact ⟨_, _, w, β, by simp only [execOp, ho]; rfl, .inl rfl, her x, hs.sr, .refl _ _ _⟩
  case h_3 c x y ho =>
    injection hp with hp; subst hp
    simp only [evO] at h
    have hc := her c
    split at h <;> try (cases h; done)
    · rename_i hb
      rw [hb] at hc
      injection h with h
      obtain ⟨rfl, rfl⟩ := pair_eq h
      generalize hv : a.eval c = u at hc
      cases hc
      exact ⟨_, _, w, β, by simp only [execOp, ho, hv, asBool, Sem.run_bind, Sem.run_pure, Result.andThen_ok, if_true], .inl rfl, her x, hs.sr, .refl _ _ _⟩
    · rename_i hb
      rw [hb] at hc
      injection h with h
      obtain ⟨rfl, rfl⟩ := pair_eq h
      generalize hv : a.eval c = u at hc
      cases hc
      exact ⟨_, _, w, β, by simp only [execOp, ho, hv, asBool, Sem.run_bind, Sem.run_pure, Result.andThen_ok, Bool.false_eq_true, if_false], .inl rfl, her y, hs.sr, .refl _ _ _⟩
  case h_4 t ho =>
    obtain ⟨z, hz, rfl⟩ := map_some hp
    simp only [evO, Option.some.injEq] at h
    obtain ⟨rfl, rfl⟩ := pair_eq h
    have := OkOp.val (alloc_ok (P := P) hs.sr hz)
    simp only [execOp, ho]
    exact this
  case h_5 t x ho =>
    injection hp with hp; subst hp
    simp only [evO] at h
    split at h <;> try (cases h; done)
    rename_i hst
    injection h with h
    obtain ⟨rfl, rfl⟩ := pair_eq h
    have := OkOp.val (box_ok (P := P) hs.sr t hst (her x))
    simp only [execOp, ho]
    exact this
  case h_6 t parts ho =>
    split at hp <;> try (cases hp; done)
    rename_i z ps hz hps
    split at hp <;> try (cases hp; done)
    rename_i hall
    injection hp with hp; subst hp
    simp only [evO] at h
    obtain ⟨cs, hcs, h⟩ := map_some h
    obtain ⟨rfl, rfl⟩ := pair_eq h
    obtain ⟨l1, l2⟩ := parts_spec hps
    have := OkOp.same (P := P) hs.sr (build_ok (xs := parts.map fun (i, x) => (i, a.eval x)) hz hall hcs (by simp [l1]) (fun i p x e1 e2 => by
      simp only [List.getElem?_map, Option.map_eq_some_iff] at e1
      obtain ⟨p0, e1, rfl⟩ := e1
      simp only [Array.getElem?_map, Option.map_eq_some_iff] at e2
      obtain ⟨x0, e2, rfl⟩ := e2
      obtain ⟨m1, m2⟩ := l2 i p0 x0 e1 (by simpa using e2)
      refine ⟨m1, ?_⟩
      simp only [m2]
      exact her x0.2))
    simp only [execOp, ho]
    exact this
  case h_7 t n parts ho =>
    obtain ⟨z, hz, rfl⟩ := map_some hp
    have hparts : ∀ (i : Nat) (p : Nat × V) (x : Nat × Value), ((parts.toList.map fun p => (p.1, prepOpd p.2)).map fun p => (p.1, ev G tm p.2))[i]? = some p → (parts.map fun (i, x) => (i, a.eval x))[i]? = some x → x.1 = p.1 ∧ Rel w (Mav A β σ) β p.2 x.2 := by
      intro i p x e1 e2
      simp only [List.getElem?_map, Option.map_eq_some_iff] at e1
      obtain ⟨p0, ⟨p1, e1, rfl⟩, rfl⟩ := e1
      simp only [Array.getElem?_map, Option.map_eq_some_iff] at e2
      obtain ⟨x0, e2, rfl⟩ := e2
      have : p1 = x0 := by
        have e3 : parts.toList[i]? = some x0 := by simpa using e2
        rw [e1] at e3
        injection e3
      subst this
      exact ⟨rfl, her p1.2⟩
    cases mo with
    | true =>
      simp only [if_true, evO] at h
      have := OkOp.val (row_ok (P := P) (xs := parts.map fun (i, x) => (i, a.eval x)) hz hs.sr h (by simp) hparts)
      simp only [execOp, ho]
      exact this
    | false =>
      simp only [Bool.false_eq_true, if_false, evO] at h
      obtain ⟨u, hu, h⟩ := map_some h
      obtain ⟨rfl, rfl⟩ := pair_eq h
      have := OkOp.val (lit_ok (P := P) (xs := parts.map fun (i, x) => (i, a.eval x)) hz hs.sr hu (by simp) hparts)
      simp only [execOp, ho]
      exact this
  case h_8 t x ho =>
    split at hp <;> try (cases hp; done)
    · rename_i n hagg hn
      injection hp with hp; subst hp
      simp only [evO] at h
      obtain ⟨cs, hcs, h⟩ := map_some h
      obtain ⟨rfl, rfl⟩ := pair_eq h
      have := OkOp.same (P := P) hs.sr (ldA_ok hagg hn hs.sr hcs (her x))
      simp only [execOp, ho]
      exact this
    · rename_i hagg
      injection hp with hp; subst hp
      simp only [evO] at h
      split at h <;> try (cases h; done)
      rename_i v' hcs
      injection h with h
      obtain ⟨rfl, rfl⟩ := pair_eq h
      have := OkOp.same (P := P) hs.sr (ld1_ok hagg hs.sr hcs (her x))
      simp only [execOp, ho]
      exact this
  case h_9 t x y ho =>
    obtain ⟨n, hn, rfl⟩ := map_some hp
    simp only [evO] at h
    obtain ⟨s, hst, h⟩ := map_some h
    obtain ⟨rfl, rfl⟩ := pair_eq h
    obtain ⟨w', h1, h2, h3⟩ := store_ok (P := P) hn hs.sr hst (her x) (her y)
    exact ⟨.skip, undef, w', β, by simp only [execOp, ho, Sem.run_bind, h1, Result.andThen_ok, Sem.run_pure], .inr ⟨rfl, rfl⟩, .any _, h2, h3⟩
  case h_10 x ho =>
    injection hp with hp; subst hp
    simp only [evO] at h
    obtain ⟨v', hv, h⟩ := map_some h
    obtain ⟨rfl, rfl⟩ := pair_eq h
    obtain ⟨h1, h2⟩ := nil_ok (P := P) hv (her x) ho rfl
    exact ⟨_, _, w, β, h1, .inl rfl, h2, hs.sr, .refl _ _ _⟩
  case h_11 op t x y yt ho =>
    injection hp with hp; subst hp
    simp only [evO] at h
    obtain ⟨v', hv, h⟩ := map_some h
    obtain ⟨rfl, rfl⟩ := pair_eq h
    have := OkOp.same (P := P) hs.sr (bin_ok (P := P) (ox := x) (oy := y) hv (fun hk => by simpa using hk) (her x) (her y))
    simp only [execOp, ho]
    exact this
  case h_12 op t x ho =>
    injection hp with hp; subst hp
    simp only [evO] at h
    obtain ⟨v', hv, h⟩ := map_some h
    obtain ⟨rfl, rfl⟩ := pair_eq h
    have := OkOp.same (P := P) hs.sr (un_ok (P := P) hv (her x))
    simp only [execOp, ho]
    exact this
  case h_13 s d x ho =>
    split at hp <;> try (cases hp; done)
    · rename_i k hk
      injection hp with hp; subst hp
      simp only [evO] at h
      obtain ⟨v', hv, h⟩ := map_some h
      obtain ⟨rfl, rfl⟩ := pair_eq h
      have := OkOp.same (P := P) hs.sr (convI_ok (P := P) hk hv (her x))
      simp only [execOp, ho]
      exact this
    · rename_i hk
      injection hp with hp; subst hp
      simp only [evO] at h
      obtain ⟨v', hv, h⟩ := map_some h
      obtain ⟨rfl, rfl⟩ := pair_eq h
      have := OkOp.same (P := P) hs.sr (convS_ok (P := P) hk hv (her x))
      simp only [execOp, ho]
      exact this
  case h_14 t x ho =>
    split at hp <;> try (cases hp; done)
    rename_i hk
    injection hp with hp; subst hp
    simp only [evO] at h
    split at h <;> try (cases h; done)
    rename_i hst
    injection h with h
    obtain ⟨rfl, rfl⟩ := pair_eq h
    have := OkOp.same (P := P) hs.sr (ifc_ok (P := P) hk hst (her x))
    simp only [execOp, ho]
    exact this
  case h_15 f as bs ho =>
    injection hp with hp; subst hp
    simp only [evO, Option.some.injEq] at h
    obtain ⟨rfl, rfl⟩ := pair_eq h
    have := OkOp.same (P := P) hs.sr (fn_ok (P := P) (f := f) (evs_rel hs as) (evs_rel hs bs))
    simp only [execOp, ho]
    exact this
  case h_16 t l c ho =>
    obtain ⟨z, hz, rfl⟩ := map_some hp
    simp only [evO] at h
    have := OkOp.val (make_ok (P := P) hz hs.sr h (her l) (her c))
    simp only [execOp, ho]
    exact this
  case h_17 t x lo hi ho =>
    obtain ⟨k, hk, rfl⟩ := map_some hp
    simp only [evO] at h
    obtain ⟨v', hv, h⟩ := map_some h
    obtain ⟨rfl, rfl⟩ := pair_eq h
    have := OkOp.same (P := P) hs.sr (slc_ok (P := P) hk hv hs.sr (her x) (evb_rel hs lo) (evb_rel hs hi))
    simp only [execOp, ho]
    exact this
  case h_18 t x lo hi mx hmx ho =>
    split at hp <;> try (cases hp; done)
    rename_i e hu
    split at hp <;> try (cases hp; done)
    rename_i hc
    injection hp with hp; subst hp
    simp only [Bool.and_eq_true] at hc
    obtain ⟨⟨⟨⟨⟨c1, c2⟩, c3⟩, c4⟩, c5⟩, c6⟩ := hc
    obtain ⟨hi', rfl⟩ := Option.isSome_iff_exists.1 c2
    obtain ⟨mx', rfl⟩ := Option.isSome_iff_exists.1 c3
    obtain ⟨sz, hz⟩ := Option.isSome_iff_exists.1 c6
    simp only [evO] at h
    obtain ⟨v', hv, h⟩ := map_some h
    obtain ⟨rfl, rfl⟩ := pair_eq h
    have := OkOp.same (P := P) hs.sr (clip_ok (P := P) (a := a) hu hz hv c1 c4 c5 (her x))
    simp only [execOp, ho]
    exact this
  case h_19 t x f ho =>
    obtain ⟨k, hk, rfl⟩ := map_some hp
    simp only [evO] at h
    obtain ⟨v', hv, h⟩ := map_some h
    obtain ⟨rfl, rfl⟩ := pair_eq h
    have := OkOp.same (P := P) hs.sr (fa_ok (P := P) hk hv (her x))
    simp only [execOp, ho]
    exact this
  case h_20 t x f ho =>
    obtain ⟨k, hk, rfl⟩ := map_some hp
    simp only [evO] at h
    obtain ⟨v', hv, h⟩ := map_some h
    obtain ⟨rfl, rfl⟩ := pair_eq h
    have := OkOp.same (P := P) hs.sr (field_ok (P := P) hk hv (her x))
    simp only [execOp, ho]
    exact this
  case h_21 t x i ho =>
    split at hp <;> try (cases hp; done)
    · rename_i s hk
      injection hp with hp; subst hp
      simp only [evO] at h
      obtain ⟨v', hv, h⟩ := map_some h
      obtain ⟨rfl, rfl⟩ := pair_eq h
      have := OkOp.same (P := P) hs.sr (ia_ok (P := P) hk hs.sr hv (her x) (her i))
      simp only [execOp, ho]
      exact this
    · rename_i len s hk
      injection hp with hp; subst hp
      simp only [evO] at h
      obtain ⟨v', hv, h⟩ := map_some h
      obtain ⟨rfl, rfl⟩ := pair_eq h
      have := OkOp.same (P := P) hs.sr (iaa_ok (P := P) hk hv (her x) (her i))
      simp only [execOp, ho]
      exact this
  case h_22 t x i ho =>
    split at hp <;> try (cases hp; done)
    · rename_i hu
      injection hp with hp; subst hp
      simp only [evO] at h
      obtain ⟨v', hv, h⟩ := map_some h
      obtain ⟨rfl, rfl⟩ := pair_eq h
      have := OkOp.same (P := P) hs.sr (ix_ok (P := P) hu hv (her x) (her i))
      simp only [execOp, ho]
      exact this
    · rename_i len e hu
      split at hp <;> try (cases hp; done)
      rename_i s n hz hn
      injection hp with hp; subst hp
      simp only [evO] at h
      obtain ⟨v', hv, h⟩ := map_some h
      obtain ⟨rfl, rfl⟩ := pair_eq h
      have := OkOp.same (P := P) hs.sr (ixA_ok (P := P) hu hz hn hv (her x) (her i))
      simp only [execOp, ho]
      exact this
  case h_23 x i ho =>
    injection hp with hp; subst hp
    simp only [evO] at h
    obtain ⟨v', hv, h⟩ := map_some h
    obtain ⟨rfl, rfl⟩ := pair_eq h
    have := OkOp.same (P := P) hs.sr (ext_ok (P := P) hv (her x))
    simp only [execOp, ho]
    exact this
  case h_24 c ho =>
    split at hp <;> try (cases hp; done)
    rename_i b hb
    have hrun : execOp a.eval o = builtin b c.argTypes o.type (c.args.map fun | .const _ => true | _ => false) (c.args.map a.eval) := by
      simp only [execOp, ho, resolve, hb, invoke]
      rfl
    rw [hrun]
    unfold prepBuiltin at hp
    split at hp <;> try (cases hp; done)
    · rename_i x t hxs hts
      have e1 : c.args = #[x] := by rw [← Array.toArray_toList (xs := c.args), hxs]
      have e2 : c.argTypes = #[t] := by rw [← Array.toArray_toList (xs := c.argTypes), hts]
      obtain ⟨k, hk, rfl⟩ := map_some hp
      simp only [evO] at h
      obtain ⟨v', hv, h⟩ := map_some h
      obtain ⟨rfl, rfl⟩ := pair_eq h
      have := OkOp.same (P := P) hs.sr (len_ok (P := P) hk hv (her x) o.type)
      rw [e1, e2, show Array.map a.eval #[x] = #[a.eval x] by simp]
      exact this
    · rename_i x y t u hxs hts
      have e1 : c.args = #[x, y] := by rw [← Array.toArray_toList (xs := c.args), hxs]
      have e2 : c.argTypes = #[t, u] := by rw [← Array.toArray_toList (xs := c.argTypes), hts]
      obtain ⟨k, hk, rfl⟩ := map_some hp
      simp only [evO] at h
      split at h <;> try (cases h; done)
      rename_i ys hys
      split at h <;> try (cases h; done)
      rename_i hsz
      have := OkOp.val (app_ok (P := P) (ty := o.type) hk hs.sr hys (fun v hv => by simpa using List.all_eq_true.1 hsz v hv) h (her x) (her y))
      rw [e1, e2, show Array.map a.eval #[x, y] = #[a.eval x, a.eval y] by simp]
      exact this
    · injection hp with hp; subst hp
      simp only [evO] at h
      obtain ⟨v', hv, h⟩ := map_some h
      obtain ⟨rfl, rfl⟩ := pair_eq h
      exact OkOp.same (P := P) hs.sr (max_ok (P := P) hv (evs_rel hs c.args) c.argTypes o.type)
    · injection hp with hp; subst hp
      simp only [evO] at h
      obtain ⟨v', hv, h⟩ := map_some h
      obtain ⟨rfl, rfl⟩ := pair_eq h
      exact OkOp.same (P := P) hs.sr (min_ok (P := P) hv (evs_rel hs c.args) c.argTypes o.type)
  case h_25 x xt t ok ho =>
    obtain ⟨z, hz, rfl⟩ := map_some hp
    simp only [evO] at h
    obtain ⟨v', hv, h⟩ := map_some h
    obtain ⟨rfl, rfl⟩ := pair_eq h
    have := OkOp.same (P := P) hs.sr (ta_ok (P := P) hz hv (her x) xt)
    simp only [execOp, ho]
    exact this

end
end Go.TL
