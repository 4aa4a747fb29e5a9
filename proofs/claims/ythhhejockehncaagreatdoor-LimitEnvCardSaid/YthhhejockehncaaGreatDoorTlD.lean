/-
  Tree land, part D: rows that end, that are held, that grow in place.
-/
import Derived.Test.YthhhejockehncaaGreatDoorTlC
set_option linter.all false
namespace Go.TL
open Go

theorem Ext.set {w : World} {β : Beta} {σ : List Cell} {c : Nat} {cl cl' : Cell} (hc : σ[c]? = some cl) (hk : cl ≠ .mark) (hm : cl'.mutable = true → cl.mutable = true) : Ext w β σ w β (σ.set c cl') :=
  ⟨rfl, rfl, rfl, Nat.le_refl _, fun _ _ _ => rfl, fun _ arr _ fr h => ⟨arr, fr, h, rfl⟩, fun _ _ h => mset_set_sub hc hm h, ⟨[], by simp⟩, marks_set hc hk⟩

theorem SR.kill {w : World} {G : Globals} {A : Nat → Prop} {β : Beta} {σ : List Cell} {c : Nat} {cl : Cell} (h : SR G w A β σ) (hc : σ[c]? = some cl) (hk : cl ≠ .mark) :
    SR G w A β (σ.set c .dead) ∧ Ext w β σ w β (σ.set c .dead) := by
  have he : Ext w β σ w β (σ.set c .dead) := Ext.set hc hk (fun h => by cases h)
  refine ⟨h.step he (by simp [h.len]) (fun d cd q hd hq => ?_) (dist_set hc (fun h => by cases h) h.dist), he⟩
  by_cases e : d = c
  · subst e
    rw [List.getElem?_set_self (get_lt hc)] at hd
    injection hd with hd
    subst hd
    exact .inl trivial
  · rw [List.getElem?_set_ne (Ne.symm e)] at hd
    exact .inr ⟨hd, fun _ => rfl⟩

theorem SR.sealRow {w : World} {G : Globals} {A : Nat → Prop} {β : Beta} {σ : List Cell} {c s : Nat} {xs : List V} (h : SR G w A β σ) (hc : σ[c]? = some (Cell.row s xs)) :
    SR G w A β (σ.set c (.held s xs)) ∧ Ext w β σ w β (σ.set c (.held s xs)) := by
  have he : Ext w β σ w β (σ.set c (.held s xs)) := Ext.set hc (by simp) (fun h => by cases h)
  refine ⟨h.step he (by simp [h.len]) (fun d cd q hd hq => ?_) (dist_set hc (fun h => by cases h) h.dist), he⟩
  by_cases e : d = c
  · subst e
    rw [List.getElem?_set_self (get_lt hc)] at hd
    injection hd with hd
    subst hd
    obtain ⟨o1, o2, o3, o4, o5⟩ := h.ok d _ q hc hq
    refine .inl ⟨o1, o3.move he rfl, fun _ _ hm => ?_⟩
    rcases hm with hm | ⟨d', cd', q', x1, x2, x3⟩
    · exact o4 hm
    · by_cases e' : d' = d
      · subst e'
        rw [List.getElem?_set_self (get_lt hc)] at x1
        injection x1 with x1
        subst x1
        cases x2
      · rw [List.getElem?_set_ne (Ne.symm e')] at x1
        exact e' (h.dist d' d cd' _ q.1 q' q.2 x1 x2 hc rfl x3 hq)
  · rw [List.getElem?_set_ne (Ne.symm e)] at hd
    exact .inr ⟨hd, fun _ => rfl⟩

def flat (xs : List V) : List V := xs.flatMap V.cells

theorem flat_length {s : Nat} : ∀ (xs : List V), (∀ x ∈ xs, x.cells.length = s) → (flat xs).length = xs.length * s
  | [], _ => by simp [flat]
  | x :: r, h => by
    have := flat_length r (fun y hy => h y (List.mem_cons_of_mem _ hy))
    simp only [flat, List.flatMap_cons, List.length_append, List.length_cons] at this ⊢
    rw [h x (by simp), Nat.succ_mul, this]
    omega

theorem flat_get {s : Nat} : ∀ (xs : List V), (∀ x ∈ xs, x.cells.length = s) → ∀ i j (hi : i < xs.length) (_ : j < s), (flat xs)[i * s + j]? = (xs[i].cells)[j]?
  | x :: r, h, 0, j, _, hj => by
    simp only [flat, List.flatMap_cons, Nat.zero_mul, Nat.zero_add, List.getElem_cons_zero]
    rw [List.getElem?_append_left (by rw [h x (by simp)]; exact hj)]
  | x :: r, h, i + 1, j, hi, hj => by
    have hi' : i < r.length := by simpa using hi
    have ih := flat_get r (fun y hy => h y (List.mem_cons_of_mem _ hy)) i j hi' hj
    simp only [flat, List.flatMap_cons, List.getElem_cons_succ] at ih ⊢
    rw [← ih, List.getElem?_append_right (by rw [h x (by simp), Nat.succ_mul]; omega)]
    congr 1
    rw [h x (by simp), Nat.succ_mul]
    omega

theorem Flat.of_list {w : World} {M : Nat → Prop} {β : Beta} {s : Nat} {xs : List V} {vs : List Value} (rest : List Value) (hx : ∀ x ∈ xs, x.stores = true ∧ x.cells.length = s)
    (h : RelL w M β (flat xs) vs) : Flat w M β s xs (vs ++ rest).toArray := by
  have hl := flat_length xs (fun x h => (hx x h).2)
  refine ⟨by simp [h.1, hl], fun i hi => ?_⟩
  obtain ⟨h1, h2⟩ := hx _ (List.getElem_mem hi)
  refine ⟨h1, h2, fun j hj => ?_⟩
  have hmul : i * s + s ≤ xs.length * s := by
    have := Nat.mul_le_mul_right s (Nat.succ_le_of_lt hi)
    rwa [Nat.succ_mul] at this
  have hlt : i * s + j < (flat xs).length := by omega
  have hg := flat_get xs (fun x h => (hx x h).2) i j hi (by omega)
  rw [List.getElem?_eq_getElem hlt, List.getElem?_eq_getElem hj] at hg
  injection hg with hg
  have hv : i * s + j < vs.length := by rw [h.1]; exact hlt
  refine ⟨vs[i * s + j], by simp [List.getElem?_append_left hv, hv], ?_⟩
  rw [← hg]
  exact h.2 _ hlt _ (List.getElem?_eq_getElem hv)

/-- An append that finds room in its row. -/
theorem SR.appendIn {P : Program} {w : World} {G : Globals} {A : Nat → Prop} {β : Beta} {σ : List Cell} {c s : Nat} {xs ys : List V} {b p s' o n cap : Nat} {vs : List Value} (h : SR G w A β σ)
    (hc : σ[c]? = some (Cell.row s xs)) (hβ : β[c]? = some (b, p, s')) (ho : o + n ≤ xs.length)
    {arr0 : Array Value} {t0 : TypeId} {fr0 : Nat × Nat} (hb0 : w.heap[b]? = some (.cells arr0 t0 fr0)) (hz : p + (o + cap) * s ≤ arr0.size) (hcap : n + ys.length ≤ cap)
    (hy : ∀ y ∈ ys, y.stores = true ∧ y.cells.length = s) (hr : RelL w (Mav A β σ) β (flat ys) vs) :
    (storeCells ⟨b, p + (o + n) * s, none⟩ vs).run P w = .ok () (w.setCells b (p + (o + n) * s) vs) ∧
    SR G (w.setCells b (p + (o + n) * s) vs) A (β ++ [(b, p + o * s, s)]) (σ.set c .dead ++ [.row s ((xs.drop o).take n ++ ys)]) ∧
    Ext w β σ (w.setCells b (p + (o + n) * s) vs) (β ++ [(b, p + o * s, s)]) (σ.set c .dead ++ [.row s ((xs.drop o).take n ++ ys)]) := by
  obtain ⟨o1, ⟨arr, t, fr, r1, r2, r3⟩, o3, o4, o5⟩ := h.ok c _ _ hc hβ
  simp only at o1 r1 r2 r3 o3 o4 o5
  rw [hb0] at r1
  injection r1 with r1
  injection r1 with e1 e2 e3
  subst e1; subst e2; subst e3
  have hvl : vs.length = ys.length * s := by rw [hr.1, flat_length ys (fun y h => (hy y h).2)]
  have hroom : p + (o + n) * s + vs.length ≤ arr0.size := by
    have : (o + n + ys.length) * s ≤ (o + cap) * s := Nat.mul_le_mul_right s (by omega)
    rw [Nat.add_mul (o + n)] at this
    omega
  obtain ⟨g1, g2, g3, g4, g5, g6⟩ := setCells_heap b vs (p + (o + n) * s) w
  have hcell : ∀ j, j < vs.length → (w.cell? ⟨b, p + (o + n) * s + j, none⟩).isSome = true := fun j hj => by
    simp [World.cell?, hb0]
    omega
  have hfz : ∀ j, j < vs.length → w.frozen? ⟨b, p + (o + n) * s + j, none⟩ = false := fun j hj => by
    have := r2 (p + (o + n) * s + j) (by omega)
    simp [World.frozen?, hb0]
    intro hh
    have := fun hk => this ⟨hh, hk⟩
    omega
  have hone : ∀ v ∈ vs, v.oneCell' = true := fun v hv => by
    obtain ⟨j, hj, rfl⟩ := List.mem_iff_getElem.1 hv
    have hj' : j < (flat ys).length := by rw [← hr.1]; exact hj
    refine leaf_one ?_ (hr.2 j hj' _ (List.getElem?_eq_getElem hj))
    have := List.getElem_mem hj'
    simp only [flat, List.mem_flatMap] at this
    obtain ⟨y, hy1, hy2⟩ := this
    exact stores_cells (hy y hy1).1 _ hy2
  have hmb : Mset β σ b := ⟨c, _, _, hc, rfl, hβ⟩
  have hlen : β.length = (σ.set c Cell.dead).length := by simp [h.len]
  have he : Ext w β σ (w.setCells b (p + (o + n) * s) vs) (β ++ [(b, p + o * s, s)]) (σ.set c .dead ++ [.row s ((xs.drop o).take n ++ ys)]) :=
    ⟨g4, g5, g6, by omega, fun k _ hm => g1 k (fun e => hm (e ▸ hmb)), fun k a' t' f' hk => by
      by_cases e : k = b
      · subst e
        obtain ⟨x, x1, x2⟩ := g2 a' t' f' hk
        exact ⟨x, f', x1, x2⟩
      · exact ⟨a', f', (g1 k e).trans hk, rfl⟩, fun k _ hm => by
        rcases mset_append hlen hm with hm | ⟨_, rfl⟩
        · exact mset_set_sub hc (fun h => by cases h) hm
        · exact hmb, ⟨_, rfl⟩, fun d hd => by rw [List.getElem?_append_left (by simpa using get_lt hd)]; exact marks_set hc (by simp) d hd⟩
  refine ⟨?_, h.step he (by simp [h.len]) (fun d cd q hd hq => ?_) ?_, he⟩
  · have := run_storeCells_cells (P := P) b (p + (o + n) * s) vs 0 w (by simpa using hcell) (by simpa using hfz) hone
    simpa using this
  · rcases Nat.lt_trichotomy d σ.length with hlt | heq | hgt
    · rw [List.getElem?_append_left (by simpa using hlt)] at hd
      rw [List.getElem?_append_left (by rw [h.len]; exact hlt)] at hq
      by_cases e : d = c
      · subst e
        rw [List.getElem?_set_self hlt] at hd
        injection hd with hd
        subst hd
        exact .inl trivial
      · rw [List.getElem?_set_ne (Ne.symm e)] at hd
        refine .inr ⟨hd, fun hm => g1 _ (fun hbq => e ?_)⟩
        obtain ⟨qb, qp⟩ := q
        simp at hbq
        subst hbq
        exact h.dist d c cd _ qb qp _ hd hm hc rfl hq hβ
    · subst heq
      rw [List.getElem?_append_right (by simp)] at hd
      rw [List.getElem?_append_right (by rw [h.len]; exact Nat.le_refl _)] at hq
      simp [h.len] at hd hq
      subst hd; subst hq
      obtain ⟨arr', x1, x2⟩ := g2 _ _ _ hb0
      have htl : ((xs.drop o).take n).length = n := by simp; omega
      suffices hE : p + o * s + ((xs.drop o).take n ++ ys).length * s ≤ arr'.size ∧ ElemsAt (w.setCells b (p + (o + n) * s) vs) (Mav A (β ++ [(b, p + o * s, s)]) (σ.set c .dead ++ [.row s ((xs.drop o).take n ++ ys)])) (β ++ [(b, p + o * s, s)]) b (p + o * s) s ((xs.drop o).take n ++ ys) from
        .inl ⟨rfl, ⟨arr', t0, fr0, x1, by rw [x2]; exact r2, hE.1⟩, hE.2, o4, by rw [g3]; exact o5⟩
      refine ⟨?_, fun i hi => ?_⟩
      · rw [x2]
        simp only [List.length_append, htl]
        have : (o + (n + ys.length)) * s ≤ (o + cap) * s := Nat.mul_le_mul_right s (by omega)
        rw [Nat.add_mul o] at this
        omega
      · simp only [List.length_append, htl] at hi
        by_cases hin : i < n
        · have hget : ((xs.drop o).take n ++ ys)[i]'(by simp; omega) = xs[o + i]'(by omega) := by
            rw [List.getElem_append_left (by rw [htl]; exact hin)]
            simp
          rw [hget]
          obtain ⟨f1, f2, f3⟩ := o3 (o + i) (by omega)
          refine ⟨f1, f2, fun j hj => ?_⟩
          obtain ⟨x, hx, hrel⟩ := f3 j hj
          refine ⟨x, ?_, hrel.ext he⟩
          have hle : (o + i) * s + s ≤ (o + n) * s := by
            have := Nat.mul_le_mul_right s (show o + i + 1 ≤ o + n by omega)
            rwa [Nat.succ_mul] at this
          rw [World.cell?_setCells_out b vs _ w _ (fun _ _ => .inl (by
            simp only
            rw [Nat.add_mul] at hle
            omega))]
          rw [← hx]
          congr 2
          rw [Nat.add_mul]
          omega
        · have hk : i - n < ys.length := by omega
          have hget : ((xs.drop o).take n ++ ys)[i]'(by simp; omega) = ys[i - n] := by
            rw [List.getElem_append_right (by rw [htl]; omega)]
            congr 1
            rw [htl]
          rw [hget]
          obtain ⟨f1, f2⟩ := hy _ (List.getElem_mem hk)
          refine ⟨f1, f2, fun j hj => ?_⟩
          have hmul : (i - n) * s + s ≤ ys.length * s := by
            have := Nat.mul_le_mul_right s (Nat.succ_le_of_lt hk)
            rwa [Nat.succ_mul] at this
          have hlt : (i - n) * s + j < vs.length := by omega
          have hlf : (i - n) * s + j < (flat ys).length := by rw [← hr.1]; exact hlt
          have hg := flat_get ys (fun y h => (hy y h).2) (i - n) j hk (by omega)
          rw [List.getElem?_eq_getElem hlf, List.getElem?_eq_getElem hj] at hg
          injection hg with hg
          refine ⟨vs[(i - n) * s + j], ?_, ?_⟩
          · have := World.cell?_setCells_in b vs (p + (o + n) * s) w hcell ((i - n) * s + j) hlt
            rw [← this]
            congr 2
            have : i * s = n * s + (i - n) * s := by rw [← Nat.add_mul]; congr 1; omega
            rw [Nat.add_mul]
            omega
          · rw [← hg]
            exact (hr.2 _ hlf _ (List.getElem?_eq_getElem hlt)).ext he
    · rw [List.getElem?_eq_none (by simp; omega)] at hd; cases hd
  · have key : ∀ (d : Nat) (e : Cell) (k : Nat) q, (σ.set c .dead ++ [.row s ((xs.drop o).take n ++ ys)])[d]? = some e → e.mutable = true → (β ++ [(b, p + o * s, s)])[d]? = some (k, q) →
        (d < σ.length ∧ k ≠ b ∧ σ[d]? = some e ∧ β[d]? = some (k, q)) ∨ (d = σ.length ∧ k = b) := by
      intro d e k q h1 m1 b1
      rcases Nat.lt_trichotomy d σ.length with hlt | heq | hgt
      · rw [List.getElem?_append_left (by simpa using hlt)] at h1
        rw [List.getElem?_append_left (by rw [h.len]; exact hlt)] at b1
        by_cases hdc : d = c
        · subst hdc
          rw [List.getElem?_set_self hlt] at h1
          injection h1 with h1
          subst h1
          cases m1
        · rw [List.getElem?_set_ne (Ne.symm hdc)] at h1
          exact .inl ⟨hlt, fun hk => hdc (by subst hk; exact h.dist d c e _ k q _ h1 m1 hc rfl b1 hβ), h1, b1⟩
      · subst heq
        rw [List.getElem?_append_right (by rw [h.len]; exact Nat.le_refl _)] at b1
        simp [h.len] at b1
        exact .inr ⟨rfl, b1.1.symm⟩
      · rw [List.getElem?_eq_none (by simp; omega)] at h1; cases h1
    intro d d' e e' k q q' h1 m1 h2 m2 b1 b2
    rcases key d e k q h1 m1 b1 with ⟨l1, s1, x1, y1⟩ | ⟨l1, s1⟩ <;> rcases key d' e' k q' h2 m2 b2 with ⟨l2, s2, x2, y2⟩ | ⟨l2, s2⟩
    · exact h.dist d d' e e' k q q' x1 m1 x2 m2 y1 y2
    · exact absurd s2 s1
    · exact absurd s1 s2
    · omega

end Go.TL
