/-
  Tree land, part C: stores into rows; rows put by; rows that grow in place.
-/
import Derived.Test.YthhhejockehncaaGreatDoorTlB
set_option linter.all false
namespace Go.TL
open Go

theorem mset_set {β : Beta} {σ : List Cell} {c : Nat} {cl cl' : Cell} (hc : σ[c]? = some cl) (hm : cl.mutable = cl'.mutable) {b : Nat} : Mset β (σ.set c cl') b ↔ Mset β σ b := by
  constructor
  · rintro ⟨d, cd, q, h1, h2, h3⟩
    by_cases e : d = c
    · subst e
      rw [List.getElem?_set_self (get_lt hc)] at h1
      injection h1 with h1
      subst h1
      exact ⟨d, cl, q, hc, hm ▸ h2, h3⟩
    · rw [List.getElem?_set_ne (Ne.symm e)] at h1
      exact ⟨d, cd, q, h1, h2, h3⟩
  · rintro ⟨d, cd, q, h1, h2, h3⟩
    by_cases e : d = c
    · subst e
      rw [hc] at h1
      injection h1 with h1
      subst h1
      exact ⟨d, cl', q, List.getElem?_set_self (get_lt hc), hm ▸ h2, h3⟩
    · exact ⟨d, cd, q, by rw [List.getElem?_set_ne (Ne.symm e)]; exact h1, h2, h3⟩

theorem mset_set_sub {β : Beta} {σ : List Cell} {c : Nat} {cl cl' : Cell} (hc : σ[c]? = some cl) (hm : cl'.mutable = true → cl.mutable = true) {b : Nat} (h : Mset β (σ.set c cl') b) : Mset β σ b := by
  obtain ⟨d, cd, q, h1, h2, h3⟩ := h
  by_cases e : d = c
  · subst e
    rw [List.getElem?_set_self (get_lt hc)] at h1
    injection h1 with h1
    subst h1
    exact ⟨d, cl, q, hc, hm h2, h3⟩
  · rw [List.getElem?_set_ne (Ne.symm e)] at h1
    exact ⟨d, cd, q, h1, h2, h3⟩

theorem dist_set {β : Beta} {σ : List Cell} {c : Nat} {cl cl' : Cell} (hc : σ[c]? = some cl) (hm : cl'.mutable = true → cl.mutable = true)
    (hd : ∀ (c c' : Nat) (cl cl' : Cell) b q q', σ[c]? = some cl → cl.mutable = true → σ[c']? = some cl' → cl'.mutable = true → β[c]? = some (b, q) → β[c']? = some (b, q') → c = c') :
    ∀ (d d' : Nat) (e e' : Cell) b q q', (σ.set c cl')[d]? = some e → e.mutable = true → (σ.set c cl')[d']? = some e' → e'.mutable = true → β[d]? = some (b, q) → β[d']? = some (b, q') → d = d' := by
  have key : ∀ (d : Nat) (e : Cell), (σ.set c cl')[d]? = some e → e.mutable = true → ∃ e0, σ[d]? = some e0 ∧ e0.mutable = true := by
    intro d e h1 h2
    by_cases hdc : d = c
    · subst hdc
      rw [List.getElem?_set_self (get_lt hc)] at h1
      injection h1 with h1
      subst h1
      exact ⟨cl, hc, hm h2⟩
    · rw [List.getElem?_set_ne (Ne.symm hdc)] at h1
      exact ⟨e, h1, h2⟩
  intro d d' e e' b q q' h1 m1 h2 m2 b1 b2
  obtain ⟨e0, x1, y1⟩ := key d e h1 m1
  obtain ⟨e1, x2, y2⟩ := key d' e' h2 m2
  exact hd d d' e0 e1 b q q' x1 y1 x2 y2 b1 b2

theorem marks_set {σ : List Cell} {c : Nat} {cl cl' : Cell} (hc : σ[c]? = some cl) (hm : cl ≠ .mark) (d : Nat) (hd : σ[d]? = some Cell.mark) : (σ.set c cl')[d]? = some Cell.mark := by
  by_cases e : c = d
  · subst e
    rw [hc] at hd
    injection hd with hd
    exact absurd hd hm
  · rw [List.getElem?_set_ne e]
    exact hd

/-- One row is written; all else is as it was. -/
theorem SR.setRow {w w' : World} {G : Globals} {A : Nat → Prop} {β : Beta} {σ : List Cell} {c s : Nat} {xs xs' : List V} {b p s' : Nat} (h : SR G w A β σ)
    (hc : σ[c]? = some (Cell.row s xs)) (hβ : β[c]? = some (b, p, s')) (h1 : w'.os = w.os) (h2 : w'.tape = w.tape) (h3 : w'.output = w.output) (h4 : w'.heap.size = w.heap.size)
    (ho : ∀ k, k ≠ b → w'.heap[k]? = w.heap[k]?)
    (hb : ∀ arr t fr, w.heap[b]? = some (.cells arr t fr) → ∃ arr', w'.heap[b]? = some (.cells arr' t fr) ∧ arr'.size = arr.size)
    (hl : xs'.length = xs.length)
    (hE : Ext w β σ w' β (σ.set c (.row s xs')) → ElemsAt w' (Mav A β (σ.set c (.row s xs'))) β b p s xs') :
    SR G w' A β (σ.set c (.row s xs')) ∧ Ext w β σ w' β (σ.set c (.row s xs')) := by
  have hmb : Mset β σ b := ⟨c, _, _, hc, rfl, hβ⟩
  have he : Ext w β σ w' β (σ.set c (.row s xs')) := ⟨h1, h2, h3, by omega, fun k _ hm => ho k (fun e => hm (e ▸ hmb)), fun k arr t fr hk => by
      by_cases e : k = b
      · subst e
        obtain ⟨arr', x1, x2⟩ := hb arr t fr hk
        exact ⟨arr', fr, x1, x2⟩
      · exact ⟨arr, fr, (ho k e).trans hk, rfl⟩, fun k _ hm => (mset_set (cl' := .row s xs') hc rfl).1 hm, ⟨[], by simp⟩, marks_set hc (by simp)⟩
  obtain ⟨o1, o2, o3, o4, o5⟩ := h.ok c _ _ hc hβ
  refine ⟨h.step he (by simp [h.len]) (fun d cd q hd hq => ?_) (dist_set hc (fun _ => rfl) h.dist), he⟩
  by_cases e : d = c
  · subst e
    rw [List.getElem?_set_self (get_lt hc)] at hd
    injection hd with hd
    subst hd
    rw [hβ] at hq
    injection hq with hq
    subst hq
    obtain ⟨arr, t, fr, r1, r2, r3⟩ := o2
    obtain ⟨arr', x1, x2⟩ := hb arr t fr r1
    exact .inl ⟨o1, ⟨arr', t, fr, x1, by rw [x2]; exact r2, by rw [x2, hl]; exact r3⟩, hE he, o4, by rw [h4]; exact o5⟩
  · rw [List.getElem?_set_ne (Ne.symm e)] at hd
    refine .inr ⟨hd, fun hm => ho _ (fun hbq => e ?_)⟩
    obtain ⟨qb, qp⟩ := q
    simp at hbq
    subst hbq
    exact h.dist d c cd _ qb qp _ hd hm hc rfl hq hβ

theorem setCells_heap (b : Nat) : ∀ (vs : List Value) (o : Nat) (w : World), (∀ k, k ≠ b → (w.setCells b o vs).heap[k]? = w.heap[k]?) ∧
    (∀ arr t fr, w.heap[b]? = some (.cells arr t fr) → ∃ arr', (w.setCells b o vs).heap[b]? = some (.cells arr' t fr) ∧ arr'.size = arr.size) ∧
    (w.setCells b o vs).heap.size = w.heap.size ∧ (w.setCells b o vs).os = w.os ∧ (w.setCells b o vs).tape = w.tape ∧ (w.setCells b o vs).output = w.output
  | [], _, w => ⟨fun _ _ => rfl, fun arr _ _ h => ⟨arr, h, rfl⟩, rfl, rfl, rfl, rfl⟩
  | v :: r, o, w => by
    obtain ⟨h1, h2, h3, h4, h5, h6⟩ := setCells_heap b r (o + 1) (w.setCell ⟨b, o, none⟩ v)
    refine ⟨fun k hk => (h1 k hk).trans (RowKit.Below.heap_setCell _ _ _ _ hk), fun arr t fr hb => ?_, h3.trans (by simp), h4, h5, h6⟩
    have : (w.setCell ⟨b, o, none⟩ v).heap[b]? = some (.cells (arr.setIfInBounds o v) t fr) := by
      simp only [World.setCell, Array.getElem?_modify, if_true, hb, Option.map_some]
      rfl
    obtain ⟨arr', x1, x2⟩ := h2 _ t fr this
    exact ⟨arr', x1, by rw [x2]; simp⟩

def splice (cs : List V) (o : Nat) (ys : List V) : List V := cs.take o ++ ys ++ cs.drop (o + ys.length)
/-- A value of the shape of v with the cells cs. -/
def like (v : V) (cs : List V) : V := match v with | .agg _ => .agg cs | _ => cs.headD v

theorem splice_length {cs ys : List V} {o : Nat} (h : o + ys.length ≤ cs.length) : (splice cs o ys).length = cs.length := by
  simp [splice]; omega

theorem splice_get {cs ys : List V} {o : Nat} (h : o + ys.length ≤ cs.length) (j : Nat) (hj : j < cs.length) :
    (splice cs o ys)[j]? = if o ≤ j ∧ j < o + ys.length then ys[j - o]? else cs[j]? := by
  unfold splice
  split
  · rename_i hh
    rw [List.append_assoc, List.getElem?_append_right (by simp; omega), List.getElem?_append_left (by simp; omega)]
    simp
    congr 1
    omega
  · rename_i hh
    by_cases hlt : j < o
    · rw [List.append_assoc, List.getElem?_append_left (by simp; omega), List.getElem?_take_of_lt hlt]
    · rw [List.getElem?_append_right (by simp; omega)]
      simp
      congr 1
      omega

theorem stores_cells {v : V} (h : v.stores = true) : ∀ x ∈ v.cells, x.leaf = true := by
  cases v <;> simp_all [V.stores, V.cells, V.leaf]

theorem like_cells {v : V} {cs : List V} (hv : v.stores = true) (hl : cs.length = v.cells.length) (hc : ∀ x ∈ cs, x.leaf = true) : (like v cs).cells = cs ∧ (like v cs).stores = true := by
  by_cases hv' : ∃ l, v = .agg l
  · obtain ⟨l, rfl⟩ := hv'
    exact ⟨rfl, by simp only [like, V.stores, List.all_eq_true]; exact hc⟩
  · have e : v.cells = [v] := by cases v <;> first | rfl | exact absurd ⟨_, rfl⟩ hv'
    rw [e] at hl
    match cs, hl with
    | [y], _ =>
      have hy := hc y (by simp)
      have : like v [y] = y := by cases v <;> first | rfl | exact absurd ⟨_, rfl⟩ hv'
      rw [this]
      constructor
      · cases y <;> simp_all [V.leaf, V.cells]
      · cases y <;> simp_all [V.leaf, V.stores]

theorem leaf_one {w : World} {M : Nat → Prop} {β : Beta} {v : V} {x : Value} (hl : v.leaf = true) (h : Rel w M β v x) : x.oneCell' = true := by
  cases h <;> first | rfl | cases hl

/-- A store into a row. -/
theorem SR.store {P : Program} {w : World} {G : Globals} {A : Nat → Prop} {β : Beta} {σ : List Cell} {c s : Nat} {xs : List V} {b p s' i o : Nat} {ys : List V} {vs : List Value} (h : SR G w A β σ)
    (hc : σ[c]? = some (Cell.row s xs)) (hβ : β[c]? = some (b, p, s')) (hi : i < xs.length) (ho : o + ys.length ≤ s) (hy : ∀ y ∈ ys, y.leaf = true)
    (hlen : vs.length = ys.length) (hr : ∀ j (hj : j < ys.length), ∃ x, vs[j]? = some x ∧ Rel w (Mav A β σ) β ys[j] x) :
    (storeCells ⟨b, p + i * s + o, none⟩ vs).run P w = .ok () (w.setCells b (p + i * s + o) vs) ∧
    SR G (w.setCells b (p + i * s + o) vs) A β (σ.set c (.row s (xs.set i (like xs[i] (splice xs[i].cells o ys))))) ∧
    Ext w β σ (w.setCells b (p + i * s + o) vs) β (σ.set c (.row s (xs.set i (like xs[i] (splice xs[i].cells o ys))))) := by
  obtain ⟨o1, ⟨arr, t, fr, r1, r2, r3⟩, o3, o4, o5⟩ := h.ok c _ _ hc hβ
  simp only at o1 r1 r2 r3 o3 o4 o5
  obtain ⟨g1, g2, g3, g4, g5, g6⟩ := setCells_heap b vs (p + i * s + o) w
  obtain ⟨e1, e2, e3⟩ := o3 i hi
  have hmul : i * s + s ≤ xs.length * s := by
    have := Nat.mul_le_mul_right s (Nat.succ_le_of_lt hi)
    rw [Nat.succ_mul] at this
    exact this
  have hcell : ∀ j, j < vs.length → (w.cell? ⟨b, p + i * s + o + j, none⟩).isSome = true := fun j hj => by
    simp [World.cell?, r1]
    omega
  have hfz : ∀ j, j < vs.length → w.frozen? ⟨b, p + i * s + o + j, none⟩ = false := fun j hj => by
    have := r2 (p + i * s + o + j) (by omega)
    simp [World.frozen?, r1]
    intro hh
    have := fun hk => this ⟨hh, hk⟩
    omega
  have hone : ∀ v ∈ vs, v.oneCell' = true := fun v hv => by
    obtain ⟨j, hj, rfl⟩ := List.mem_iff_getElem.1 hv
    obtain ⟨x, hx, hrel⟩ := hr j (by omega)
    rw [List.getElem?_eq_getElem hj] at hx
    injection hx with hx
    subst hx
    exact leaf_one (hy _ (List.getElem_mem _)) hrel
  refine ⟨?_, ?_⟩
  · have := run_storeCells_cells (P := P) b (p + i * s + o) vs 0 w (by simpa using hcell) (by simpa using hfz) hone
    simpa using this
  · refine h.setRow hc hβ g4 g5 g6 g3 g1 g2 (by simp) (fun he => ?_)
    intro k hk
    have hk' : k < xs.length := by simpa using hk
    have hsl : (splice xs[i].cells o ys).length = xs[i].cells.length := splice_length (by omega)
    have hleaf : ∀ x ∈ splice xs[i].cells o ys, x.leaf = true := fun x hx => by
      simp only [splice, List.mem_append] at hx
      rcases hx with (hx | hx) | hx
      · exact stores_cells e1 x (List.mem_of_mem_take hx)
      · exact hy x hx
      · exact stores_cells e1 x (List.mem_of_mem_drop hx)
    obtain ⟨l1, l2⟩ := like_cells e1 hsl hleaf
    have hread : ∀ m, m < s → (p + i * s + o ≤ p + k * s + m → p + k * s + m < p + i * s + o + vs.length → k = i) := by
      intro m hm q1 q2
      rcases Nat.lt_trichotomy k i with hlt | heq | hgt
      · have := Nat.mul_le_mul_right s (Nat.succ_le_of_lt hlt)
        rw [Nat.succ_mul] at this
        omega
      · exact heq
      · have := Nat.mul_le_mul_right s (Nat.succ_le_of_lt hgt)
        rw [Nat.succ_mul] at this
        omega
    by_cases hki : k = i
    · subst hki
      have hget : (xs.set k (like xs[k] (splice xs[k].cells o ys)))[k]'hk = like xs[k] (splice xs[k].cells o ys) := by simp
      rw [hget]
      refine ⟨l2, by rw [l1, hsl]; exact e2, fun j hj => ?_⟩
      have hj2 : j < xs[k].cells.length := by rw [l1, hsl] at hj; exact hj
      have hel : (like xs[k] (splice xs[k].cells o ys)).cells[j]'hj = (splice xs[k].cells o ys)[j]'(by rw [hsl]; exact hj2) := by
        simp only [l1]
      rw [hel]
      have hsg := splice_get (cs := xs[k].cells) (ys := ys) (o := o) (by omega) j hj2
      rw [List.getElem?_eq_getElem (by rw [hsl]; exact hj2)] at hsg
      by_cases hin : o ≤ j ∧ j < o + ys.length
      · rw [if_pos hin, List.getElem?_eq_getElem (by omega)] at hsg
        injection hsg with hsg
        rw [hsg]
        obtain ⟨x, hx, hrel⟩ := hr (j - o) (by omega)
        refine ⟨x, ?_, hrel.ext he⟩
        have := World.cell?_setCells_in b vs (p + k * s + o) w hcell (j - o) (by omega)
        rw [List.getElem?_eq_getElem (by omega)] at hx
        injection hx with hx
        rw [hx] at this
        rw [← this]
        congr 2
        omega
      · rw [if_neg hin, List.getElem?_eq_getElem hj2] at hsg
        injection hsg with hsg
        rw [hsg]
        obtain ⟨x, hx, hrel⟩ := e3 j hj2
        refine ⟨x, ?_, hrel.ext he⟩
        rw [World.cell?_setCells_out b vs _ w _ (fun _ _ => by simp; omega)]
        exact hx
    · have hget : (xs.set i (like xs[i] (splice xs[i].cells o ys)))[k]'hk = xs[k] := by
        rw [List.getElem_set_ne (fun e => hki e.symm)]
      rw [hget]
      obtain ⟨f1, f2, f3⟩ := o3 k hk'
      refine ⟨f1, f2, fun j hj => ?_⟩
      obtain ⟨x, hx, hrel⟩ := f3 j hj
      refine ⟨x, ?_, hrel.ext he⟩
      rw [World.cell?_setCells_out b vs _ w _ (fun _ _ => by
        simp only
        by_cases q1 : p + k * s + j < p + i * s + o
        · exact .inl q1
        · by_cases q2 : p + i * s + o + vs.length ≤ p + k * s + j
          · exact .inr q2
          · exact absurd (hread j (by omega) (by omega) (by omega)) hki)]
      exact hx

end Go.TL
