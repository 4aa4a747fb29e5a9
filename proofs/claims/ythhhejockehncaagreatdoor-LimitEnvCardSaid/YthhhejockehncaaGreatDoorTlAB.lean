/-
  Tree land, part AB: functions without a body.
-/
import Derived.Test.YthhhejockehncaaGreatDoorTlZ
import Derived.Lib.Bytealg
set_option linter.all false
namespace Go.TL
open Go

section
variable {P : Program} {G : Globals}

theorem run_callFunc_ext {f : FuncId} {fn : Func} (hf : P.funcs[f]? = some fn) (hn : fn.name ≠ "runtime.NumGoroutine") (hb : fn.body = none) (hx : Extern.findNext fn = none) {e : Array Value → Sem Value} (he : Extern.find fn = some e)
    {xs : Array Value} {w : World} {y : Value} (hr : (e xs).run P w = .ok y w) : (callFunc f xs).run P w = .ok (.value y) w := by
  simp [callFunc, go_sem, hf, hb, hn, hx, he, hr]

/-- A function without a body that answers by the entry e. -/
def ExtOk (P : Program) (f : FuncId) (e : Array Value → Sem Value) : Prop :=
  ∃ fn, P.funcs[f]? = some fn ∧ fn.name ≠ "runtime.NumGoroutine" ∧ fn.body = none ∧ Extern.findNext fn = none ∧ Extern.find fn = some e

theorem Pure.ext {f : FuncId} {e : Array Value → Sem Value} (hf : ExtOk P f e) {vs : List V} {r : V} (h : ∀ A w (xs : Array Value), RelL w A [] vs xs.toList → ∃ y, (e xs).run P w = .ok y w ∧ Rel w A [] r y) : Pure P G f vs r := by
  obtain ⟨fn, h1, h2, h3, h4, h5⟩ := hf
  intro A w xs _ _ hr
  obtain ⟨y, y1, y2⟩ := h A w xs hr
  exact ⟨_, w, run_callFunc_ext h1 h2 h3 h4 h5 y1, .inl ⟨y, rfl, y2, .refl _ _⟩⟩

theorem args2 {w : World} {M : Nat → Prop} {β : Beta} {u v : V} {xs : Array Value} (h : RelL w M β [u, v] xs.toList) : ∃ a b, xs = #[a, b] ∧ Rel w M β u a ∧ Rel w M β v b := by
  have hl : xs.size = 2 := by simpa using h.1
  refine ⟨xs[0], xs[1], ?_, h.2 0 (by simp) _ (by simp [hl]), h.2 1 (by simp) _ (by simp [hl])⟩
  apply Array.ext
  · simp [hl]
  · intro i h1 h2
    match i, h2 with
    | 0, _ => rfl
    | 1, _ => rfl

theorem pure_count {f : FuncId} (hf : ExtOk P f Extern.BytealgCount.count) (s : List UInt8) (c : Int) : Pure P G f [.str s, .int .u8 c] (.int .i64 (Lib.countByte s c.toNat.toUInt8)) := by
  refine .ext hf fun A w xs hr => ?_
  obtain ⟨a, b, rfl, ha, hb⟩ := args2 hr
  cases ha; cases hb
  exact ⟨_, Lib.run_countString _ c w, by simpa using Rel.int (M := A) (β := []) (w := w) .i64 (Lib.countByte s c.toNat.toUInt8)⟩

theorem pure_indexByte {f : FuncId} (hf : ExtOk P f Extern.BytealgIndexByte.indexByte) (s : List UInt8) (c : Int) : Pure P G f [.str s, .int .u8 c] (.int .i64 (Lib.indexByte s c.toNat.toUInt8)) := by
  refine .ext hf fun A w xs hr => ?_
  obtain ⟨a, b, rfl, ha, hb⟩ := args2 hr
  cases ha; cases hb
  exact ⟨_, Lib.run_indexByteString _ c w, by simpa using Rel.int (M := A) (β := []) (w := w) .i64 (Lib.indexByte s c.toNat.toUInt8)⟩

end
end Go.TL
