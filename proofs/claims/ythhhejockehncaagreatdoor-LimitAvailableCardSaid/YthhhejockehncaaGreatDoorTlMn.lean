/- LimitAvailable returns true for all arguments: the function alone. -/
import Derived.Test.YthhhejockehncaaGreatDoorTlLa
set_option maxRecDepth 20000
set_option linter.all false
set_option linter.unusedVariables false
namespace Go.TL
open Go Go.Proofs
noncomputable section
theorem live_ok : F_law25_live 300 = some true := by kernel_rfl
theorem law_ok (b : ApiBooks) (q : Corebanklaw25Query) (to : Int) : F_law25_LimitAvailable 300 b q to = some true := by
  obtain ⟨g, h1, h2⟩ := r25_ok b
  rw [F_law25_LimitAvailable, h1, Option.bind_some]
  cases g
  · have hf := h2 rfl
    have ml : (1000 : Nat) ≤ maxLen := by unfold maxLen; omega
    have ha := hf.acc
    have hp := hf.pro
    have hj := hf.jou
    have hh := hf.hol
    have hb := hf.blo
    have hd : ∀ e ∈ b.Journal_, e.Legs_.length ≤ maxLen ∧ e.Legs_.length < 300 := fun e he => by have := hf.leg e he; omega
    obtain ⟨r, f1, f2⟩ := F_limit_Floor_spec 300 b q.Id_ q.Day_ (by omega) (by omega) (by omega) (by omega)
    obtain ⟨u, g1, g2⟩ := F_limit_Available_spec 300 b q.Id_ q.Day_ (by omega) (by omega) (by omega) (by omega) (by omega) (by omega) hd (by omega) (by omega) (by omega) (by omega) hf.small
    obtain ⟨s, e1, e2⟩ := spent_same 300 b q.Id_ q.Day_ to (by omega) (by omega) hd
    simp only [f1, f2, g1, g2, e1, e2, Option.bind_some, live_ok, decide_true, cond_true, cond_false]
  · simp only [cond_true, live_ok, Option.bind_some]
theorem main (b : ApiBooks) (q : Corebanklaw25Query) (to : Int) : Pure Tryz.prog (Gl.at 0) 4 [b.v, q.v, i64 to] (.bool true) := P_law25_LimitAvailable (law_ok b q to)
end
end Go.TL
