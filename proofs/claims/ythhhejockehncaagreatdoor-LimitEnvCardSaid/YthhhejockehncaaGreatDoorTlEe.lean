/- For every books and query the statement LimitEnv returns true and does not panic. No condition. -/
import Derived.Test.YthhhejockehncaaGreatDoorTlCe
import Derived.Test.YthhhejockehncaaGreatDoorTlLeM
namespace Go.Proofs.YthhhejockehncaaGreatDoor
open Go
theorem limit_env_holds : Rows.LimitEnvCardSaid := Go.TL.Ev.card (fun b q _ _ => Go.TL.main b q)
#print axioms limit_env_holds
end Go.Proofs.YthhhejockehncaaGreatDoor
