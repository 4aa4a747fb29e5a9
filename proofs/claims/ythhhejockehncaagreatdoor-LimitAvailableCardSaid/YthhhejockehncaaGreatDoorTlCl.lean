/- For every books, query and day, the statement LimitAvailable returns true and does not panic. No condition. -/
import Derived.Test.YthhhejockehncaaGreatDoorTlCt
import Derived.Test.YthhhejockehncaaGreatDoorTlMn
namespace Go.Proofs.YthhhejockehncaaGreatDoor
open Go
theorem limit_available_holds : Rows.LimitAvailableCardSaid := Go.TL.Av.card (fun b q to _ _ _ => Go.TL.main b q to)
#print axioms limit_available_holds
end Go.Proofs.YthhhejockehncaaGreatDoor
