/- Walks of the document's Side, of the laws' Roster. -/
import Derived.Test.YthiphdcbboapkaaGreatDoorRoD
namespace Go.Proofs.YthiphdcbboapkaaGreatDoor
open Go.RowKit

/-- The one so many places on. -/
def sideI (zs : List Int) (n by_ : Int) : Int := if idx zs n < 0 then 0 else atI zs (idx zs n + by_)

end Go.Proofs.YthiphdcbboapkaaGreatDoor
