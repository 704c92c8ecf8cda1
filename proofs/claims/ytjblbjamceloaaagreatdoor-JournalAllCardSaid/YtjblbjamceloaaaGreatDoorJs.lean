/- JournalFull: the walk. -/
import Derived.Test.YtjblbjamceloaaaGreatDoorNG
import Derived.Test.YtjblbjamceloaaaGreatDoorNF
namespace Go.Proofs.YtjblbjamceloaaaGreatDoor
open Go.RowKit

theorem jcut_h (s A : ByteArray) (n : Nat) (m : Int) (w : World) (hA : Hid (cutS s n = A)) (hs : s.size ≤ 9223372036854775807) (hn : n ≤ 9223372036854775807) (hm : m = (n : Int)) :
    Calls Tryz.prog 11 #[.string s, .int .i64 m] w fun e w' => e = .returned (.string A) ∧ w = w' := by
  rw [← hA.out, hm]; exact cut_any s n w hs hn
end Go.Proofs.YtjblbjamceloaaaGreatDoor
