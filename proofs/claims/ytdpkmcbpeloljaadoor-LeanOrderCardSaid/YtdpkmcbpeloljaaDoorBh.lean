/- Walk of law1's Begun. -/
import Derived.Test.YtdpkmcbpeloljaaDoorBg
namespace Go.Proofs.YtdpkmcbpeloljaaDoor
open Go.RowKit

set_option maxRecDepth 100000 in
theorem Begun_any (w : World) (L : Laid w) : Calls Tryd.prog 16 #[] w fun e w' => e = .returned (.bool true) ∧ Below w.heap.size w w' := by
  have HL := Lib.hid L
  clear L
  go_enter Tryd.func16, Tryd.ntmps16
  go_wp2_with (go_at_call 25; refine (begun_any _ HL.out).mono ?_; rintro e' w1 ⟨rfl, hb⟩; have B1 := Lib.hid hb; clear hb)
  go_ret
  exact ⟨rfl, B1.out⟩
end Go.Proofs.YtdpkmcbpeloljaaDoor
