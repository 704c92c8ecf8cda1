/- What law1's begun reckons, by the kernel. Equality of numbers. -/
import Derived.Test.YtdpkmcbpeloljaaDoorPl
import Derived.Test.YtdpkmcbpeloljaaDoorBb
namespace Go.Proofs.YtdpkmcbpeloljaaDoor
open Go.RowKit

/-- The value of law1's begun. -/
def bgV : PV := .mk 3 0 ⟨#[]⟩ [.mk 1 (-5) ⟨#[]⟩ [], .mk 2 0 ⟨#[97, 98]⟩ []]
def bgT : ByteArray := ⟨#[49, 48, 58, 50, 58, 45, 53, 35, 50, 58, 97, 98, 44, 93]⟩
theorem bg_put : pPut bgV = bgT.data.toList := by decide +kernel
theorem bg_may : pmay bgV = true := by decide +kernel
theorem bg_len : (pput bgV).length ≤ 140737488355328 := by decide +kernel
theorem bg_get1 : (pGet ⟨(bgT.data.toList ++ [122]).toArray⟩).2 = (14, 0) := by decide +kernel
theorem bg_get2 : peq (pGet ⟨(bgT.data.toList ++ [122]).toArray⟩).1 bgV = true := by decide +kernel
theorem bg_get3 : (pGet ⟨#[49, 48, 58, 50]⟩).2 = (0, 2) := by decide +kernel
theorem bg_get4 : (pGet ⟨#[120]⟩).2 = (0, 1) := by decide +kernel
theorem bg_hex : hex4 7 ++ hex4 255 = [48, 48, 48, 55, 48, 48, 102, 102] := by decide +kernel
theorem bg_read : readZ [48, 48, 48, 55, 48, 48, 102, 102] = some (7, 255) := by decide +kernel
theorem bg_n1 : norm (cmul (2, 3) (4, 5)) = norm (65514, 22) := by decide +kernel
theorem bg_n2 : norm (cmark [0]) = norm (65517, 3) := by decide +kernel
end Go.Proofs.YtdpkmcbpeloljaaDoor
