/- The frame's parts for the laws' closing texts: bounds of numbers, rows of texts that come in. -/
import Derived.Test.YtehplflhaegkbaaGreatDoorLd
import Derived.Test.YtehplflhaegkbaaGreatDoorKit
import Derived.ShutString
import Derived.ChangeOld
import Derived.SliceStrings
namespace Go.Proofs.YtehplflhaegkbaaGreatDoor
open Go.ChangeShapes Go.WideShapes Go.ChangeAt Go.RowKit Go.Joins

theorem Tryz.laidOut : laidOutB Tryz.prog = true := by kernel_rfl
theorem bd_i64 {n : Int} (h : (Lit.int .i64 n).wf = true) : -9223372036854775808 ≤ n ∧ n ≤ 9223372036854775807 := bounds_i64 h
theorem bd_abs {n : Int} (h : (Lit.int .i64 n).wf = true) : n.natAbs ≤ 2 ^ 63 := by have := bd_i64 h; omega
theorem bd_u8 {n : Int} (h : (Lit.int .u8 n).wf = true) : ∃ x : UInt8, n = (x.toNat : Int) := by
  have := bounds_u8 h
  refine ⟨UInt8.ofNat n.toNat, ?_⟩
  rw [UInt8.toNat_ofNat']
  omega
theorem bd_str {s : ByteArray} (h : s.size ≤ maxLen) : s.size ≤ 9223372036854775807 := by unfold maxLen at h; omega
end Go.Proofs.YtehplflhaegkbaaGreatDoor
