/- The listed variables of the rows: what the walks ask of a world; a world that meets it. The frame's parts for the laws' closing texts: bounds of numbers, rows of texts that come in. -/
import Derived.Test.YthbbfdlacclccaaDoorM8
import Derived.Test.YthbbfdlacclccaaDoorRows
import Derived.ProofKit
import Derived.LaidMore
import Derived.OpenShut
import Derived.Stop.Joined
import Derived.Stop.LaidErr
import Derived.Lib.LaidTab
import Derived.Lib.SmallJoins
import Derived.Test.YthbbfdlacclccaaDoorKit
import Derived.ShutString
import Derived.ChangeOld
import Derived.SliceStrings
namespace Go.Proofs.YthbbfdlacclccaaDoor
open Go.ChangeShapes Go.WideShapes Go.ChangeAt Go.RowKit Go.Joins

theorem own : ownKnob Tryd.prog.godebug = none := by kernel_rfl
def laidL : List (String × DataW Unit) := Rows.pouchManyUptoRow.laid
def doorN : Nat := 62
/-- The door's own heap meets the condition. -/
theorem door_met (os : Os) (args : Array Value) : laidMetH Tryd.prog laidL ((World.doorLaid Tryd.prog doorN os).forCall (fun _ _ => 0) ⟨#[], args, []⟩).memory :=
  laidMetH_of_parts3 (fuel := 8) (laidMet_of_run' 8 (by kernel_rfl) (by kernel_rfl)) (by kernel_rfl) (by kernel_rfl)
theorem starName : "*" ++ "errors.errorString" = "*errors.errorString" := by decide
theorem rowErr (u : TypeId) (h : Tryd.prog.typeName? 3 u = some "*errors.errorString") : u = 113 :=
  typeName_ptr_named (nm := "errors.errorString") (by rw [starName]; kernel_rfl) (by kernel_rfl) (by decide) u (by rw [starName]; exact h)
theorem laid_of {W : World} (h : laidMetH Tryd.prog laidL W) : Laid W := by
  have h' : laidMet Tryd.prog laidL W := by
    have e := MakeChecks.laidMetH_plain Tryd.prog laidL W (by kernel_rfl)
    rw [e] at h; exact h
  have h2 := laidMet.tail (laidMet.tail h')
  have h3 := laidMet.tail h2
  refine ⟨?_, ?_, ?_⟩
  · exact Lib.tabIs_of_head (P := Tryd.prog) (W := W) (name := "internal/strconv.uint64pow10") (k := .u64) (zs := Lib.pow10Tab) (g := 2) (t := 90) (e := 80) (n := 20) (by kernel_rfl) (by kernel_rfl) (by kernel_rfl) (by kernel_rfl) (by kernel_rfl) (by kernel_rfl) h2
  · obtain ⟨a, s, hv, -⟩ := laid_sentinel (P := Tryd.prog) (tp := 113) (te := 115) (ts := 9) (laidMet.tail h3) (g := 3) (ti := 66) (by kernel_rfl) (by kernel_rfl) Tryd.underlying66 rowErr Tryd.underlying113 Tryd.underlying115 rfl rfl Tryd.underlying9 (by kernel_rfl) (by kernel_rfl)
    exact ⟨_, _, hv⟩
  · obtain ⟨a, s, hv, -⟩ := laid_sentinel (P := Tryd.prog) (tp := 113) (te := 115) (ts := 9) h3 (g := 4) (ti := 66) (by kernel_rfl) (by kernel_rfl) Tryd.underlying66 rowErr Tryd.underlying113 Tryd.underlying115 rfl rfl Tryd.underlying9 (by kernel_rfl) (by kernel_rfl)
    exact ⟨_, _, hv⟩
end Go.Proofs.YthbbfdlacclccaaDoor
namespace Go.Proofs.YthbbfdlacclccaaDoor
open Go.ChangeShapes Go.WideShapes Go.ChangeAt Go.RowKit Go.Joins

theorem Tryd.laidOut : laidOutB Tryd.prog = true := by kernel_rfl
theorem bd_i64 {n : Int} (h : (Lit.int .i64 n).wf = true) : -9223372036854775808 ≤ n ∧ n ≤ 9223372036854775807 := bounds_i64 h
theorem bd_abs {n : Int} (h : (Lit.int .i64 n).wf = true) : n.natAbs ≤ 2 ^ 63 := by have := bd_i64 h; omega
theorem bd_u8 {n : Int} (h : (Lit.int .u8 n).wf = true) : ∃ x : UInt8, n = (x.toNat : Int) := by
  have := bounds_u8 h
  refine ⟨UInt8.ofNat n.toNat, ?_⟩
  rw [UInt8.toNat_ofNat']
  omega
theorem bd_str {s : ByteArray} (h : s.size ≤ maxLen) : s.size ≤ 9223372036854775807 := by unfold maxLen at h; omega
end Go.Proofs.YthbbfdlacclccaaDoor
