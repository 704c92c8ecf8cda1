/- The listed variables of the rows: what the walks ask of a world; a world that meets it. -/
import Derived.Test.YtehplflhaegkbaaGreatDoorM8
import Derived.Test.YtehplflhaegkbaaGreatDoorRows
import Derived.ProofKit
import Derived.LaidMore
import Derived.OpenShut
import Derived.Stop.Joined
import Derived.Stop.LaidErr
import Derived.Lib.LaidTab
import Derived.Lib.SmallJoins
namespace Go.Proofs.YtehplflhaegkbaaGreatDoor
open Go.ChangeShapes Go.WideShapes Go.ChangeAt Go.RowKit Go.Joins

theorem own : ownKnob Tryz.prog.godebug = none := by kernel_rfl
def laidL : List (String × DataW Unit) := Rows.leanAllRow.laid
def doorN : Nat := 62
/-- The door's own heap meets the condition. -/
theorem door_met (os : Os) (args : Array Value) : laidMetH Tryz.prog laidL ((World.doorLaid Tryz.prog doorN os).forCall (fun _ _ => 0) ⟨#[], args, []⟩).memory :=
  laidMetH_of_parts3 (fuel := 8) (laidMet_of_run' 8 (by kernel_rfl) (by kernel_rfl)) (by kernel_rfl) (by kernel_rfl)
theorem starName : "*" ++ "errors.errorString" = "*errors.errorString" := by decide
theorem rowErr (u : TypeId) (h : Tryz.prog.typeName? 3 u = some "*errors.errorString") : u = 135 :=
  typeName_ptr_named (nm := "errors.errorString") (by rw [starName]; kernel_rfl) (by kernel_rfl) (by decide) u (by rw [starName]; exact h)
theorem laid_of {W : World} (h : laidMetH Tryz.prog laidL W) : Laid W := by
  have h' : laidMet Tryz.prog laidL W := by
    have e := MakeChecks.laidMetH_plain Tryz.prog laidL W (by kernel_rfl)
    rw [e] at h; exact h
  have h2 := laidMet.tail (laidMet.tail h')
  have h3 := laidMet.tail h2
  refine ⟨?_, ?_, ?_⟩
  · exact Lib.tabIs_of_head (P := Tryz.prog) (W := W) (name := "internal/strconv.uint64pow10") (k := .u64) (zs := Lib.pow10Tab) (g := 2) (t := 115) (e := 102) (n := 20) (by kernel_rfl) (by kernel_rfl) (by kernel_rfl) (by kernel_rfl) (by kernel_rfl) (by kernel_rfl) h2
  · obtain ⟨a, s, hv, -⟩ := laid_sentinel (P := Tryz.prog) (tp := 135) (te := 137) (ts := 9) (laidMet.tail h3) (g := 3) (ti := 88) (by kernel_rfl) (by kernel_rfl) Tryz.underlying88 rowErr Tryz.underlying135 Tryz.underlying137 rfl rfl Tryz.underlying9 (by kernel_rfl) (by kernel_rfl)
    exact ⟨_, _, hv⟩
  · obtain ⟨a, s, hv, -⟩ := laid_sentinel (P := Tryz.prog) (tp := 135) (te := 137) (ts := 9) h3 (g := 4) (ti := 88) (by kernel_rfl) (by kernel_rfl) Tryz.underlying88 rowErr Tryz.underlying135 Tryz.underlying137 rfl rfl Tryz.underlying9 (by kernel_rfl) (by kernel_rfl)
    exact ⟨_, _, hv⟩
end Go.Proofs.YtehplflhaegkbaaGreatDoor
