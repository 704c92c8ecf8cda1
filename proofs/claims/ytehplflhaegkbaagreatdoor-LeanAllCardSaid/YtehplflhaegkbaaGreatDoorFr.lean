/- The frame's part for a roster that comes in as an argument. -/
import Derived.Test.YtehplflhaegkbaaGreatDoorRoK
import Derived.Test.YtehplflhaegkbaaGreatDoorFk
import Derived.ProofKit
import Derived.OpenShut
import Derived.ShutString
import Derived.ChangeOld
import Derived.Lib.SmallJoins
namespace Go.Proofs.YtehplflhaegkbaaGreatDoor
open Go.ChangeShapes Go.WideShapes Go.ChangeAt Go.RowKit Go.Joins

theorem Tryz.cellsRos : Tryz.prog.cellsOf 24 = 3 := by kernel_rfl
theorem Tryz.cellsInt : Tryz.prog.cellsOf 3 = 1 := by kernel_rfl

theorem wf_i64 {n : Int} (h : (Lit.int .i64 n).wf = true) : -9223372036854775808 ≤ n ∧ n ≤ 9223372036854775807 := bounds_i64 h

/-- Numbers that were read, as the walk is told of them. -/
theorem intsAt_of {w : World} {x : Addr} {zs : List Int} {len : Nat} (hl : len ≤ zs.length) (hc : ∀ i, i < zs.length → w.cell? (x.add i) = some (.int .i64 (zs.getD i 0))) : IntsAt w (some x) (zs.take len) := by
  by_cases h0 : len = 0
  · left; simp [h0]
  · obtain ⟨b, off, rfl, hc'⟩ := ints_at hc (by omega)
    right
    refine ⟨b, off, rfl, ?_, fun j hj => ?_⟩
    · exact cell_old (hc' 0 (by omega))
    · simp at hj
      rw [hc' j (by omega)]
      unfold nthI
      have hj1 : j < len := by omega
      have hj2 : j < zs.length := by omega
      simp [List.getD_eq_getElem?_getD, hj1, hj2]

set_option maxRecDepth 100000 in
theorem open_ros {H : Type} {enc : TypeId × Value → H} {W : World} {base : Nat} {v : Value} {d : DataW H} {p : List MemPlace}
    (hv : Value.okWide Tryz.prog W .any base 24 v) (h : DataW.Trod enc Tryz.prog W 0 (fun _ => true) true 24 v d p) :
    ∃ (e : Int) (a : Option Addr) (c : Nat) (zs : List Int) (nw : Int), v = rosV e a zs c nw ∧ (-9223372036854775808 ≤ e ∧ e ≤ 9223372036854775807) ∧ (-9223372036854775808 ≤ nw ∧ nw ≤ 9223372036854775807) ∧ IntsAt W a zs ∧ zs.length ≤ c ∧ c ≤ maxLen ∧ zs.length ≤ 9223372036854775807 := by
  obtain ⟨c0, c1, c2, y0, y1, y2, n, rfl, rfl, rfl, hy0, hy1, hy2⟩ := open_agg3 Tryz.underlying24 (by kernel_rfl) Tryz.cellsRos hv h
  obtain ⟨e, e0, rfl, we⟩ := DataW.trod_int Tryz.underlying2 hy0
  obtain ⟨nw, e2, rfl, wn⟩ := DataW.trod_int Tryz.underlying3 hy2
  simp only [List.cons.injEq, and_true] at e0 e2
  subst e0
  subst e2
  rcases open_ints Tryz.underlying22 Tryz.underlying3 (by kernel_rfl) hy1 with ⟨hcs, _⟩ | ⟨x, l, c, zs, hcs, _, hl, hm, hz, _, hcell, hwz⟩
  · simp only [List.cons.injEq, and_true] at hcs
    subst hcs
    exact ⟨e, none, 0, [], nw, rfl, wf_i64 we, wf_i64 wn, Or.inl rfl, by simp, by simp [maxLen], by simp⟩
  · simp only [List.cons.injEq, and_true] at hcs
    subst hcs
    have hz' : zs.length = c := by simpa using hz
    have hlt : (zs.take l).length = l := by simp; omega
    refine ⟨e, some x, c, zs.take l, nw, ?_, wf_i64 we, wf_i64 wn, intsAt_of (by omega) hcell, by omega, hm, by unfold maxLen at hm; omega⟩
    rw [rosV, hlt]

end Go.Proofs.YtehplflhaegkbaaGreatDoor
