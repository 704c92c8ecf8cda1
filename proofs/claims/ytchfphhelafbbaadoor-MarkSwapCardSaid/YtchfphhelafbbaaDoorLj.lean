/- MarkSwap: the walk. -/
import Derived.Test.YtchfphhelafbbaaDoorBg
import Derived.Test.YtchfphhelafbbaaDoorCb
import Derived.Test.YtchfphhelafbbaaDoorLi
import Derived.BigRegion
import Derived.Deep.RegionWith
namespace Go.Proofs.YtchfphhelafbbaaDoor
open Go.RowKit

theorem index_at2 (s : ByteArray) (i : Nat) (h : i < s.size) (w : World) : (Instr.index 9 (.string s) (.int .i64 (i : Int))).run Tryd.prog w = .ok (.int .u8 ((s.data.toList[i]'(by rw [← size_list]; exact h)).toNat : Int)) w := by
  rw [run_index_string w _ _ _ _ Tryd.underlying9, dif_pos (by omega)]
  have e : s.data.toList[i]'(by rw [← size_list]; exact h) = s[i] := rfl
  rw [e]; simp
set_option maxRecDepth 100000 in
set_option maxHeartbeats 6400000 in
theorem markSwap_good (s : ByteArray) (n : Nat) (hs : s.size ≤ 9223372036854775807) (h0 : 2 ≤ s.size) (w : World) (L : Laid w) : Calls Tryd.prog 11 #[.string s, .int .i64 (n : Int)] w fun e w' => e = .returned (.bool true) ∧ Below w.heap.size w w' := by
  obtain ⟨A, hA⟩ : ∃ A, Hid (cutS s 100 = A) := ⟨_, Lib.hid rfl⟩
  have sA : A.size ≤ 100 := by rw [← hA.out, cutS_size]; omega
  have sA1 : 2 ≤ A.size := by rw [← hA.out, cutS_size]; omega
  have hz : decide ((A.size : Int) < 2) = false := decide_eq_false (by omega)
  have hz' : decide (A.size < 2) = false := decide_eq_false (by omega)
  have hn0 : decide ((n : Int) < 0) = false := decide_eq_false (by omega)
  obtain ⟨k, hk⟩ : ∃ k, n % (A.size - 1) = k := ⟨_, rfl⟩
  have hks : k + 1 < A.size := by have := Nat.mod_lt n (show 0 < A.size - 1 by omega); omega
  have hk1 : k < A.data.toList.length := by rw [← size_list]; omega
  have hk2 : k + 1 < A.data.toList.length := by rw [← size_list]; omega
  have hrem : (n : Int) % ((A.size : Int) - 1) = (k : Int) := by rw [show (A.size : Int) - 1 = ((A.size - 1 : Nat) : Int) by omega, ← hk, Int.natCast_emod]
  obtain ⟨y, hy⟩ : ∃ y, A.data.toList[k] = y := ⟨_, rfl⟩
  obtain ⟨z, hz2⟩ : ∃ z, A.data.toList[k + 1] = z := ⟨_, rfl⟩
  have hcell := fun w => bw_cell w A k hk1
  have hcell2 := fun w => bw_cell w A (k + 1) hk2
  rw [hy] at hcell
  rw [hz2] at hcell2
  have hfz := fun w => bw_frozen w A k (by omega)
  have hfz2 := fun w => bw_frozen w A (k + 1) hks
  have HR := Lib.hid (fun w => row_set (l := A.data.toList.set k z) (k := k + 1) (by rw [List.length_set]; exact hk2) y (row_set hk1 z (bw_row w A)))
  have HLn := Lib.hid (show ((A.data.toList.set k z).set (k + 1) y).length = A.size by rw [List.length_set, List.length_set, ← size_list])
  have HE : Hid ((eqZ (cmark ((A.data.toList.set k z).set (k + 1) y)) (cmark A.data.toList) == ((y.toNat : Int) == (z.toNat : Int))) = true) := Lib.hid (by
    have h1 : eqZ (cmark ((A.data.toList.set k z).set (k + 1) y)) (cmark A.data.toList) = true ↔ y = z := by
      have e1 : A.data.toList = A.data.toList.take k ++ y :: z :: A.data.toList.drop (k + 2) := by
        rw [← hy, ← hz2, List.getElem_cons_drop, List.getElem_cons_drop, List.take_append_drop]
      have e2 : (A.data.toList.set k z).set (k + 1) y = A.data.toList.take k ++ z :: y :: A.data.toList.drop (k + 2) := by
        have hl : (A.data.toList.take k).length = k := by rw [List.length_take]; omega
        conv => lhs; rw [e1]
        rw [List.set_append_right _ _ (by omega), hl, Nat.sub_self, List.set_cons_zero, List.set_append_right _ _ (by omega), hl, show k + 1 - k = 0 + 1 by omega, List.set_cons_succ, List.set_cons_zero]
      have e3 := cmark_swap (A.data.toList.take k) (A.data.toList.drop (k + 2)) y z
      rw [← e2, ← e1] at e3
      rw [eqZ_iff, ← same_iff]
      exact e3
    rw [beq_iff_eq, Bool.eq_iff_iff, h1, beq_iff_eq]
    constructor
    · rintro rfl; rfl
    · intro e; exact UInt8.toNat.inj (by omega))
  have hki1 : (0 : Int) ≤ (k : Int) + 1 := by omega
  have hwr : IntKind.i64.wrap ((k : Int) + 1) = (k : Int) + 1 := IntWalk.i64_in _ (by omega)
  have gy : A[k] = y := hy
  have gz : A[k + 1] = z := hz2
  have hki : (k : Int) + 1 < (A.size : Int) := by omega
  have hki0 : (k : Int) < (A.size : Int) := by omega
  have HL := Lib.hid L
  have HB : Hid (Below w.heap.size w w) := Lib.hid (Below.refl _ _)
  have hg := eqGuard_cv
  have hE := fun (p q : ZP) w => run_eq_cv 23 p q w
  have hNE := fun (p q : ZP) w => run_ne_cv 23 p q w
  have kc := run_bytes'
  have HLA := Lib.hid (show A.data.toList.length = A.size from (size_list A).symm)
  clear hk hy hz2 L
  go_enter Tryd.func11, Tryd.ntmps11
  go_wp2_with (first | (go_at_call 19; refine (begun_any _ HL.out).mono ?_; rintro e' w1 ⟨rfl, hb⟩; have HB := Lib.hid (below_on HB.out hb); clear hb) | (go_at_call 26; refine (cut_p s A 100 100 _ hA hs (by decide) rfl).mono ?_; rintro e' w' ⟨rfl, rfl⟩))
  go_region
  have HR1 := Lib.hid (HR.out w1)
  have HB2 := Lib.hid (((below_on HB.out (bw_below w1 A)).setCell (p := ⟨w1.heap.size, k, none⟩) HB.out.size (.int .u8 (z.toNat : Int))).setCell (p := ⟨w1.heap.size, k + 1, none⟩) HB.out.size (.int .u8 (y.toNat : Int)))
  generalize w1.heap.size = g at HR1 HB2 ⊢
  generalize ((bw w1 A).setCell ⟨g, k, none⟩ (.int .u8 (z.toNat : Int))).setCell ⟨g, k + 1, none⟩ (.int .u8 (y.toNat : Int)) = V at HR1 HB2 ⊢
  have HS : Hid (RowAt V.drew (some ⟨g, 0, none⟩) (Lib.byteCells ((A.data.toList.set k z).set (k + 1) y)) ∧ Below w.heap.size w V.drew) := Lib.hid ⟨HR1.out.drew, HB2.out.drew⟩
  generalize V.drew = V1 at HS ⊢
  clear hcell hcell2 hfz hfz2 HR HR1 HB2
  go_wp2_with fail
  have HSd := Lib.hid (HS.out.1.keep (Below.refl _ _).drew)
  have HSb := Lib.hid (HSd.out.keep (bw_below V1.drew A))
  have hA63 : A.size ≤ 9223372036854775807 := by omega
  have HLA2 := HLA
  have HSA : Hid (RowAt (bw V1.drew A) (some ⟨V1.heap.size, 0, none⟩) (Lib.byteCells A.data.toList)) := Lib.hid (bw_row V1.drew A)
  clear hA hz hz' hn0 HL HB hs h0 HLA2
  go_region_with (go_at_call 27; (first | ((with_reducible refine (mark_row _ g _ _ _ HLn.out hA63 HSd.out).mono ?_)) | ((with_reducible refine (mark_row _ g _ _ _ HLn.out hA63 HSb.out).mono ?_)) | ((with_reducible refine (mark_row _ _ _ _ _ HLA.out hA63 HSA.out).mono ?_))); rintro e' w' ⟨rfl, rfl⟩)
  all_goals
    go_wp2_with fail
    go_ret
    exact ⟨by (try simp only [gy, gz]); rw [HE.out]; rfl, below_on (below_on HS.out.2 (Below.refl _ _).drew) (bw_below V1.drew A)⟩
end Go.Proofs.YtchfphhelafbbaaDoor
