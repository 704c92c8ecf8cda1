/- MarkTurn: the walk. -/
import Derived.Test.YtchfphhelafbbaaDoorBg
import Derived.Test.YtchfphhelafbbaaDoorCb
import Derived.Test.YtchfphhelafbbaaDoorLh
namespace Go.Proofs.YtchfphhelafbbaaDoor
open Go.RowKit

theorem same_iff {p q : ZP} : Same p q ↔ norm p = norm q := ⟨norm_same, fun h => ⟨congrArg Prod.fst h, congrArg Prod.snd h⟩⟩
set_option maxRecDepth 100000 in
set_option maxHeartbeats 6400000 in
theorem markTurn_good (s : ByteArray) (n : Nat) (x : UInt8) (hs : s.size ≤ 9223372036854775807) (h0 : 1 ≤ s.size) (w : World) (L : Laid w) : Calls Tryd.prog 6 #[.string s, .int .i64 (n : Int), .int .u8 (x.toNat : Int)] w fun e w' => e = .returned (.bool true) ∧ Below w.heap.size w w' := by
  obtain ⟨A, hA⟩ : ∃ A, Hid (cutS s 150 = A) := ⟨_, Lib.hid rfl⟩
  have sA : A.size ≤ 150 := by rw [← hA.out, cutS_size]; omega
  have sA1 : 1 ≤ A.size := by rw [← hA.out, cutS_size]; omega
  have hz : ((A.size : Int) == 0) = false := by rw [beq_eq_false_iff_ne]; omega
  have hn0 : decide ((n : Int) < 0) = false := decide_eq_false (by omega)
  obtain ⟨k, hk⟩ : ∃ k, n % A.size = k := ⟨_, rfl⟩
  have hkl : k < A.data.toList.length := by rw [← size_list, ← hk]; exact Nat.mod_lt _ (by omega)
  have hks : k < A.size := by rw [size_list]; exact hkl
  have hrem : (n : Int) % (A.size : Int) = (k : Int) := by omega
  obtain ⟨y, hy⟩ : ∃ y, A.data.toList[k] = y := ⟨_, rfl⟩
  have hcell := fun w => bw_cell w A k hkl
  have hfz := fun w => bw_frozen w A k hks
  have hxor := xor_u8 y x
  rw [hy] at hcell
  have hrow := fun w => row_set hkl (y ^^^ x) (bw_row w A)
  rw [UInt8.toNat_xor] at hrow
  have HR := Lib.hid hrow
  have hlen : (A.data.toList.set k (y ^^^ x)).length = A.size := by rw [List.length_set, ← size_list]
  have HLn := Lib.hid hlen
  have HE : Hid ((eqZ (cmark (A.data.toList.set k (y ^^^ x))) (cmark A.data.toList) == ((x.toNat : Int) == 0)) = true) := Lib.hid (by
    have h1 : eqZ (cmark (A.data.toList.set k (y ^^^ x))) (cmark A.data.toList) = true ↔ x.toNat = 0 := by
      rw [eqZ_iff, ← same_iff, cmark_set _ _ hkl, hy]
      constructor
      · intro e
        have : y ^^^ x ^^^ y = y ^^^ y := by rw [e]
        have : x = 0 := by
          rw [UInt8.xor_self, UInt8.xor_comm y x, UInt8.xor_assoc, UInt8.xor_self, UInt8.xor_zero] at this; exact this
        rw [this]; rfl
      · intro e
        have : x = 0 := UInt8.toNat.inj e
        rw [this, UInt8.xor_zero]
    rw [beq_iff_eq, Bool.eq_iff_iff, h1, beq_iff_eq]
    omega)
  have HL := Lib.hid L
  have HB : Hid (Below w.heap.size w w) := Lib.hid (Below.refl _ _)
  have hg := eqGuard_cv
  have hE := fun (p q : ZP) w => run_eq_cv 23 p q w
  have hNE := fun (p q : ZP) w => run_ne_cv 23 p q w
  have kc := run_bytes'
  have HLA := Lib.hid (show A.data.toList.length = A.size from (size_list A).symm)
  clear hk hkl hy hrow hlen L
  go_enter Tryd.func6, Tryd.ntmps6
  go_wp2_with (first | (go_at_call 19; refine (begun_any _ HL.out).mono ?_; rintro e' w1 ⟨rfl, hb⟩; have HB := Lib.hid (below_on HB.out hb); clear hb) | (go_at_call 26; refine (cut_p s A 150 150 _ hA hs (by decide) rfl).mono ?_; rintro e' w' ⟨rfl, rfl⟩))
  refine (mark_row _ _ _ _ _ HLn.out (by omega) (HR.out _)).mono ?_
  rintro e' w' ⟨rfl, rfl⟩
  have HB2 := Lib.hid ((below_on HB.out (bw_below w1 A)).setCell (p := ⟨w1.heap.size, k, none⟩) HB.out.size (.int .u8 ((y.toNat ^^^ x.toNat : Nat) : Int)))
  generalize (bw w1 A).setCell ⟨w1.heap.size, k, none⟩ (.int .u8 ((y.toNat ^^^ x.toNat : Nat) : Int)) = V at HB2 ⊢
  clear hcell hfz HR
  go_wp2_with fail
  refine (mark_row _ _ _ _ _ HLA.out (by omega) (bw_row V A)).mono ?_
  rintro e' w' ⟨rfl, rfl⟩
  go_wp2_with fail
  go_ret
  exact ⟨by rw [HE.out]; rfl, below_on HB2.out (bw_below V A)⟩
set_option maxRecDepth 100000 in
set_option maxHeartbeats 6400000 in
theorem markTurn_none (s : ByteArray) (n : Int) (x : UInt8) (hs : s.size ≤ 9223372036854775807) (h0 : s.size = 0) (w : World) (L : Laid w) : Calls Tryd.prog 6 #[.string s, .int .i64 n, .int .u8 (x.toNat : Int)] w fun e w' => e = .returned (.bool true) ∧ Below w.heap.size w w' := by
  obtain ⟨A, hA⟩ : ∃ A, Hid (cutS s 150 = A) := ⟨_, Lib.hid rfl⟩
  have sA : A.size = 0 := by rw [← hA.out, cutS_size]; omega
  have hz : ((A.size : Int) == 0) = true := by rw [beq_iff_eq]; omega
  have hz' : ((A.size == 0) = true) := by rw [beq_iff_eq]; omega
  have HL := Lib.hid L
  have HB : Hid (Below w.heap.size w w) := Lib.hid (Below.refl _ _)
  have hg := eqGuard_cv
  have hE := fun (p q : ZP) w => run_eq_cv 23 p q w
  have hNE := fun (p q : ZP) w => run_ne_cv 23 p q w
  have kc := run_bytes
  clear sA L h0
  go_enter Tryd.func6, Tryd.ntmps6
  go_wp2_with (first | (go_at_call 19; refine (begun_any _ HL.out).mono ?_; rintro e' w1 ⟨rfl, hb⟩; have HB := Lib.hid (below_on HB.out hb); clear hb) | (go_at_call 26; refine (cut_p s A 150 150 _ hA hs (by decide) rfl).mono ?_; rintro e' w' ⟨rfl, rfl⟩))
  go_ret
  exact ⟨rfl, HB.out⟩
set_option maxRecDepth 100000 in
set_option maxHeartbeats 6400000 in
theorem markTurn_neg (s : ByteArray) (n : Int) (x : UInt8) (hs : s.size ≤ 9223372036854775807) (h0 : 1 ≤ s.size) (hn : n < 0) (w : World) (L : Laid w) : Calls Tryd.prog 6 #[.string s, .int .i64 n, .int .u8 (x.toNat : Int)] w fun e w' => e = .returned (.bool true) ∧ Below w.heap.size w w' := by
  obtain ⟨A, hA⟩ : ∃ A, Hid (cutS s 150 = A) := ⟨_, Lib.hid rfl⟩
  have sA : 1 ≤ A.size := by rw [← hA.out, cutS_size]; omega
  have hz : ((A.size : Int) == 0) = false := by rw [beq_eq_false_iff_ne]; omega
  have hn0 : decide (n < 0) = true := decide_eq_true hn
  have HL := Lib.hid L
  have HB : Hid (Below w.heap.size w w) := Lib.hid (Below.refl _ _)
  have hg := eqGuard_cv
  have hE := fun (p q : ZP) w => run_eq_cv 23 p q w
  have hNE := fun (p q : ZP) w => run_ne_cv 23 p q w
  have kc := run_bytes
  clear L h0
  go_enter Tryd.func6, Tryd.ntmps6
  go_wp2_with (first | (go_at_call 19; refine (begun_any _ HL.out).mono ?_; rintro e' w1 ⟨rfl, hb⟩; have HB := Lib.hid (below_on HB.out hb); clear hb) | (go_at_call 26; refine (cut_p s A 150 150 _ hA hs (by decide) rfl).mono ?_; rintro e' w' ⟨rfl, rfl⟩))
  go_ret
  exact ⟨rfl, HB.out⟩
theorem markTurn_walk (s : ByteArray) (n : Int) (x : UInt8) (hs : s.size ≤ 9223372036854775807) (w : World) (L : Laid w) : Calls Tryd.prog 6 #[.string s, .int .i64 n, .int .u8 (x.toNat : Int)] w fun e w' => e = .returned (.bool true) ∧ Below w.heap.size w w' := by
  by_cases h0 : s.size = 0
  · exact markTurn_none s n x hs h0 w L
  by_cases hn : n < 0
  · exact markTurn_neg s n x hs (by omega) hn w L
  obtain ⟨k, rfl⟩ := Int.eq_ofNat_of_zero_le (by omega : 0 ≤ n)
  exact markTurn_good s k x hs (by omega) w L
end Go.Proofs.YtchfphhelafbbaaDoor
