/- MarkSwap: the walk's other ways. -/
import Derived.Test.YtchfphhelafbbaaDoorLj
namespace Go.Proofs.YtchfphhelafbbaaDoor
open Go.RowKit

set_option maxRecDepth 100000 in
set_option maxHeartbeats 6400000 in
theorem markSwap_short (s : ByteArray) (n : Int) (hs : s.size ≤ 9223372036854775807) (h0 : s.size < 2) (w : World) (L : Laid w) : Calls Tryd.prog 11 #[.string s, .int .i64 n] w fun e w' => e = .returned (.bool true) ∧ Below w.heap.size w w' := by
  obtain ⟨A, hA⟩ : ∃ A, Hid (cutS s 100 = A) := ⟨_, Lib.hid rfl⟩
  have sA : A.size < 2 := by rw [← hA.out, cutS_size]; omega
  have hz : decide ((A.size : Int) < 2) = true := decide_eq_true (by omega)
  have hz' : decide (A.size < 2) = true := decide_eq_true (by omega)
  have HL := Lib.hid L
  have HB : Hid (Below w.heap.size w w) := Lib.hid (Below.refl _ _)
  clear L
  go_enter Tryd.func11, Tryd.ntmps11
  go_wp2_with (first | (go_at_call 19; refine (begun_any _ HL.out).mono ?_; rintro e' w1 ⟨rfl, hb⟩; have HB := Lib.hid (below_on HB.out hb); clear hb) | (go_at_call 26; refine (cut_p s A 100 100 _ hA hs (by decide) rfl).mono ?_; rintro e' w' ⟨rfl, rfl⟩))
  go_ret
  exact ⟨rfl, HB.out⟩
set_option maxRecDepth 100000 in
set_option maxHeartbeats 6400000 in
theorem markSwap_neg (s : ByteArray) (n : Int) (hs : s.size ≤ 9223372036854775807) (h0 : 2 ≤ s.size) (hn : n < 0) (w : World) (L : Laid w) : Calls Tryd.prog 11 #[.string s, .int .i64 n] w fun e w' => e = .returned (.bool true) ∧ Below w.heap.size w w' := by
  obtain ⟨A, hA⟩ : ∃ A, Hid (cutS s 100 = A) := ⟨_, Lib.hid rfl⟩
  have sA : 2 ≤ A.size := by rw [← hA.out, cutS_size]; omega
  have hz : decide ((A.size : Int) < 2) = false := decide_eq_false (by omega)
  have hz' : decide (A.size < 2) = false := decide_eq_false (by omega)
  have hn0 : decide (n < 0) = true := decide_eq_true hn
  have HL := Lib.hid L
  have HB : Hid (Below w.heap.size w w) := Lib.hid (Below.refl _ _)
  clear L
  go_enter Tryd.func11, Tryd.ntmps11
  go_wp2_with (first | (go_at_call 19; refine (begun_any _ HL.out).mono ?_; rintro e' w1 ⟨rfl, hb⟩; have HB := Lib.hid (below_on HB.out hb); clear hb) | (go_at_call 26; refine (cut_p s A 100 100 _ hA hs (by decide) rfl).mono ?_; rintro e' w' ⟨rfl, rfl⟩))
  go_ret
  exact ⟨rfl, HB.out⟩
theorem markSwap_walk (s : ByteArray) (n : Int) (hs : s.size ≤ 9223372036854775807) (w : World) (L : Laid w) : Calls Tryd.prog 11 #[.string s, .int .i64 n] w fun e w' => e = .returned (.bool true) ∧ Below w.heap.size w w' := by
  by_cases h0 : s.size < 2
  · exact markSwap_short s n hs h0 w L
  by_cases hn : n < 0
  · exact markSwap_neg s n hs (by omega) hn w L
  obtain ⟨k, rfl⟩ := Int.eq_ofNat_of_zero_le (by omega : 0 ≤ n)
  exact markSwap_good s k hs (by omega) w L
end Go.Proofs.YtchfphhelafbbaaDoor
