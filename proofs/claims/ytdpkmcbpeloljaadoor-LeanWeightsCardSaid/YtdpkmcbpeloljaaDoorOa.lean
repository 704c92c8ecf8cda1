/- LeanWeights: the walk. -/
import Derived.Test.YtdpkmcbpeloljaaDoorNd
namespace Go.Proofs.YtdpkmcbpeloljaaDoor
open Go.RowKit

theorem cut_h (s A : ByteArray) (n : Nat) (m : Int) (w : World) (hA : Hid (cutS s n = A)) (hs : s.size ≤ 9223372036854775807) (hn : n ≤ 9223372036854775807) (hm : m = (n : Int)) :
    Calls Tryd.prog 8 #[.string s, .int .i64 m] w fun e w' => e = .returned (.string A) ∧ w = w' := by
  rw [← hA.out, hm]; exact cut_any s n w hs hn
set_option maxRecDepth 100000 in
set_option maxHeartbeats 3200000 in
theorem leanWeights_walk (s : ByteArray) (n : Int) (hs : s.size ≤ 9223372036854775807) (w : World) (L : Laid w) : Calls Tryd.prog 6 #[.string s, .int .i64 n] w fun e w' => e = .returned (.bool true) ∧ Below w.heap.size w w' := by
  obtain ⟨A, hA⟩ : ∃ A, Hid (cutS s 60 = A) := ⟨_, Lib.hid rfl⟩
  have sA : A.size ≤ 9223372036854775807 := by rw [← hA.out, cutS_size]; omega
  obtain ⟨x, hx⟩ : ∃ x, wgt n A.data.toList = x := ⟨_, rfl⟩
  have HW : Hid (∀ w, Calls Tryd.prog 14 #[.int .i64 n, .string A] w fun e w' => e = .returned (.int .i64 x) ∧ Below w.heap.size w w') := Lib.hid (fun w => by rw [← hx]; exact weight_any n A w sA)
  have HR : Hid (∀ w, Calls Tryd.prog 15 #[.int .i64 n, .string A] w fun e w' => e = .returned (.int .i64 x) ∧ Below w.heap.size w w') := Lib.hid (fun w => by rw [← hx]; exact rweight_any n A w sA)
  have hb := wgt_bd n A.data.toList
  have hn := wgt_neg n A.data.toList
  rw [hx] at hb hn
  have HL := Lib.hid L
  have HB : Hid (Below w.heap.size w w) := Lib.hid (Below.refl _ _)
  have e0 : (x == x) = true := beq_self_eq_true x
  have e1 : decide (x < 65521) = true := decide_eq_true hb.2
  have e2 : decide (x ≥ -1) = true := decide_eq_true hb.1
  have e3 : decide (-1 ≤ x) = true := decide_eq_true hb.1
  by_cases h1 : n < 1
  · obtain rfl : x = -1 := hn.2 (Or.inl h1)
    have d1 : decide (n < 1) = true := decide_eq_true h1
    clear hx hb hn L h1
    go_enter Tryd.func6, Tryd.ntmps6
    go_wp2_with (first | (go_at_call 7; refine (begun14_any _ HL.out).mono ?_; rintro e' w1 ⟨rfl, hb⟩; have HB := Lib.hid (below_on HB.out hb); clear hb) | (go_at_call 8; (with_reducible refine (cut_h s A 60 60 _ hA hs (by decide) rfl).mono ?_); rintro e' w' ⟨rfl, rfl⟩) | (go_at_call 14; refine (HW.out _).mono ?_; rintro e' w1 ⟨rfl, hb⟩; have HB := Lib.hid (below_on HB.out hb); clear hb) | (go_at_call 15; refine (HR.out _).mono ?_; rintro e' w1 ⟨rfl, hb⟩; have HB := Lib.hid (below_on HB.out hb); clear hb))
    go_ret
    exact ⟨rfl, HB.out⟩
  by_cases h2 : 5 < n
  · obtain rfl : x = -1 := hn.2 (Or.inr h2)
    have d1 : decide (n < 1) = false := decide_eq_false h1
    have d2 : decide (5 < n) = true := decide_eq_true h2
    clear hx hb hn L h1 h2
    go_enter Tryd.func6, Tryd.ntmps6
    go_wp2_with (first | (go_at_call 7; refine (begun14_any _ HL.out).mono ?_; rintro e' w1 ⟨rfl, hb⟩; have HB := Lib.hid (below_on HB.out hb); clear hb) | (go_at_call 8; (with_reducible refine (cut_h s A 60 60 _ hA hs (by decide) rfl).mono ?_); rintro e' w' ⟨rfl, rfl⟩) | (go_at_call 14; refine (HW.out _).mono ?_; rintro e' w1 ⟨rfl, hb⟩; have HB := Lib.hid (below_on HB.out hb); clear hb) | (go_at_call 15; refine (HR.out _).mono ?_; rintro e' w1 ⟨rfl, hb⟩; have HB := Lib.hid (below_on HB.out hb); clear hb))
    go_ret
    exact ⟨rfl, HB.out⟩
  have e5 : (x == -1) = false := by rw [beq_eq_false_iff_ne]; intro h; have := hn.1 h; omega
  have d1 : decide (n < 1) = false := decide_eq_false h1
  have d2 : decide (5 < n) = false := decide_eq_false h2
  clear hx hb hn L h1 h2
  go_enter Tryd.func6, Tryd.ntmps6
  go_wp2_with (first | (go_at_call 7; refine (begun14_any _ HL.out).mono ?_; rintro e' w1 ⟨rfl, hb⟩; have HB := Lib.hid (below_on HB.out hb); clear hb) | (go_at_call 8; (with_reducible refine (cut_h s A 60 60 _ hA hs (by decide) rfl).mono ?_); rintro e' w' ⟨rfl, rfl⟩) | (go_at_call 14; refine (HW.out _).mono ?_; rintro e' w1 ⟨rfl, hb⟩; have HB := Lib.hid (below_on HB.out hb); clear hb) | (go_at_call 15; refine (HR.out _).mono ?_; rintro e' w1 ⟨rfl, hb⟩; have HB := Lib.hid (below_on HB.out hb); clear hb))
  go_ret
  exact ⟨rfl, HB.out⟩
end Go.Proofs.YtdpkmcbpeloljaaDoor
