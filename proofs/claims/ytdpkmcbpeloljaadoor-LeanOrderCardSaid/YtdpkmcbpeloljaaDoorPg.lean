/- Walk of pouch.size. -/
import Derived.Test.YtdpkmcbpeloljaaDoorPf
namespace Go.Proofs.YtdpkmcbpeloljaaDoor
open Go.RowKit

/-- A length and its colon: the length, how many bytes, the error. -/
def sizeR : List UInt8 → Nat → Nat → Nat × Nat × Nat
  | [], _, _ => (0, 0, 2)
  | c :: t, i, n => if c.toNat = 58 ∧ 0 < i then (n, i + 1, 0) else if c.toNat < 48 ∨ 57 < c.toNat ∨ 7 ≤ i ∨ (0 < i ∧ n = 0) then (0, 0, 1) else sizeR t (i + 1) (10 * n + (c.toNat - 48))
def sizeP (l : List UInt8) : Nat × Nat × Nat := sizeR l 0 0
theorem sizeR_bd : ∀ (l : List UInt8) (i n : Nat), n < 10 ^ i → i ≤ 7 → (sizeR l i n).1 < 10000000 ∧ (sizeR l i n).2.1 ≤ 8 ∧ (sizeR l i n).2.2 ≤ 2
  | [], _, _, _, _ => by unfold sizeR; decide
  | c :: t, i, n, hn, hi => by
    unfold sizeR
    have h7 : 10 ^ i ≤ 10 ^ 7 := Nat.pow_le_pow_right (by decide) hi
    split
    · exact ⟨by simp only; omega, by simp only; omega, by simp only; omega⟩
    · split
      · decide
      · rename_i h1 h2
        refine sizeR_bd t _ _ ?_ (by omega)
        rw [Nat.pow_succ]; omega
set_option maxRecDepth 100000 in
set_option maxHeartbeats 1600000 in
theorem size_any (s : ByteArray) (w : World) (_hs : s.size ≤ 9223372036854775807) :
    Calls Tryd.prog 67 #[.string s] w fun e w' => e = .returned (.tuple #[.int .i64 (sizeP s.data.toList).1, .int .i64 (sizeP s.data.toList).2.1, .int .i64 (sizeP s.data.toList).2.2]) ∧ w = w' := by
  obtain ⟨r, hr'⟩ : ∃ r, sizeP s.data.toList = r := ⟨_, rfl⟩
  have HR := Lib.hid hr'
  rw [hr']
  clear hr'
  go_enter Tryd.func67, Tryd.ntmps67
  go_wp2_with fail
  go_loop [5, 10] (fun nv i => ∃ k n : Nat, k ≤ s.size ∧ k ≤ 7 ∧ n < 10 ^ k ∧ i = .int .i64 k ∧ nv = .int .i64 n ∧ sizeR (s.data.toList.drop k) k n = r) (fun _ i => s.size - (intOf i).toNat)
  case atStart => exact ⟨0, 0, Nat.zero_le _, by omega, by decide, rfl, rfl, HR.out⟩
  case round =>
    obtain ⟨k, n, hk, hk7, hn, rfl, rfl, hr⟩ := hrel
    have hn7 : n < 10000000 := by have h7 : 10 ^ k ≤ 10 ^ 7 := Nat.pow_le_pow_right (by decide) hk7; omega
    have HS := Lib.hid hr
    clear HR hr
    by_cases hlt : k < s.size
    · have hkl : k < s.data.toList.length := by simpa using hlt
      have HD := Lib.hid (drop_cons hkl)
      have q0 : (k : Int) < (s.size : Int) := by omega
      obtain ⟨c, hc⟩ : ∃ n, (s[k]).toNat = n := ⟨_, rfl⟩
      have HC := Lib.hid (show (s.data.toList[k]).toNat = c from hc)
      have hc256 : c < 256 := by rw [← hc]; exact (s[k]).toNat_lt
      rw [HD.out] at HS
      have HS2 : Hid ((if c = 58 ∧ 0 < k then (n, k + 1, 0) else if c < 48 ∨ 57 < c ∨ 7 ≤ k ∨ (0 < k ∧ n = 0) then (0, 0, 1) else sizeR (s.data.toList.drop (k + 1)) (k + 1) (10 * n + (c - 48))) = r) := Lib.hid (by
        have := HS.out
        unfold sizeR at this
        rw [HC.out] at this
        exact this)
      clear HS HD
      by_cases h1 : c = 58 ∧ 0 < k
      · have HF := Lib.hid (show r = (n, k + 1, 0) from (HS2.out.symm.trans (if_pos h1)))
        obtain ⟨h1a, h1b⟩ := h1
        have e1 : ((c : Int) == 58) = true := by simp; omega
        have e2 : decide ((0 : Int) < (k : Int)) = true := decide_eq_true (by omega)
        have e2n : decide (0 < k) = true := decide_eq_true (by omega)
        clear h1a
        go_wp2_with fail
        go_ret3
        rw [HF.out]
        exact ⟨by simp, rfl⟩
      by_cases h2 : c < 48 ∨ 57 < c ∨ 7 ≤ k ∨ (0 < k ∧ n = 0)
      · have HF := Lib.hid (show r = (0, 0, 1) from (HS2.out.symm.trans ((if_neg h1).trans (if_pos h2))))
        by_cases h58 : c = 58
        · have e1 : ((c : Int) == 58) = true := by simp; omega
          have e2 : decide ((0 : Int) < (k : Int)) = false := decide_eq_false (by omega)
          have e2n : decide (0 < k) = false := decide_eq_false (by omega)
          have e3 : decide ((c : Int) < 48) = false := decide_eq_false (by omega)
          have e3n : decide (c < 48) = false := decide_eq_false (by omega)
          have e4 : decide ((57 : Int) < (c : Int)) = true := decide_eq_true (by omega)
          have e4n : decide (57 < c) = true := decide_eq_true (by omega)
          clear h1 h2 h58
          go_wp2_with fail
          go_ret3
          rw [HF.out]
          exact ⟨rfl, rfl⟩
        have e1 : ((c : Int) == 58) = false := by simp; omega
        by_cases h48 : c < 48
        · have e3 : decide ((c : Int) < 48) = true := decide_eq_true (by omega)
          have e3n : decide (c < 48) = true := decide_eq_true (by omega)
          clear h1 h2 h58
          go_wp2_with fail
          go_ret3
          rw [HF.out]
          exact ⟨rfl, rfl⟩
        have e3 : decide ((c : Int) < 48) = false := decide_eq_false (by omega)
        have e3n : decide (c < 48) = false := decide_eq_false (by omega)
        by_cases h57 : 57 < c
        · have e4 : decide ((57 : Int) < (c : Int)) = true := decide_eq_true (by omega)
          have e4n : decide (57 < c) = true := decide_eq_true (by omega)
          clear h1 h2 h58 h48
          go_wp2_with fail
          go_ret3
          rw [HF.out]
          exact ⟨rfl, rfl⟩
        have e4 : decide ((57 : Int) < (c : Int)) = false := decide_eq_false (by omega)
        have e4n : decide (57 < c) = false := decide_eq_false (by omega)
        by_cases h7 : 7 ≤ k
        · have e5 : decide ((7 : Int) ≤ (k : Int)) = true := decide_eq_true (by omega)
          have e5n : decide (7 ≤ k) = true := decide_eq_true (by omega)
          clear h1 h2 h58 h48 h57
          go_wp2_with fail
          go_ret3
          rw [HF.out]
          exact ⟨rfl, rfl⟩
        have e5 : decide ((7 : Int) ≤ (k : Int)) = false := decide_eq_false (by omega)
        have e5n : decide (7 ≤ k) = false := decide_eq_false (by omega)
        have e6 : decide ((0 : Int) < (k : Int)) = true := decide_eq_true (by omega)
        have e6n : decide (0 < k) = true := decide_eq_true (by omega)
        have e7 : ((n : Int) == 0) = true := by simp; omega
        have e7n : (n == 0) = true := by simp; omega
        clear h1 h2 h58 h48 h57 h7
        go_wp2_with fail
        go_ret3
        rw [HF.out]
        exact ⟨rfl, rfl⟩
      · have HF := Lib.hid (show sizeR (s.data.toList.drop (k + 1)) (k + 1) (10 * n + (c - 48)) = r from ((if_neg h1).trans (if_neg h2)).symm.trans HS2.out)
        have e1 : ((c : Int) == 58) = false := by simp; omega
        have e3 : decide ((c : Int) < 48) = false := decide_eq_false (by omega)
        have e3n : decide (c < 48) = false := decide_eq_false (by omega)
        have e4 : decide ((57 : Int) < (c : Int)) = false := decide_eq_false (by omega)
        have e4n : decide (57 < c) = false := decide_eq_false (by omega)
        have e5 : decide ((7 : Int) ≤ (k : Int)) = false := decide_eq_false (by omega)
        have e5n : decide (7 ≤ k) = false := decide_eq_false (by omega)
        have hc48 : (48 : Int) ≤ (c : Int) := by omega
        have hc57 : (c : Int) ≤ 57 := by omega
        have hn10 : 10 * n + (c - 48) < 10 ^ (k + 1) := by rw [Nat.pow_succ]; omega
        have HN := Lib.hid hn10
        have HT := Lib.hid (show (10 : Int) * (n : Int) + ((c : Int) - 48) = ((10 * n + (c - 48) : Nat) : Int) by omega)
        have hk7' : k + 1 ≤ 7 := by omega
        clear hn10
        by_cases hk0 : k = 0
        · have e6 : decide ((0 : Int) < (k : Int)) = false := decide_eq_false (by omega)
          have e6n : decide (0 < k) = false := decide_eq_false (by omega)
          clear h1 h2 hk0
          go_wp2_with fail
          go_round
          case rel => exact ⟨k + 1, _, by omega, hk7', HN.out, by go_num, by rw [← HT.out], HF.out⟩
          case measure => simp [intOf]; omega
        · have e6 : decide ((0 : Int) < (k : Int)) = true := decide_eq_true (by omega)
          have e6n : decide (0 < k) = true := decide_eq_true (by omega)
          have e7 : ((n : Int) == 0) = false := by simp; omega
          have e7n : (n == 0) = false := by simp; omega
          clear h1 h2 hk0
          go_wp2_with fail
          go_round
          case rel => exact ⟨k + 1, _, by omega, hk7', HN.out, by go_num, by rw [← HT.out], HF.out⟩
          case measure => simp [intOf]; omega
    · have HF := Lib.hid (show r = (0, 0, 2) from by
        have := HS.out
        rw [List.drop_of_length_le (by simp; omega)] at this
        exact this.symm)
      go_wp2_with fail
      go_ret3
      rw [HF.out]
      exact ⟨rfl, rfl⟩
end Go.Proofs.YtdpkmcbpeloljaaDoor
