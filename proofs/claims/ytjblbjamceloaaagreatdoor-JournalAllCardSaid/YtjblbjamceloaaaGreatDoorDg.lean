/- Walks of the document's Digits. -/
import Derived.Test.YtjblbjamceloaaaGreatDoorN2
import Derived.Test.YtjblbjamceloaaaGreatDoorN9
namespace Go.Proofs.YtjblbjamceloaaaGreatDoor
open Go.RowKit

theorem decD_len20 (u : Nat) (h : u ≤ 18446744073709551615) : (Lib.decDigits u).length ≤ 20 := by
  have key : ∀ (k m : Nat), m < 10 ^ (k + 1) → (Lib.decDigits m).length ≤ k + 1 := by
    intro k
    induction k with
    | zero => intro m h; rw [Lib.decDigits_length, Lib.nDigits_small (by simpa using h)]; omega
    | succ k ih =>
      intro m h
      by_cases h10 : m < 10
      · rw [Lib.decDigits_length, Lib.nDigits_small h10]; omega
      · have := ih (m / 10) (by rw [Nat.pow_succ] at h; omega)
        rw [Lib.decDigits_length] at this ⊢
        rw [Lib.nDigits_big h10]
        omega
  exact key 19 u (by omega)
/-- What has been written, what is left. -/
def DgI (u m : Nat) (acc : List UInt8) : Prop := (acc = [] ∧ m = u) ∨ (0 < m ∧ Lib.decDigits u = Lib.decDigits m ++ acc)
theorem dgI_len {u m : Nat} {acc : List UInt8} (h : DgI u m acc) (hu : u ≤ 18446744073709551615) : acc.length ≤ 20 ∧ m ≤ u := by
  rcases h with ⟨rfl, rfl⟩ | ⟨h0, h⟩
  · simp
  · have h1 := decD_len20 u hu
    rw [h, List.length_append] at h1
    refine ⟨by omega, ?_⟩
    have e := decD_num u
    rw [h] at e
    have e2 : numD 0 (Lib.decDigits m ++ acc) = numD (numD 0 (Lib.decDigits m)) acc := by unfold numD; rw [List.foldl_append]
    rw [e2, decD_num] at e
    have := numD_mono acc m
    omega
theorem dgI_step {u m : Nat} {acc : List UInt8} (h : DgI u m acc) (hq : ¬ m / 10 = 0) : DgI u (m / 10) (UInt8.ofNat (48 + m % 10) :: acc) := by
  refine Or.inr ⟨by omega, ?_⟩
  have e : Lib.decDigits m = Lib.decDigits (m / 10) ++ [UInt8.ofNat (48 + m % 10)] := decD_big (by omega)
  rcases h with ⟨rfl, rfl⟩ | ⟨h0, h⟩
  · exact e
  · rw [h, e, List.append_assoc]; rfl
theorem dgI_end {u m : Nat} {acc : List UInt8} (h : DgI u m acc) (hq : m / 10 = 0) : UInt8.ofNat (48 + m % 10) :: acc = Lib.decDigits u := by
  have hm : m < 10 := by omega
  have e : Lib.decDigits m = [UInt8.ofNat (48 + m % 10)] := by rw [decD_small hm, Nat.mod_eq_of_lt hm]
  rcases h with ⟨rfl, rfl⟩ | ⟨h0, h⟩
  · exact e.symm
  · rw [h, e]; rfl
set_option maxRecDepth 100000 in
set_option maxHeartbeats 1600000 in
theorem digits_u (u : Nat) (w : World) (hu : u ≤ 18446744073709551615) :
    Calls Tryz.prog 79 #[.int .u64 (u : Int)] w fun e w' => e = .returned (.string ⟨(Lib.decDigits u).toArray⟩) ∧ Below w.heap.size w w' := by
  go_enter Tryz.func79, Tryz.ntmps79
  go_wp2_with fail
  go_loopw [0, 3] (fun n s wr => ∃ (m : Nat) (acc : List UInt8), n = .int .u64 (m : Int) ∧ s = .string ⟨acc.toArray⟩ ∧ DgI u m acc ∧ Below w.heap.size w wr) (fun n _ _ => (intOf n).toNat)
  case atStart => exact ⟨u, [], rfl, rfl, Or.inl ⟨rfl, rfl⟩, Below.refl _ _⟩
  case round =>
    obtain ⟨m, acc, rfl, rfl, hI, hB⟩ := hrel
    have hl := dgI_len hI hu
    have HB := Lib.hid hB
    obtain ⟨d, hd⟩ : ∃ d, m % 10 = d := ⟨_, rfl⟩
    obtain ⟨q, hq⟩ : ∃ q, m / 10 = q := ⟨_, rfl⟩
    obtain ⟨b, hb⟩ : ∃ b, UInt8.ofNat (48 + d) = b := ⟨_, rfl⟩
    have hbn : (b.toNat : Int) = 48 + (d : Int) := by rw [← hb, dig_toNat (by omega)]; omega
    have HS : Hid (q ≠ 0 → DgI u q (b :: acc)) := Lib.hid (fun h => by rw [← hb, ← hd, ← hq]; exact dgI_step hI (by omega))
    have HE : Hid (q = 0 → b :: acc = Lib.decDigits u) := Lib.hid (fun h => by rw [← hb, ← hd]; exact dgI_end hI (by omega))
    have hrem : (m : Int) % 10 = (d : Int) := by omega
    have hquo : (m : Int) / 10 = (q : Int) := by omega
    have hd10 : d < 10 := by omega
    have hqm : q ≤ m / 10 := by omega
    have hcat := run_cat (P := Tryz.prog) [b] acc (by simp; omega)
    have hconv : (convert 47 9 (.slice (some ⟨wr.heap.size, 0, none⟩) 1 1)).run Tryz.prog (wr.alloc (.cells #[.int .u8 (b.toNat : Int)] 5)) = .ok (.string ⟨[b].toArray⟩) (wr.alloc (.cells #[.int .u8 (b.toNat : Int)] 5)) :=
      run_bytes_str 1 (RowAt.new wr (.int .u8 (b.toNat : Int)) 5) rfl
    rw [hbn] at hconv
    have HB2 : Hid (Below w.heap.size w (wr.alloc (.cells #[.int .u8 (48 + (d : Int))] 5))) := Lib.hid (below_alloc HB.out _)
    clear hd hq hb hI hB
    by_cases hq0 : q = 0
    · have hqb : ((q : Int) == 0) = true := by rw [beq_iff_eq]; omega
      have HE2 := Lib.hid (HE.out hq0)
      clear hq0 HS HE
      go_wp2_with fail
      go_ret
      exact ⟨by rw [← HE2.out]; rfl, HB2.out⟩
    · have hqb : ((q : Int) == 0) = false := by rw [beq_eq_false_iff_ne]; omega
      have HS2 := Lib.hid (HS.out hq0)
      have hqm2 : q < m := by omega
      clear hq0 HS HE
      go_wp2_with fail
      go_roundw
      case rel => exact ⟨q, b :: acc, rfl, rfl, HS2.out, HB2.out⟩
      case measure => simp [intOf]; omega
set_option maxRecDepth 100000 in
set_option maxHeartbeats 1600000 in
theorem rdigits (n : Int) (w : World) (h0 : -9223372036854775808 ≤ n) (h1 : n ≤ 9223372036854775807) :
    Calls Tryz.prog 61 #[.int .i64 n] w fun e w' => e = .returned (.string ⟨(Lib.itoa n).toArray⟩) ∧ Below w.heap.size w w' := by
  by_cases hn : n < 0
  · have hd : decide (n < 0) = true := decide_eq_true hn
    obtain ⟨u, hu⟩ : ∃ u : Nat, n.natAbs = u := ⟨_, rfl⟩
    have hnu : n = -(u : Int) := by omega
    have hu1 : 1 ≤ u := by omega
    have hu2 : u ≤ 9223372036854775808 := by omega
    have HI := Lib.hid (show Lib.itoa n = 45 :: Lib.decDigits u by unfold Lib.itoa; rw [if_pos hn, hu])
    have hcat := run_cat (P := Tryz.prog) [45] (Lib.decDigits u) (by have := decD_len20 u (by omega); simp; omega)
    have k1 : IntKind.i64.wrap (n + 1) = n + 1 := IntWalk.i64_in _ (by omega)
    have HC := Lib.hid (digits_u u w (by omega))
    clear hu
    subst hnu
    go_enter Tryz.func61, Tryz.ntmps61
    go_wp2_with fail
    rw [show (-(-(u : Int) + 1) + 1) = (u : Int) by omega]
    refine HC.out.mono ?_
    rintro e' w1 ⟨rfl, hb⟩
    have HB := Lib.hid hb
    clear hb
    go_wp2_with fail
    go_ret
    exact ⟨by rw [HI.out]; rfl, HB.out⟩
  · have hd : decide (n < 0) = false := decide_eq_false hn
    obtain ⟨u, rfl⟩ := Int.eq_ofNat_of_zero_le (by omega : 0 ≤ n)
    have HI := Lib.hid (itoa_nat u)
    have k2 : IntKind.u64.wrap (u : Int) = (u : Int) := IntWalk.u64_in _ (by omega)
    clear hn
    go_enter Tryz.func61, Tryz.ntmps61
    go_wp2_with (go_at_call 79; refine (digits_u u _ (by omega)).mono ?_; rintro e' w1 ⟨rfl, hb⟩; have HB := Lib.hid hb; clear hb)
    go_ret
    exact ⟨by rw [HI.out]; rfl, HB.out⟩
end Go.Proofs.YtjblbjamceloaaaGreatDoor
