/- Walks of the document's Digits. What law1's pouch laws share. -/
import Derived.Test.YthbbfdlacclccaaDoorN2
import Derived.Test.YthbbfdlacclccaaDoorN9
import Derived.Test.YthbbfdlacclccaaDoorN1
namespace Go.Proofs.YthbbfdlacclccaaDoor
open Go.RowKit

theorem decD_len20 (u : Nat) (h : u ≤ 18446744073709551615) : (Lib.decDigits u).length ≤ 20 := by
  have key : ∀ (k m : Nat), m < 10 ^ (k + 1) → (Lib.decDigits m).length ≤ k + 1 := by
    intro k
    induction k with
    | zero => intro m h; rw [Lib.decDigits_length, Lib.nDigits_small (by simpa using h)]; omega
    | succ k ih =>
      intro m h
      by_cases h10 : m < 10
      · rw [Lib.decDigits_length, Lib.nDigits_small h10]; omega
      · have := ih (m / 10) (by rw [Nat.pow_succ] at h; omega)
        rw [Lib.decDigits_length] at this ⊢
        rw [Lib.nDigits_big h10]
        omega
  exact key 19 u (by omega)
/-- What has been written, what is left. -/
def DgI (u m : Nat) (acc : List UInt8) : Prop := (acc = [] ∧ m = u) ∨ (0 < m ∧ Lib.decDigits u = Lib.decDigits m ++ acc)
theorem dgI_len {u m : Nat} {acc : List UInt8} (h : DgI u m acc) (hu : u ≤ 18446744073709551615) : acc.length ≤ 20 ∧ m ≤ u := by
  rcases h with ⟨rfl, rfl⟩ | ⟨h0, h⟩
  · simp
  · have h1 := decD_len20 u hu
    rw [h, List.length_append] at h1
    refine ⟨by omega, ?_⟩
    have e := decD_num u
    rw [h] at e
    have e2 : numD 0 (Lib.decDigits m ++ acc) = numD (numD 0 (Lib.decDigits m)) acc := by unfold numD; rw [List.foldl_append]
    rw [e2, decD_num] at e
    have := numD_mono acc m
    omega
theorem dgI_step {u m : Nat} {acc : List UInt8} (h : DgI u m acc) (hq : ¬ m / 10 = 0) : DgI u (m / 10) (UInt8.ofNat (48 + m % 10) :: acc) := by
  refine Or.inr ⟨by omega, ?_⟩
  have e : Lib.decDigits m = Lib.decDigits (m / 10) ++ [UInt8.ofNat (48 + m % 10)] := decD_big (by omega)
  rcases h with ⟨rfl, rfl⟩ | ⟨h0, h⟩
  · exact e
  · rw [h, e, List.append_assoc]; rfl
theorem dgI_end {u m : Nat} {acc : List UInt8} (h : DgI u m acc) (hq : m / 10 = 0) : UInt8.ofNat (48 + m % 10) :: acc = Lib.decDigits u := by
  have hm : m < 10 := by omega
  have e : Lib.decDigits m = [UInt8.ofNat (48 + m % 10)] := by rw [decD_small hm, Nat.mod_eq_of_lt hm]
  rcases h with ⟨rfl, rfl⟩ | ⟨h0, h⟩
  · exact e.symm
  · rw [h, e]; rfl
end Go.Proofs.YthbbfdlacclccaaDoor
namespace Go.Proofs.YthbbfdlacclccaaDoor
open Go.RowKit

theorem cut_flat {P : Nat → Prop} {w : World} {k n : Int} {s : ByteArray} {v : Value} (h : PAtO P w (.mk k n s []) v) : ∃ a c, v = .agg #[.int .i64 k, .int .i64 n, .string s, .slice a 0 c] := by
  cases h with
  | mk _ _ _ _ a c vs hk hn hs hl hr hv hcp => exact ⟨a, c, rfl⟩
theorem all_flat {k n : Int} {u s : ByteArray} (h : pAll s = (.mk k n u [], 0)) (hs : s.size ≤ 140737488355328) (W : World) (L : Laid W) :
    Calls Tryd.prog 22 #[.string s] W fun e w' => ∃ a c, e = .returned (.tuple #[.agg #[.int .i64 k, .int .i64 n, .string u, .slice a 0 c], .int .i64 0]) ∧ Below W.heap.size W w' := by
  refine (All_any s W L hs).mono ?_
  rintro e w' ⟨v, hp, rfl, hb⟩
  rw [h] at hp ⊢
  obtain ⟨a, c, rfl⟩ := cut_flat hp
  exact ⟨a, c, rfl, hb⟩
theorem all_none {s : ByteArray} (h : pAll s = (pz, 1)) (hs : s.size ≤ 140737488355328) (W : World) (L : Laid W) :
    Calls Tryd.prog 22 #[.string s] W fun e w' => ∃ k n u a m c, e = .returned (.tuple #[.agg #[.int .i64 k, .int .i64 n, .string u, .slice a m c], .int .i64 1]) ∧ Below W.heap.size W w' := by
  refine (All_any s W L hs).mono ?_
  rintro e w' ⟨v, hp, rfl, hb⟩
  obtain ⟨k, n, u, a, m, c, rfl⟩ := hp.form
  exact ⟨k, n, u, a, m, c, by rw [h]; rfl, hb⟩
end Go.Proofs.YthbbfdlacclccaaDoor
