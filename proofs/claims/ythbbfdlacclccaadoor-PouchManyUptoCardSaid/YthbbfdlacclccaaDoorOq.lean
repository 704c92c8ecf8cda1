/- How long a value's text is, by how much the value holds. -/
import Derived.Test.YthbbfdlacclccaaDoorN9
namespace Go.Proofs.YthbbfdlacclccaaDoor
open Go.RowKit

mutual
/-- How many values and letters a value holds. -/
def pbulk : PV → Nat
  | .mk _ _ s l => s.size + 1 + pbulkL l
def pbulkL : List PV → Nat
  | [] => 0
  | x :: t => pbulk x + pbulkL t
end
mutual
theorem pput_le : ∀ (x : PV), fits x → 64 * pbulk x ≤ 9223372036854775807 → (pput x).length ≤ 64 * pbulk x
  | .mk k n s l, hf, hb => by
    have hL := pputL_le l hf.2 (by
      have e : pbulk (.mk k n s l) = s.size + 1 + pbulkL l := rfl
      omega)
    have e : pbulk (.mk k n s l) = s.size + 1 + pbulkL l := rfl
    have hn := (itoa_len hf.1).2
    have hs : s.data.toList.length = s.size := rfl
    obtain ⟨t, ht⟩ : ∃ t, (if k = 1 then Lib.itoa n else if k = 3 then pputL l else s.data.toList) = t := ⟨_, rfl⟩
    have hlen : t.length ≤ 20 + s.size + 64 * pbulkL l := by
      rw [← ht]
      split
      · omega
      · split <;> omega
    have hd := (itoa_len (v := (t.length : Int)) (by omega)).2
    show (Lib.itoa (if k = 1 then Lib.itoa n else if k = 3 then pputL l else s.data.toList).length ++ (58 :: ((if k = 1 then Lib.itoa n else if k = 3 then pputL l else s.data.toList) ++ [if k = 1 then 35 else if k = 3 then 93 else 44]))).length ≤ _
    rw [ht]
    simp only [List.length_append, List.length_cons, List.length_nil]
    omega
theorem pputL_le : ∀ (l : List PV), fitsL l → 64 * pbulkL l ≤ 9223372036854775807 → (pputL l).length ≤ 64 * pbulkL l
  | [], _, _ => by show (0 : Nat) ≤ _; omega
  | x :: t, hf, hb => by
    have e : pbulkL (x :: t) = pbulk x + pbulkL t := rfl
    have h1 := pput_le x hf.1 (by omega)
    have h2 := pputL_le t hf.2 (by omega)
    show (pput x ++ pputL t).length ≤ _
    rw [List.length_append]
    omega
end
end Go.Proofs.YthbbfdlacclccaaDoor
