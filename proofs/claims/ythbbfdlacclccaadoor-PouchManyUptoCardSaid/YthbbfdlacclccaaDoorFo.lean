/- The frame's part for numbers in an argument of many cells. -/
import Derived.Test.YthbbfdlacclccaaDoorF1
namespace Go.Proofs.YthbbfdlacclccaaDoor
open Go.ChangeShapes Go.WideShapes Go.ChangeAt Go.RowKit Go.Joins

set_option maxRecDepth 100000
theorem one_int {H : Type} {enc : TypeId × Value → H} {W : World} {base : Nat} {spare : Nat → Bool} {held : Bool} {k : Nat} {cs : List Value} {y : DataW H × List MemPlace} {t : TypeId} (ht : Tryd.prog.underlying t = some (.int .i64)) (h : DataW.trod enc Tryd.prog W base spare held k t cs = some y) : ∃ n, cs = [.int .i64 n] ∧ -9223372036854775808 ≤ n ∧ n ≤ 9223372036854775807 := by
  obtain ⟨n, h1, -, h2⟩ := DataW.trod_int ht h
  exact ⟨n, h1, bd_i64 h2⟩
theorem c_int : Tryd.prog.cellsOf 3 = 1 := by kernel_rfl
theorem c_i64 : Tryd.prog.cellsOf 2 = 1 := by kernel_rfl
theorem four_of {cs : List Value} (h : cs.length = 4) : ∃ a b c d, cs = [a, b, c, d] := by
  match cs, h with
  | [a, b, c, d], _ => exact ⟨a, b, c, d, rfl⟩
theorem addr_off (q o j : Nat) : (⟨q, o, none⟩ : Addr).add j = ⟨q, o + j, none⟩ := by unfold Addr.add; split <;> simp_all
end Go.Proofs.YthbbfdlacclccaaDoor
