/- Texts as bytes that are turned. -/
import Derived.Test.YtdpkmcbpeloljaaDoorCa
import Derived.Laws.BitsAllLaws
namespace Go.Proofs.YtdpkmcbpeloljaaDoor
open Go.RowKit

theorem run_ne_cv (t : TypeId) (p q : ZP) (w : World) : (binOp .neq t (cv p) (cv q)).run Tryd.prog w = .ok (.bool (!eqZ p q)) w := by
  rw [cv_eq, cv_eq, run_neq_complex]
  have h1 := eq_fl (rs_abs p.1) (rs_abs q.1)
  have h2 := eq_fl (rs_abs p.2) (rs_abs q.2)
  unfold eqF at h1 h2
  rw [h1, h2]
  unfold eqZ norm
  congr 3
  rw [Bool.eq_iff_iff]
  simp
def gc (w : World) (s : ByteArray) : Nat := grownCap w s.size 0 5
theorem run_bytes' (w : World) (s : ByteArray) : (convert 9 42 (.string s)).run Tryd.prog w = .ok (.slice (some ⟨w.heap.size, 0, none⟩) s.size (gc w s)) (bw w s) := run_bytes w s
theorem bw_cell (w : World) (s : ByteArray) (k : Nat) (h : k < s.data.toList.length) : (bw w s).cell? ⟨w.heap.size, k, none⟩ = some (.int .u8 (s.data.toList[k].toNat : Int)) := by
  have := Lib.bytesWorld_cell w 5 s k (by rw [size_list]; exact h)
  rw [List.getD, List.getElem?_eq_getElem h] at this
  exact this
theorem bw_frozen (w : World) (s : ByteArray) (k : Nat) (h : k < s.size) : (bw w s).frozen? ⟨w.heap.size, k, none⟩ = false := by
  unfold bw World.frozen?
  rw [Lib.bytesWorld_at_new]
  have : (Lib.bytesCells w 5 s).size = s.size + (grownCap w s.size 0 5 - s.size) := by
    unfold Lib.bytesCells; simp
  simp only [this]
  simp
  omega
theorem mark_row (w : World) (g c n : Nat) (l : List UInt8) (hn : l.length = n) (hs : n ≤ 9223372036854775807) (h : RowAt w (some ⟨g, 0, none⟩) (Lib.byteCells l)) :
    Calls Tryd.prog 20 #[.slice (some ⟨g, 0, none⟩) n c] w fun e w' => e = .returned (cv (cmark l)) ∧ w = w' := by
  subst hn; exact mark_cv _ c l w hs h
theorem xor_u8 (a x : UInt8) : bits .xor .u8 (a.toNat : Int) (x.toNat : Int) = ((a ^^^ x).toNat : Int) := by
  rw [u8_xor_nat _ _ a.toNat_lt x.toNat_lt, UInt8.toNat_xor]
/-- A byte of a row turned. -/
theorem row_set {w : World} {g : Nat} {l : List UInt8} {k : Nat} (hk : k < l.length) (y : UInt8) (h : RowAt w (some ⟨g, 0, none⟩) (Lib.byteCells l)) : RowAt (w.setCell ⟨g, k, none⟩ (.int .u8 (y.toNat : Int))) (some ⟨g, 0, none⟩) (Lib.byteCells (l.set k y)) := by
  rcases h with h | ⟨b, off, e, hb, hc⟩
  · unfold Lib.byteCells at h; simp at h; subst h; simp at hk
  · simp only [Option.some.injEq, Addr.mk.injEq, and_true] at e
    obtain ⟨rfl, rfl⟩ := e
    refine Or.inr ⟨g, 0, rfl, by simpa using hb, fun j u hu => ?_⟩
    have hj : j < (l.set k y).length := by
      obtain ⟨h, _⟩ := List.getElem?_eq_some_iff.1 hu
      simpa [Lib.byteCells] using h
    have hj' : j < l.length := by simpa using hj
    rw [cells_byte hj] at hu
    by_cases e : j = k
    · subst e
      rw [Nat.zero_add]
      rw [List.getElem_set_self] at hu
      rw [← hu]
      have hc1 := hc j _ (cells_byte hj')
      rw [Nat.zero_add] at hc1
      exact World.cell?_setCell_same _ _ _ hc1
    · rw [Nat.zero_add, World.cell?_setCell_other _ _ _ _ (by intro q; exact e (by simpa using (congrArg Addr.off q).symm))]
      rw [List.getElem_set_ne (by omega)] at hu
      have hc1 := hc j _ (cells_byte hj')
      rw [Nat.zero_add] at hc1
      rw [hc1]; exact hu
end Go.Proofs.YtdpkmcbpeloljaaDoor
