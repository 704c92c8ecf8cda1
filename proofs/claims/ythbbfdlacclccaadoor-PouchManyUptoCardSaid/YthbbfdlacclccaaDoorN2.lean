/- Walks of law1's Cut, reads; texts as bytes. Texts as bytes that are turned. -/
import Derived.Test.YthbbfdlacclccaaDoorM5
import Derived.Test.YthbbfdlacclccaaDoorM2
import Derived.Lib.AtoiErrMem
import Derived.Laws.BitsAllLaws
namespace Go.Proofs.YthbbfdlacclccaaDoor
open Go.RowKit

def bsl (w : World) (s : ByteArray) : Value := .slice (some ⟨w.heap.size, 0, none⟩) s.size (grownCap w s.size 0 5)
def bw (w : World) (s : ByteArray) : World := Lib.bytesWorld w 5 s
theorem run_bytes (w : World) (s : ByteArray) : (convert 9 39 (.string s)).run Tryd.prog w = .ok (bsl w s) (bw w s) :=
  Lib.run_convert_string_bytes (P := Tryd.prog) w _ _ 5 s Tryd.underlying9 Tryd.underlying39 Tryd.underlying5
theorem bw_below (w : World) (s : ByteArray) : Below w.heap.size w (bw w s) := Lib.bytesWorld_below _ _ _
theorem bw_size (w : World) (s : ByteArray) : (bw w s).heap.size = w.heap.size + 1 := Lib.bytesWorld_size _ _ _
theorem size_list (s : ByteArray) : s.size = s.data.toList.length := Lib.size_eq s
theorem bw_row (w : World) (s : ByteArray) : RowAt (bw w s) (some ⟨w.heap.size, 0, none⟩) (Lib.byteCells s.data.toList) := by
  by_cases h0 : s.size = 0
  · refine Or.inl ?_
    have : s.data.toList = [] := List.length_eq_zero_iff.1 (by rw [← size_list]; exact h0)
    rw [this]; rfl
  · refine Or.inr ⟨w.heap.size, 0, rfl, by rw [bw_size]; omega, fun j u hu => ?_⟩
    have hj : j < s.data.toList.length := by
      have := List.getElem?_eq_some_iff.1 hu
      obtain ⟨h, _⟩ := this
      simpa [Lib.byteCells] using h
    rw [cells_byte hj] at hu
    have := Lib.bytesWorld_cell w 5 s j (by rw [size_list]; exact hj)
    rw [Nat.zero_add]
    rw [← hu]
    rw [List.getD, List.getElem?_eq_getElem hj] at this
    exact this
theorem mark_bsl (w : World) (s : ByteArray) (hs : s.size ≤ 9223372036854775807) : Calls Tryd.prog 17 #[bsl w s] (bw w s) fun e w' => e = .returned (cv (cmark s.data.toList)) ∧ Below w.heap.size w w' := by
  unfold bsl
  rw [size_list]
  refine (mark_cv _ _ s.data.toList _ (by rw [← size_list]; exact hs) (bw_row w s)).mono ?_
  rintro e w' ⟨rfl, rfl⟩
  exact ⟨rfl, bw_below w s⟩
theorem on_bsl (p : ZP) (w : World) (s : ByteArray) (hs : s.size ≤ 9223372036854775807) : Calls Tryd.prog 26 #[cv p, bsl w s] (bw w s) fun e w' => e = .returned (cv (con p s.data.toList)) ∧ Below w.heap.size w w' := by
  unfold bsl
  rw [size_list]
  refine (on_cv p _ _ s.data.toList _ (by rw [← size_list]; exact hs) (bw_row w s)).mono ?_
  rintro e w' ⟨rfl, rfl⟩
  exact ⟨rfl, bw_below w s⟩
/-- A text of at most so many bytes. -/
def cutS (s : ByteArray) (n : Nat) : ByteArray := s.extract 0 (min s.size n)
theorem cutS_size (s : ByteArray) (n : Nat) : (cutS s n).size = min s.size n := by
  unfold cutS; rw [ByteArray.size_extract]; omega
theorem cutS_list (s : ByteArray) (n : Nat) : (cutS s n).data.toList = s.data.toList.take n := by
  unfold cutS
  rw [Lib.extract_data, List.drop_zero, Nat.sub_zero, size_list, Nat.min_comm, ← List.take_take, List.take_length]
set_option maxRecDepth 100000 in
theorem cut_any (s : ByteArray) (n : Nat) (w : World) (hs : s.size ≤ 9223372036854775807) (hn : n ≤ 9223372036854775807) :
    Calls Tryd.prog 11 #[.string s, .int .i64 n] w fun e w' => e = .returned (.string (cutS s n)) ∧ w = w' := by
  by_cases h : s.size ≤ n
  · have HC := Lib.hid (show cutS s n = s.extract 0 s.size by unfold cutS; rw [Nat.min_eq_left h])
    have HC2 := Lib.hid (show s.extract 0 s.size = s by rw [Lib.extract_eq, List.drop_zero, Nat.sub_zero, size_list, List.take_length, Lib.mk_data])
    have hsl : ∀ w, (Instr.slice 9 (.string s) none (some (.int .i64 (s.size : Int))) none).run Tryd.prog w = .ok (.string (s.extract 0 s.size)) w := fun w => by
      rw [run_slice_string_h w _ _ Tryd.underlying9 _ _ (by omega) (by omega)]; simp
    have hmin : min (s.size : Int) (n : Int) = (s.size : Int) := by omega
    go_enter Tryd.func11, Tryd.ntmps11
    go_wp2_with fail
    go_ret
    exact ⟨by rw [HC.out, HC2.out]; rfl, rfl⟩
  · have HC := Lib.hid (show cutS s n = s.extract 0 n by unfold cutS; rw [Nat.min_eq_right (by omega)])
    have hsl : ∀ w, (Instr.slice 9 (.string s) none (some (.int .i64 (n : Int))) none).run Tryd.prog w = .ok (.string (s.extract 0 n)) w := fun w => by
      rw [run_slice_string_h w _ _ Tryd.underlying9 _ _ (by omega) (by omega)]; simp
    have hmin : min (s.size : Int) (n : Int) = (n : Int) := by omega
    go_enter Tryd.func11, Tryd.ntmps11
    go_wp2_with fail
    go_ret
    exact ⟨by rw [HC.out]; rfl, rfl⟩
theorem run_catS {P : Program} (s t : ByteArray) (h : s.size + t.size ≤ 9223372036854775807) (w : World) : (Op.stringOp .add s t).run P w = .ok (.string ⟨(s.data.toList ++ t.data.toList).toArray⟩) w := by
  have := run_cat (P := P) s.data.toList t.data.toList (by rw [← size_list, ← size_list]; exact h) w
  rwa [Lib.mk_data, Lib.mk_data] at this
end Go.Proofs.YthbbfdlacclccaaDoor
namespace Go.Proofs.YthbbfdlacclccaaDoor
open Go.RowKit

theorem run_ne_cv (t : TypeId) (p q : ZP) (w : World) : (binOp .neq t (cv p) (cv q)).run Tryd.prog w = .ok (.bool (!eqZ p q)) w := by
  rw [cv_eq, cv_eq, run_neq_complex]
  have h1 := eq_fl (rs_abs p.1) (rs_abs q.1)
  have h2 := eq_fl (rs_abs p.2) (rs_abs q.2)
  unfold eqF at h1 h2
  rw [h1, h2]
  unfold eqZ norm
  congr 3
  rw [Bool.eq_iff_iff]
  simp
def gc (w : World) (s : ByteArray) : Nat := grownCap w s.size 0 5
theorem run_bytes' (w : World) (s : ByteArray) : (convert 9 39 (.string s)).run Tryd.prog w = .ok (.slice (some ⟨w.heap.size, 0, none⟩) s.size (gc w s)) (bw w s) := run_bytes w s
theorem bw_cell (w : World) (s : ByteArray) (k : Nat) (h : k < s.data.toList.length) : (bw w s).cell? ⟨w.heap.size, k, none⟩ = some (.int .u8 (s.data.toList[k].toNat : Int)) := by
  have := Lib.bytesWorld_cell w 5 s k (by rw [size_list]; exact h)
  rw [List.getD, List.getElem?_eq_getElem h] at this
  exact this
theorem bw_frozen (w : World) (s : ByteArray) (k : Nat) (h : k < s.size) : (bw w s).frozen? ⟨w.heap.size, k, none⟩ = false := by
  unfold bw World.frozen?
  rw [Lib.bytesWorld_at_new]
  have : (Lib.bytesCells w 5 s).size = s.size + (grownCap w s.size 0 5 - s.size) := by
    unfold Lib.bytesCells; simp
  simp only [this]
  simp
  omega
theorem mark_row (w : World) (g c n : Nat) (l : List UInt8) (hn : l.length = n) (hs : n ≤ 9223372036854775807) (h : RowAt w (some ⟨g, 0, none⟩) (Lib.byteCells l)) :
    Calls Tryd.prog 17 #[.slice (some ⟨g, 0, none⟩) n c] w fun e w' => e = .returned (cv (cmark l)) ∧ w = w' := by
  subst hn; exact mark_cv _ c l w hs h
theorem xor_u8 (a x : UInt8) : bits .xor .u8 (a.toNat : Int) (x.toNat : Int) = ((a ^^^ x).toNat : Int) := by
  rw [u8_xor_nat _ _ a.toNat_lt x.toNat_lt, UInt8.toNat_xor]
/-- A byte of a row turned. -/
theorem row_set {w : World} {g : Nat} {l : List UInt8} {k : Nat} (hk : k < l.length) (y : UInt8) (h : RowAt w (some ⟨g, 0, none⟩) (Lib.byteCells l)) : RowAt (w.setCell ⟨g, k, none⟩ (.int .u8 (y.toNat : Int))) (some ⟨g, 0, none⟩) (Lib.byteCells (l.set k y)) := by
  rcases h with h | ⟨b, off, e, hb, hc⟩
  · unfold Lib.byteCells at h; simp at h; subst h; simp at hk
  · simp only [Option.some.injEq, Addr.mk.injEq, and_true] at e
    obtain ⟨rfl, rfl⟩ := e
    refine Or.inr ⟨g, 0, rfl, by simpa using hb, fun j u hu => ?_⟩
    have hj : j < (l.set k y).length := by
      obtain ⟨h, _⟩ := List.getElem?_eq_some_iff.1 hu
      simpa [Lib.byteCells] using h
    have hj' : j < l.length := by simpa using hj
    rw [cells_byte hj] at hu
    by_cases e : j = k
    · subst e
      rw [Nat.zero_add]
      rw [List.getElem_set_self] at hu
      rw [← hu]
      have hc1 := hc j _ (cells_byte hj')
      rw [Nat.zero_add] at hc1
      exact World.cell?_setCell_same _ _ _ hc1
    · rw [Nat.zero_add, World.cell?_setCell_other _ _ _ _ (by intro q; exact e (by simpa using (congrArg Addr.off q).symm))]
      rw [List.getElem_set_ne (by omega)] at hu
      have hc1 := hc j _ (cells_byte hj')
      rw [Nat.zero_add] at hc1
      rw [hc1]; exact hu
end Go.Proofs.YthbbfdlacclccaaDoor
