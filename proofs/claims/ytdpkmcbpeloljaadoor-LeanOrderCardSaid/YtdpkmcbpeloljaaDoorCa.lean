/- Walks of law1's Cut, reads; texts as bytes. -/
import Derived.Test.YtdpkmcbpeloljaaDoorBb
import Derived.Test.YtdpkmcbpeloljaaDoorMk
import Derived.Lib.AtoiErrMem
namespace Go.Proofs.YtdpkmcbpeloljaaDoor
open Go.RowKit

def bsl (w : World) (s : ByteArray) : Value := .slice (some ⟨w.heap.size, 0, none⟩) s.size (grownCap w s.size 0 5)
def bw (w : World) (s : ByteArray) : World := Lib.bytesWorld w 5 s
theorem run_bytes (w : World) (s : ByteArray) : (convert 9 42 (.string s)).run Tryd.prog w = .ok (bsl w s) (bw w s) :=
  Lib.run_convert_string_bytes (P := Tryd.prog) w _ _ 5 s Tryd.underlying9 Tryd.underlying42 Tryd.underlying5
theorem bw_below (w : World) (s : ByteArray) : Below w.heap.size w (bw w s) := Lib.bytesWorld_below _ _ _
theorem bw_size (w : World) (s : ByteArray) : (bw w s).heap.size = w.heap.size + 1 := Lib.bytesWorld_size _ _ _
theorem size_list (s : ByteArray) : s.size = s.data.toList.length := Lib.size_eq s
theorem bw_row (w : World) (s : ByteArray) : RowAt (bw w s) (some ⟨w.heap.size, 0, none⟩) (Lib.byteCells s.data.toList) := by
  by_cases h0 : s.size = 0
  · refine Or.inl ?_
    have : s.data.toList = [] := List.length_eq_zero_iff.1 (by rw [← size_list]; exact h0)
    rw [this]; rfl
  · refine Or.inr ⟨w.heap.size, 0, rfl, by rw [bw_size]; omega, fun j u hu => ?_⟩
    have hj : j < s.data.toList.length := by
      have := List.getElem?_eq_some_iff.1 hu
      obtain ⟨h, _⟩ := this
      simpa [Lib.byteCells] using h
    rw [cells_byte hj] at hu
    have := Lib.bytesWorld_cell w 5 s j (by rw [size_list]; exact hj)
    rw [Nat.zero_add]
    rw [← hu]
    rw [List.getD, List.getElem?_eq_getElem hj] at this
    exact this
theorem mark_bsl (w : World) (s : ByteArray) (hs : s.size ≤ 9223372036854775807) : Calls Tryd.prog 20 #[bsl w s] (bw w s) fun e w' => e = .returned (cv (cmark s.data.toList)) ∧ Below w.heap.size w w' := by
  unfold bsl
  rw [size_list]
  refine (mark_cv _ _ s.data.toList _ (by rw [← size_list]; exact hs) (bw_row w s)).mono ?_
  rintro e w' ⟨rfl, rfl⟩
  exact ⟨rfl, bw_below w s⟩
theorem on_bsl (p : ZP) (w : World) (s : ByteArray) (hs : s.size ≤ 9223372036854775807) : Calls Tryd.prog 29 #[cv p, bsl w s] (bw w s) fun e w' => e = .returned (cv (con p s.data.toList)) ∧ Below w.heap.size w w' := by
  unfold bsl
  rw [size_list]
  refine (on_cv p _ _ s.data.toList _ (by rw [← size_list]; exact hs) (bw_row w s)).mono ?_
  rintro e w' ⟨rfl, rfl⟩
  exact ⟨rfl, bw_below w s⟩
/-- A text of at most so many bytes. -/
def cutS (s : ByteArray) (n : Nat) : ByteArray := s.extract 0 (min s.size n)
theorem cutS_size (s : ByteArray) (n : Nat) : (cutS s n).size = min s.size n := by
  unfold cutS; rw [ByteArray.size_extract]; omega
theorem cutS_list (s : ByteArray) (n : Nat) : (cutS s n).data.toList = s.data.toList.take n := by
  unfold cutS
  rw [Lib.extract_data, List.drop_zero, Nat.sub_zero, size_list, Nat.min_comm, ← List.take_take, List.take_length]
set_option maxRecDepth 100000 in
theorem cut_any (s : ByteArray) (n : Nat) (w : World) (hs : s.size ≤ 9223372036854775807) (hn : n ≤ 9223372036854775807) :
    Calls Tryd.prog 8 #[.string s, .int .i64 n] w fun e w' => e = .returned (.string (cutS s n)) ∧ w = w' := by
  by_cases h : s.size ≤ n
  · have HC := Lib.hid (show cutS s n = s.extract 0 s.size by unfold cutS; rw [Nat.min_eq_left h])
    have HC2 := Lib.hid (show s.extract 0 s.size = s by rw [Lib.extract_eq, List.drop_zero, Nat.sub_zero, size_list, List.take_length, Lib.mk_data])
    have hsl : ∀ w, (Instr.slice 9 (.string s) none (some (.int .i64 (s.size : Int))) none).run Tryd.prog w = .ok (.string (s.extract 0 s.size)) w := fun w => by
      rw [run_slice_string_h w _ _ Tryd.underlying9 _ _ (by omega) (by omega)]; simp
    have hmin : min (s.size : Int) (n : Int) = (s.size : Int) := by omega
    go_enter Tryd.func8, Tryd.ntmps8
    go_wp2_with fail
    go_ret
    exact ⟨by rw [HC.out, HC2.out]; rfl, rfl⟩
  · have HC := Lib.hid (show cutS s n = s.extract 0 n by unfold cutS; rw [Nat.min_eq_right (by omega)])
    have hsl : ∀ w, (Instr.slice 9 (.string s) none (some (.int .i64 (n : Int))) none).run Tryd.prog w = .ok (.string (s.extract 0 n)) w := fun w => by
      rw [run_slice_string_h w _ _ Tryd.underlying9 _ _ (by omega) (by omega)]; simp
    have hmin : min (s.size : Int) (n : Int) = (n : Int) := by omega
    go_enter Tryd.func8, Tryd.ntmps8
    go_wp2_with fail
    go_ret
    exact ⟨by rw [HC.out]; rfl, rfl⟩
theorem run_catS {P : Program} (s t : ByteArray) (h : s.size + t.size ≤ 9223372036854775807) (w : World) : (Op.stringOp .add s t).run P w = .ok (.string ⟨(s.data.toList ++ t.data.toList).toArray⟩) w := by
  have := run_cat (P := P) s.data.toList t.data.toList (by rw [← size_list, ← size_list]; exact h) w
  rwa [Lib.mk_data, Lib.mk_data] at this
end Go.Proofs.YtdpkmcbpeloljaaDoor
