/- MarkAll: the walk. -/
import Derived.Test.YtchfphhelafbbaaDoorBg
import Derived.Test.YtchfphhelafbbaaDoorCb
namespace Go.Proofs.YtchfphhelafbbaaDoor
open Go.RowKit

theorem cut_p (s A : ByteArray) (n : Nat) (m : Int) (w : World) (hA : Hid (cutS s n = A)) (hs : s.size ≤ 9223372036854775807) (hn : n ≤ 9223372036854775807) (hm : m = (n : Int)) :
    Calls Tryd.prog 26 #[.string s, .int .i64 m] w fun e w' => e = .returned (.string A) ∧ w = w' := by
  rw [← hA.out, hm]; exact cut_any s n w hs hn
set_option maxRecDepth 100000 in
set_option maxHeartbeats 6400000 in
theorem markAll_walk (a b : ByteArray) (ha : a.size ≤ 9223372036854775807) (hb : b.size ≤ 9223372036854775807) (w : World) (L : Laid w) : Calls Tryd.prog 5 #[.string a, .string b] w fun e w' => e = .returned (.bool true) ∧ Below w.heap.size w w' := by
  obtain ⟨A, hA⟩ : ∃ A, Hid (cutS a 100 = A) := ⟨_, Lib.hid rfl⟩
  obtain ⟨B, hB⟩ : ∃ B, Hid (cutS b 100 = B) := ⟨_, Lib.hid rfl⟩
  have sA : A.size ≤ 100 := by rw [← hA.out, cutS_size]; omega
  have sB : B.size ≤ 100 := by rw [← hB.out, cutS_size]; omega
  obtain ⟨C, hC⟩ : ∃ C : ByteArray, (⟨(A.data.toList ++ B.data.toList).toArray⟩ : ByteArray) = C := ⟨_, rfl⟩
  have hcat : ∀ w, (Op.stringOp .add A B).run Tryd.prog w = .ok (.string C) w := fun w => by rw [run_catS A B (by omega), hC]
  have hCl : C.data.toList = A.data.toList ++ B.data.toList := by rw [← hC]
  have sC : C.size ≤ 200 := by rw [size_list, hCl, List.length_append, ← size_list, ← size_list]; omega
  have e1 : eqZ (cmark C.data.toList) (cmark C.data.toList) = true := eqZ_of rfl
  have e2 : eqZ (con (cmark A.data.toList) B.data.toList) (cmark C.data.toList) = true := eqZ_of (by rw [hCl]; unfold cmark; rw [con_append])
  have HL := Lib.hid L
  have HB : Hid (Below w.heap.size w w) := Lib.hid (Below.refl _ _)
  have hg := eqGuard_cv
  have hE := fun (p q : ZP) w => run_eq_cv 23 p q w
  have hNE := fun (p q : ZP) w => run_ne_cv 23 p q w
  have kc := run_bytes
  clear hC hCl L
  go_enter Tryd.func5, Tryd.ntmps5
  go_wp2_with (first | (go_at_call 19; refine (begun_any _ HL.out).mono ?_; rintro e' w1 ⟨rfl, hb⟩; have HB := Lib.hid (below_on HB.out hb); clear hb) | (go_at_call 26; (first | ((with_reducible refine (cut_p a A 100 100 _ hA ha (by decide) rfl).mono ?_)) | ((with_reducible refine (cut_p b B 100 100 _ hB hb (by decide) rfl).mono ?_))); rintro e' w' ⟨rfl, rfl⟩) | (go_at_call 27; refine (mark_bsl _ _ (by omega)).mono ?_; rintro e' w1 ⟨rfl, hb⟩; have HB := Lib.hid (below_on HB.out hb); clear hb) | (go_at_call 28; refine (rmark _ _ (by omega)).mono ?_; rintro e' w1 ⟨rfl, hb⟩; have HB := Lib.hid (below_on HB.out hb); clear hb) | (go_at_call 22; refine (z_norm _ _).mono ?_; rintro e' w1 ⟨rfl, hb⟩; have HB := Lib.hid (below_on HB.out hb); clear hb) | (go_at_call 29; refine (on_bsl _ _ _ (by omega)).mono ?_; rintro e' w1 ⟨rfl, hb⟩; have HB := Lib.hid (below_on HB.out hb); clear hb))
  go_ret
  exact ⟨rfl, HB.out⟩
end Go.Proofs.YtchfphhelafbbaaDoor
