/- RollCall: the walk. -/
import Derived.Test.YtcfimmemnmmiiaaGreatDoorN8
namespace Go.Proofs.YtcfimmemnmmiiaaGreatDoor
open Go.RowKit

theorem cut_h (s A : ByteArray) (n : Nat) (m : Int) (w : World) (hA : Hid (cutS s n = A)) (hs : s.size ≤ 9223372036854775807) (hn : n ≤ 9223372036854775807) (hm : m = (n : Int)) :
    Calls Tryz.prog 21 #[.string s, .int .i64 m] w fun e w' => e = .returned (.string A) ∧ w = w' := by
  rw [← hA.out, hm]; exact cut_any s n w hs hn
/-- What the call of a name comes to, all being there. -/
theorem call_put {r : Int} {L : List Rl} {n m : Nm} {c : Scr} (hg : goodN m = true) (hl : lookL n L = some c) (hne : n ≠ m) : callS r L n m = (0, r + lenL m L, putL m ⟨c.s, c.p, true⟩ (delL n L)) := by
  unfold callS
  rw [if_neg (by rw [hg]; simp), hl]
  simp [hne]
theorem call_same {r : Int} {L : List Rl} {n : Nm} {c : Scr} (hg : goodN n = true) (hl : lookL n L = some c) : callS r L n n = (0, r, L) := by
  unfold callS
  rw [if_neg (by rw [hg]; simp), hl]
  simp
theorem call_none {r : Int} {L : List Rl} {n m : Nm} (hg : goodN m = true) (hl : lookL n L = none) : callS r L n m = (6, r, L) := by
  unfold callS
  rw [if_neg (by rw [hg]; simp), hl]
theorem call_bad {r : Int} {L : List Rl} {n m : Nm} (hg : goodN m = false) : callS r L n m = (1, r, L) := by
  unfold callS
  rw [if_pos hg]
theorem press_put {L : List Rl} {n : Nm} {c : Scr} (hl : lookL n L = some c) : pressS L n = (0, putL n ⟨c.s, c.s.size, true⟩ L) := by
  unfold pressS; rw [hl]
theorem cl_w1 (a : ByteArray) (h : a.size ≤ 40) : writeS 1000 [] (⟨#[79, 76, 68]⟩ : ByteArray).data.toList a = (0, 1000 - (a.size : Int), [([79, 76, 68], ⟨a, 0, false⟩)]) := by
  rw [writeS_put (by decide +kernel) (by omega)]
  show (0, 1000 - (a.size : Int), [([79, 76, 68], (⟨catB ⟨#[]⟩ a, 0, false⟩ : Scr))]) = _
  rw [catB_nil]
theorem cl_p1 (a : ByteArray) : pressS [([79, 76, 68], ⟨a, 0, false⟩)] (⟨#[79, 76, 68]⟩ : ByteArray).data.toList = (0, [([79, 76, 68], ⟨a, a.size, true⟩)]) := by kernel_rfl
theorem cl_w2 (a b : ByteArray) (ha : a.size ≤ 40) (h : b.size ≤ 40) : writeS (1000 - (a.size : Int)) [([79, 76, 68], ⟨a, a.size, true⟩)] (⟨#[78, 69, 87]⟩ : ByteArray).data.toList b = (0, 1000 - (a.size : Int) - (b.size : Int), [([78, 69, 87], ⟨b, 0, false⟩), ([79, 76, 68], ⟨a, a.size, true⟩)]) := by
  rw [writeS_put (by decide +kernel) (by omega)]
  show (0, 1000 - (a.size : Int) - (b.size : Int), [([78, 69, 87], (⟨catB ⟨#[]⟩ b, 0, false⟩ : Scr)), ([79, 76, 68], ⟨a, a.size, true⟩)]) = _
  rw [catB_nil]
theorem cl_p2 (a b : ByteArray) : pressS [([78, 69, 87], ⟨b, 0, false⟩), ([79, 76, 68], ⟨a, a.size, true⟩)] (⟨#[78, 69, 87]⟩ : ByteArray).data.toList = (0, [([78, 69, 87], ⟨b, b.size, true⟩), ([79, 76, 68], ⟨a, a.size, true⟩)]) := by kernel_rfl
theorem cl_c1 (a b : ByteArray) (p : Int) (k : Bool) : callS (1000 - (a.size : Int) - (b.size : Int)) [([78, 69, 87], ⟨b, p, k⟩), ([79, 76, 68], ⟨a, a.size, true⟩)] (⟨#[78, 69, 87]⟩ : ByteArray).data.toList (⟨#[79, 76, 68]⟩ : ByteArray).data.toList = (0, 1000 - (b.size : Int), [([79, 76, 68], ⟨b, p, true⟩)]) := by
  rw [call_put (c := ⟨b, p, k⟩) (by decide +kernel) rfl (by decide)]
  have e : lenL (⟨#[79, 76, 68]⟩ : ByteArray).data.toList [([78, 69, 87], ⟨b, p, k⟩), ([79, 76, 68], ⟨a, a.size, true⟩)] = (a.size : Int) := rfl
  rw [e]
  have e2 : (1000 : Int) - (a.size : Int) - (b.size : Int) + (a.size : Int) = 1000 - (b.size : Int) := by omega
  rw [e2]
  rfl
theorem cl_c2 (b : ByteArray) (r p : Int) : callS r [([79, 76, 68], ⟨b, p, true⟩)] (⟨#[78, 69, 87]⟩ : ByteArray).data.toList (⟨#[88]⟩ : ByteArray).data.toList = (6, r, [([79, 76, 68], ⟨b, p, true⟩)]) := call_none (by decide +kernel) rfl
theorem cl_c3 (b : ByteArray) (r p : Int) : callS r [([79, 76, 68], ⟨b, p, true⟩)] (⟨#[79, 76, 68]⟩ : ByteArray).data.toList (⟨#[120]⟩ : ByteArray).data.toList = (1, r, [([79, 76, 68], ⟨b, p, true⟩)]) := call_bad (by decide +kernel)
theorem cl_c4 (b : ByteArray) (r p : Int) : callS r [([79, 76, 68], ⟨b, p, true⟩)] (⟨#[79, 76, 68]⟩ : ByteArray).data.toList (⟨#[79, 76, 68]⟩ : ByteArray).data.toList = (0, r, [([79, 76, 68], ⟨b, p, true⟩)]) := call_same (c := ⟨b, p, true⟩) (by decide +kernel) rfl
theorem take_all (s : ByteArray) : s.extract 0 s.size = s := by rw [Lib.extract_eq, List.drop_zero, Nat.sub_zero, size_list, List.take_length, Lib.mk_data]
set_option maxRecDepth 100000 in
set_option maxHeartbeats 6400000 in
theorem rollCall_press (a b : ByteArray) (n : Int) (ha : a.size ≤ 9223372036854775807) (hb : b.size ≤ 9223372036854775807) (hn : -9223372036854775808 ≤ n ∧ n ≤ 9223372036854775807)  (w : World) (L : Laid w) :
    Calls Tryz.prog 5 #[.string a, .string b, .bool true, .int .i64 n] w fun e w' => e = .returned (.bool true) ∧ Below w.heap.size w w' := by
  obtain ⟨A, hA⟩ : ∃ A, Hid (cutS a 40 = A) := ⟨_, Lib.hid rfl⟩
  obtain ⟨B, hB⟩ : ∃ B, Hid (cutS b 40 = B) := ⟨_, Lib.hid rfl⟩
  have sA : A.size ≤ 40 := by rw [← hA.out, cutS_size]; omega
  have sB : B.size ≤ 40 := by rw [← hB.out, cutS_size]; omega
  obtain ⟨kk, hkk⟩ : ∃ kk, B.size = kk := ⟨_, rfl⟩
  have hkB : kk ≤ B.size := by omega
  have hkL : Hid (leftK n ⟨B, (B.size : Int), true⟩ = (kk : Int)) := Lib.hid (by
    have := leftK_bd (k := n) (c := ⟨B, (B.size : Int), true⟩) ⟨by simp, by simp⟩
    have h2 : leftK n ⟨B, (B.size : Int), true⟩ = (B.size : Int) + (if 0 < n then n % ((B.size : Int) - (B.size : Int) + 1) else 0) := rfl
    rw [h2, ← hkk]
    split
    · have : (B.size : Int) - (B.size : Int) + 1 = 1 := by omega
      rw [this, Int.emod_one]; omega
    · omega)
  subst hkk
  obtain ⟨S, hS⟩ : ∃ S, B.extract 0 B.size = S := ⟨_, rfl⟩
  have hsl : ∀ w, (Instr.slice 9 (.string B) none (some (.int .i64 (B.size : Int))) none).run Tryz.prog w = .ok (.string S) w := fun w => by rw [← hS]; exact run_cutS B B.size (by omega) (by omega) w
  have HTL : Hid (tearL n [([79, 76, 68], ⟨B, (B.size : Int), true⟩)] = [([79, 76, 68], ⟨S, (B.size : Int), true⟩)]) := Lib.hid (by rw [tear_kept, hkL.out]; first | rw [Int.toNat_natCast, hS] | (rw [Int.toNat_zero, hS]))
  have eS : (S.toList == S.toList) = true := by rw [str_eqL]; simp
  have HL := Lib.hid L
  have HB0 : Hid (Below w.heap.size w w) := Lib.hid (Below.refl _ _)
  clear hS L hkL
  go_enter Tryz.func5, Tryz.ntmps5
  go_wp2_with (first | (go_at_call 14; refine (begun3_any _ HL.out).mono ?_; rintro e' w1 ⟨rfl, hb⟩; have HB1 := Lib.hid hb; clear hb) | (go_at_call 21; (first | ((with_reducible refine (cut_h a A 40 40 _ hA ha (by decide) rfl).mono ?_)) | ((with_reducible refine (cut_h b B 40 40 _ hB hb (by decide) rfl).mono ?_))); rintro e' w' ⟨rfl, rfl⟩))
  refine (new_S (w0 := w) HB1.out 1000 1000 (by decide)).mono ?_
  rintro e w2 ⟨g, bb, rfl, hs, -, -, -⟩
  have HS := Lib.hid hs
  clear hs
  go_wp2_with fail
  refine (write_S HS.out (by simp) (OkL.nil (by decide) (by decide)) (⟨#[79, 76, 68]⟩ : ByteArray) A (by decide) (cl_w1 A sA)).mono ?_
  rintro e w3 ⟨rfl, hs, -⟩
  replace HS := Lib.hid hs
  clear hs
  go_wp2_with fail
  refine (press_S HS.out (by simp) (OkL.one (by omega) (by dsimp only; omega) (by simp) (by simp)) (⟨#[79, 76, 68]⟩ : ByteArray) (by decide) (cl_p1 A)).mono ?_
  rintro e w4 ⟨rfl, hs, -⟩
  replace HS := Lib.hid hs
  clear hs
  go_wp2_with fail
  refine (write_S HS.out (by simp) (OkL.one (by omega) (by dsimp only; omega) (by simp) (by simp)) (⟨#[78, 69, 87]⟩ : ByteArray) B (by decide) (cl_w2 A B sA sB)).mono ?_
  rintro e w5 ⟨rfl, hs, -⟩
  replace HS := Lib.hid hs
  clear hs
  go_wp2_with fail
  refine (press_S HS.out (by simp) (OkL.two (by omega) (by dsimp only; omega) (by simp) (by simp) (by simp) (by simp)) (⟨#[78, 69, 87]⟩ : ByteArray) (by decide) (cl_p2 A B)).mono ?_
  rintro e w6 ⟨rfl, hs, -⟩
  replace HS := Lib.hid hs
  clear hs
  go_wp2_with fail
  refine (rcall_S HS.out (by simp) (OkL.two (by omega) (by dsimp only; omega) (by simp) (by simp) (by simp) (by simp)) (⟨#[78, 69, 87]⟩ : ByteArray) (⟨#[79, 76, 68]⟩ : ByteArray) (by decide) (by decide) (cl_c1 A B (B.size : Int) true)).mono ?_
  rintro e w7 ⟨rfl, hs, -⟩
  replace HS := Lib.hid hs
  clear hs
  go_wp2_with fail
  refine (rcall_S HS.out (by simp) (OkL.one (by omega) (by dsimp only; omega) (by simp) (by simp)) (⟨#[78, 69, 87]⟩ : ByteArray) (⟨#[88]⟩ : ByteArray) (by decide) (by decide) (cl_c2 B _ (B.size : Int))).mono ?_
  rintro e w8 ⟨rfl, hs, -⟩
  replace HS := Lib.hid hs
  clear hs
  go_wp2_with fail
  refine (rcall_S HS.out (by simp) (OkL.one (by omega) (by dsimp only; omega) (by simp) (by simp)) (⟨#[79, 76, 68]⟩ : ByteArray) (⟨#[120]⟩ : ByteArray) (by decide) (by decide) (cl_c3 B _ (B.size : Int))).mono ?_
  rintro e w9 ⟨rfl, hs, -⟩
  replace HS := Lib.hid hs
  clear hs
  go_wp2_with fail
  refine (rcall_S HS.out (by simp) (OkL.one (by omega) (by dsimp only; omega) (by simp) (by simp)) (⟨#[79, 76, 68]⟩ : ByteArray) (⟨#[79, 76, 68]⟩ : ByteArray) (by decide) (by decide) (cl_c4 B _ (B.size : Int))).mono ?_
  rintro e w10 ⟨rfl, hs, -⟩
  replace HS := Lib.hid hs
  clear hs
  go_wp2_with fail
  refine (tear_S HS.out (by simp) (OkL.one (by omega) (by dsimp only; omega) (by simp) (by simp)) n hn rfl HTL.out).mono ?_
  rintro e v1 ⟨g1, b1, rfl, hs, hb, -, -⟩
  replace HS := Lib.hid (HS.out.low hb)
  have HT := Lib.hid hs
  clear hs hb
  go_wp2_with fail
  refine (read_S HT.out (⟨#[79, 76, 68]⟩ : ByteArray) (by decide) (s := S) (t := true) rfl rfl).mono ?_
  rintro e v2 ⟨rfl, hb⟩
  replace HS := Lib.hid (HS.out.low hb)
  clear hb HT
  go_wp2_with fail
  refine (names_S HS.out (by simp)).mono ?_
  rintro e v3 ⟨na, nc, rfl, -, hb⟩
  replace HS := Lib.hid (HS.out.low hb)
  clear hb
  go_wp2_with fail
  refine (room_any HS.out.1).mono ?_
  rintro e v4 ⟨rfl, hb⟩
  replace HS := Lib.hid (HS.out.low hb)
  clear hb
  go_wp2_with fail
  go_ret
  exact ⟨rfl, HS.out.2.1⟩
set_option maxRecDepth 100000 in
set_option maxHeartbeats 6400000 in
theorem rollCall_pos (a b : ByteArray) (n : Int) (ha : a.size ≤ 9223372036854775807) (hb : b.size ≤ 9223372036854775807) (hn : -9223372036854775808 ≤ n ∧ n ≤ 9223372036854775807) (hn0 : 0 ≤ n) (w : World) (L : Laid w) :
    Calls Tryz.prog 5 #[.string a, .string b, .bool false, .int .i64 n] w fun e w' => e = .returned (.bool true) ∧ Below w.heap.size w w' := by
  obtain ⟨A, hA⟩ : ∃ A, Hid (cutS a 40 = A) := ⟨_, Lib.hid rfl⟩
  obtain ⟨B, hB⟩ : ∃ B, Hid (cutS b 40 = B) := ⟨_, Lib.hid rfl⟩
  have sA : A.size ≤ 40 := by rw [← hA.out, cutS_size]; omega
  have sB : B.size ≤ 40 := by rw [← hB.out, cutS_size]; omega
  have d0 : decide (0 ≤ n) = true := decide_eq_true hn0
  have e1 := Int.emod_nonneg n (b := (B.size : Int) + 1) (by omega)
  have e2 := Int.emod_lt_of_pos n (b := (B.size : Int) + 1) (by omega)
  obtain ⟨kk, hkk⟩ : ∃ kk : Nat, n % ((B.size : Int) + 1) = (kk : Int) := ⟨(n % ((B.size : Int) + 1)).toNat, by omega⟩
  have hkt : n.tmod ((B.size : Int) + 1) = (kk : Int) := by rw [Int.tmod_eq_emod_of_nonneg hn0]; exact hkk
  have hkB : kk ≤ B.size := by omega
  have hkL : Hid (leftK n ⟨B, 0, true⟩ = (kk : Int)) := Lib.hid (by
    have h2 : leftK n ⟨B, 0, true⟩ = 0 + (if 0 < n then n % ((B.size : Int) - 0 + 1) else 0) := rfl
    rw [h2, ← hkk]
    split
    · rw [Int.sub_zero]; omega
    · obtain rfl : n = 0 := by omega
      simp)
  clear e1 e2
  obtain ⟨S, hS⟩ : ∃ S, B.extract 0 kk = S := ⟨_, rfl⟩
  have hsl : ∀ w, (Instr.slice 9 (.string B) none (some (.int .i64 (kk : Int))) none).run Tryz.prog w = .ok (.string S) w := fun w => by rw [← hS]; exact run_cutS B kk (by omega) (by omega) w
  have HTL : Hid (tearL n [([79, 76, 68], ⟨B, 0, true⟩)] = [([79, 76, 68], ⟨S, (kk : Int), true⟩)]) := Lib.hid (by rw [tear_kept, hkL.out]; first | rw [Int.toNat_natCast, hS] | (rw [Int.toNat_zero, hS]))
  have eS : (S.toList == S.toList) = true := by rw [str_eqL]; simp
  have HL := Lib.hid L
  have HB0 : Hid (Below w.heap.size w w) := Lib.hid (Below.refl _ _)
  clear hS L hkL
  go_enter Tryz.func5, Tryz.ntmps5
  go_wp2_with (first | (go_at_call 14; refine (begun3_any _ HL.out).mono ?_; rintro e' w1 ⟨rfl, hb⟩; have HB1 := Lib.hid hb; clear hb) | (go_at_call 21; (first | ((with_reducible refine (cut_h a A 40 40 _ hA ha (by decide) rfl).mono ?_)) | ((with_reducible refine (cut_h b B 40 40 _ hB hb (by decide) rfl).mono ?_))); rintro e' w' ⟨rfl, rfl⟩))
  refine (new_S (w0 := w) HB1.out 1000 1000 (by decide)).mono ?_
  rintro e w2 ⟨g, bb, rfl, hs, -, -, -⟩
  have HS := Lib.hid hs
  clear hs
  go_wp2_with fail
  refine (write_S HS.out (by simp) (OkL.nil (by decide) (by decide)) (⟨#[79, 76, 68]⟩ : ByteArray) A (by decide) (cl_w1 A sA)).mono ?_
  rintro e w3 ⟨rfl, hs, -⟩
  replace HS := Lib.hid hs
  clear hs
  go_wp2_with fail
  refine (press_S HS.out (by simp) (OkL.one (by omega) (by dsimp only; omega) (by simp) (by simp)) (⟨#[79, 76, 68]⟩ : ByteArray) (by decide) (cl_p1 A)).mono ?_
  rintro e w4 ⟨rfl, hs, -⟩
  replace HS := Lib.hid hs
  clear hs
  go_wp2_with fail
  refine (write_S HS.out (by simp) (OkL.one (by omega) (by dsimp only; omega) (by simp) (by simp)) (⟨#[78, 69, 87]⟩ : ByteArray) B (by decide) (cl_w2 A B sA sB)).mono ?_
  rintro e w5 ⟨rfl, hs, -⟩
  replace HS := Lib.hid hs
  clear hs
  go_wp2_with fail
  refine (rcall_S HS.out (by simp) (OkL.two (by omega) (by dsimp only; omega) (by simp) (by simp) (by simp) (by simp)) (⟨#[78, 69, 87]⟩ : ByteArray) (⟨#[79, 76, 68]⟩ : ByteArray) (by decide) (by decide) (cl_c1 A B 0 false)).mono ?_
  rintro e w6 ⟨rfl, hs, -⟩
  replace HS := Lib.hid hs
  clear hs
  go_wp2_with fail
  refine (rcall_S HS.out (by simp) (OkL.one (by omega) (by dsimp only; omega) (by simp) (by simp)) (⟨#[78, 69, 87]⟩ : ByteArray) (⟨#[88]⟩ : ByteArray) (by decide) (by decide) (cl_c2 B _ 0)).mono ?_
  rintro e w7 ⟨rfl, hs, -⟩
  replace HS := Lib.hid hs
  clear hs
  go_wp2_with fail
  refine (rcall_S HS.out (by simp) (OkL.one (by omega) (by dsimp only; omega) (by simp) (by simp)) (⟨#[79, 76, 68]⟩ : ByteArray) (⟨#[120]⟩ : ByteArray) (by decide) (by decide) (cl_c3 B _ 0)).mono ?_
  rintro e w8 ⟨rfl, hs, -⟩
  replace HS := Lib.hid hs
  clear hs
  go_wp2_with fail
  refine (rcall_S HS.out (by simp) (OkL.one (by omega) (by dsimp only; omega) (by simp) (by simp)) (⟨#[79, 76, 68]⟩ : ByteArray) (⟨#[79, 76, 68]⟩ : ByteArray) (by decide) (by decide) (cl_c4 B _ 0)).mono ?_
  rintro e w9 ⟨rfl, hs, -⟩
  replace HS := Lib.hid hs
  clear hs
  go_wp2_with fail
  refine (tear_S HS.out (by simp) (OkL.one (by omega) (by dsimp only; omega) (by simp) (by simp)) n hn rfl HTL.out).mono ?_
  rintro e v1 ⟨g1, b1, rfl, hs, hb, -, -⟩
  replace HS := Lib.hid (HS.out.low hb)
  have HT := Lib.hid hs
  clear hs hb
  go_wp2_with fail
  refine (read_S HT.out (⟨#[79, 76, 68]⟩ : ByteArray) (by decide) (s := S) (t := true) rfl rfl).mono ?_
  rintro e v2 ⟨rfl, hb⟩
  replace HS := Lib.hid (HS.out.low hb)
  clear hb HT
  go_wp2_with fail
  refine (names_S HS.out (by simp)).mono ?_
  rintro e v3 ⟨na, nc, rfl, -, hb⟩
  replace HS := Lib.hid (HS.out.low hb)
  clear hb
  go_wp2_with fail
  refine (room_any HS.out.1).mono ?_
  rintro e v4 ⟨rfl, hb⟩
  replace HS := Lib.hid (HS.out.low hb)
  clear hb
  go_wp2_with fail
  go_ret
  exact ⟨rfl, HS.out.2.1⟩
set_option maxRecDepth 100000 in
set_option maxHeartbeats 6400000 in
theorem rollCall_neg (a b : ByteArray) (n : Int) (ha : a.size ≤ 9223372036854775807) (hb : b.size ≤ 9223372036854775807) (hn : -9223372036854775808 ≤ n ∧ n ≤ 9223372036854775807) (hn0 : n < 0) (w : World) (L : Laid w) :
    Calls Tryz.prog 5 #[.string a, .string b, .bool false, .int .i64 n] w fun e w' => e = .returned (.bool true) ∧ Below w.heap.size w w' := by
  obtain ⟨A, hA⟩ : ∃ A, Hid (cutS a 40 = A) := ⟨_, Lib.hid rfl⟩
  obtain ⟨B, hB⟩ : ∃ B, Hid (cutS b 40 = B) := ⟨_, Lib.hid rfl⟩
  have sA : A.size ≤ 40 := by rw [← hA.out, cutS_size]; omega
  have sB : B.size ≤ 40 := by rw [← hB.out, cutS_size]; omega
  have d0 : decide (0 ≤ n) = false := decide_eq_false (by omega)
  obtain ⟨kk, hkk⟩ : ∃ kk : Nat, 0 = kk := ⟨_, rfl⟩
  have hkB : kk ≤ B.size := by omega
  have hkL : Hid (leftK n ⟨B, 0, true⟩ = (kk : Int)) := Lib.hid (by
    have h2 : leftK n ⟨B, 0, true⟩ = 0 + (if 0 < n then n % ((B.size : Int) - 0 + 1) else 0) := rfl
    rw [h2, if_neg (by omega), ← hkk]; rfl)
  subst hkk
  have hkL : Hid (leftK n ⟨B, 0, true⟩ = 0) := hkL
  obtain ⟨S, hS⟩ : ∃ S, B.extract 0 0 = S := ⟨_, rfl⟩
  have hsl : ∀ w, (Instr.slice 9 (.string B) none (some (.int .i64 0)) none).run Tryz.prog w = .ok (.string S) w := fun w => by rw [← hS]; exact run_cutS B 0 (by omega) (by omega) w
  have HTL : Hid (tearL n [([79, 76, 68], ⟨B, 0, true⟩)] = [([79, 76, 68], ⟨S, 0, true⟩)]) := Lib.hid (by rw [tear_kept, hkL.out]; first | rw [Int.toNat_natCast, hS] | (rw [Int.toNat_zero, hS]))
  have eS : (S.toList == S.toList) = true := by rw [str_eqL]; simp
  have HL := Lib.hid L
  have HB0 : Hid (Below w.heap.size w w) := Lib.hid (Below.refl _ _)
  clear hS L hkL
  go_enter Tryz.func5, Tryz.ntmps5
  go_wp2_with (first | (go_at_call 14; refine (begun3_any _ HL.out).mono ?_; rintro e' w1 ⟨rfl, hb⟩; have HB1 := Lib.hid hb; clear hb) | (go_at_call 21; (first | ((with_reducible refine (cut_h a A 40 40 _ hA ha (by decide) rfl).mono ?_)) | ((with_reducible refine (cut_h b B 40 40 _ hB hb (by decide) rfl).mono ?_))); rintro e' w' ⟨rfl, rfl⟩))
  refine (new_S (w0 := w) HB1.out 1000 1000 (by decide)).mono ?_
  rintro e w2 ⟨g, bb, rfl, hs, -, -, -⟩
  have HS := Lib.hid hs
  clear hs
  go_wp2_with fail
  refine (write_S HS.out (by simp) (OkL.nil (by decide) (by decide)) (⟨#[79, 76, 68]⟩ : ByteArray) A (by decide) (cl_w1 A sA)).mono ?_
  rintro e w3 ⟨rfl, hs, -⟩
  replace HS := Lib.hid hs
  clear hs
  go_wp2_with fail
  refine (press_S HS.out (by simp) (OkL.one (by omega) (by dsimp only; omega) (by simp) (by simp)) (⟨#[79, 76, 68]⟩ : ByteArray) (by decide) (cl_p1 A)).mono ?_
  rintro e w4 ⟨rfl, hs, -⟩
  replace HS := Lib.hid hs
  clear hs
  go_wp2_with fail
  refine (write_S HS.out (by simp) (OkL.one (by omega) (by dsimp only; omega) (by simp) (by simp)) (⟨#[78, 69, 87]⟩ : ByteArray) B (by decide) (cl_w2 A B sA sB)).mono ?_
  rintro e w5 ⟨rfl, hs, -⟩
  replace HS := Lib.hid hs
  clear hs
  go_wp2_with fail
  refine (rcall_S HS.out (by simp) (OkL.two (by omega) (by dsimp only; omega) (by simp) (by simp) (by simp) (by simp)) (⟨#[78, 69, 87]⟩ : ByteArray) (⟨#[79, 76, 68]⟩ : ByteArray) (by decide) (by decide) (cl_c1 A B 0 false)).mono ?_
  rintro e w6 ⟨rfl, hs, -⟩
  replace HS := Lib.hid hs
  clear hs
  go_wp2_with fail
  refine (rcall_S HS.out (by simp) (OkL.one (by omega) (by dsimp only; omega) (by simp) (by simp)) (⟨#[78, 69, 87]⟩ : ByteArray) (⟨#[88]⟩ : ByteArray) (by decide) (by decide) (cl_c2 B _ 0)).mono ?_
  rintro e w7 ⟨rfl, hs, -⟩
  replace HS := Lib.hid hs
  clear hs
  go_wp2_with fail
  refine (rcall_S HS.out (by simp) (OkL.one (by omega) (by dsimp only; omega) (by simp) (by simp)) (⟨#[79, 76, 68]⟩ : ByteArray) (⟨#[120]⟩ : ByteArray) (by decide) (by decide) (cl_c3 B _ 0)).mono ?_
  rintro e w8 ⟨rfl, hs, -⟩
  replace HS := Lib.hid hs
  clear hs
  go_wp2_with fail
  refine (rcall_S HS.out (by simp) (OkL.one (by omega) (by dsimp only; omega) (by simp) (by simp)) (⟨#[79, 76, 68]⟩ : ByteArray) (⟨#[79, 76, 68]⟩ : ByteArray) (by decide) (by decide) (cl_c4 B _ 0)).mono ?_
  rintro e w9 ⟨rfl, hs, -⟩
  replace HS := Lib.hid hs
  clear hs
  go_wp2_with fail
  refine (tear_S HS.out (by simp) (OkL.one (by omega) (by dsimp only; omega) (by simp) (by simp)) n hn rfl HTL.out).mono ?_
  rintro e v1 ⟨g1, b1, rfl, hs, hb, -, -⟩
  replace HS := Lib.hid (HS.out.low hb)
  have HT := Lib.hid hs
  clear hs hb
  go_wp2_with fail
  refine (read_S HT.out (⟨#[79, 76, 68]⟩ : ByteArray) (by decide) (s := S) (t := true) rfl rfl).mono ?_
  rintro e v2 ⟨rfl, hb⟩
  replace HS := Lib.hid (HS.out.low hb)
  clear hb HT
  go_wp2_with fail
  refine (names_S HS.out (by simp)).mono ?_
  rintro e v3 ⟨na, nc, rfl, -, hb⟩
  replace HS := Lib.hid (HS.out.low hb)
  clear hb
  go_wp2_with fail
  refine (room_any HS.out.1).mono ?_
  rintro e v4 ⟨rfl, hb⟩
  replace HS := Lib.hid (HS.out.low hb)
  clear hb
  go_wp2_with fail
  go_ret
  exact ⟨rfl, HS.out.2.1⟩
theorem rollCall_walk (a b : ByteArray) (press : Bool) (n : Int) (ha : a.size ≤ 9223372036854775807) (hb : b.size ≤ 9223372036854775807) (hn : -9223372036854775808 ≤ n ∧ n ≤ 9223372036854775807) (w : World) (L : Laid w) :
    Calls Tryz.prog 5 #[.string a, .string b, .bool press, .int .i64 n] w fun e w' => e = .returned (.bool true) ∧ Below w.heap.size w w' := by
  cases press with
  | true => exact rollCall_press a b n ha hb hn w L
  | false =>
    by_cases h : 0 ≤ n
    · exact rollCall_pos a b n ha hb hn h w L
    · exact rollCall_neg a b n ha hb hn (by omega) w L
end Go.Proofs.YtcfimmemnmmiiaaGreatDoor
