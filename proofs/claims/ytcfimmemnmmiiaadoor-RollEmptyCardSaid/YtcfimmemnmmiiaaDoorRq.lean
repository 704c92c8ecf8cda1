/- RollEmpty: the walk. -/
import Derived.Test.YtcfimmemnmmiiaaDoorN7
import Derived.Laws.BitsAllLaws
namespace Go.Proofs.YtcfimmemnmmiiaaDoor
open Go.RowKit

theorem i64_and3 (n : Int) : bits .and .i64 n 3 = n % 4 := by
  have h1 : (BitVec.ofInt 64 n &&& BitVec.ofInt 64 3).toNat = (BitVec.ofInt 64 n).toNat % 2 ^ 2 := by
    rw [BitVec.toNat_and, show (BitVec.ofInt 64 3).toNat = 2 ^ 2 - 1 by decide, Nat.and_two_pow_sub_one_eq_mod]
  have h2 := BitVec.toNat_ofInt (n := 64) (i := n)
  show IntKind.i64.wrap ((BitVec.ofInt 64 n &&& BitVec.ofInt 64 3).toNat : Nat) = _
  rw [h1, h2, IntKind.wrap_i64]
  omega
def zE : Scr := ⟨⟨#[]⟩, 0, false⟩
def zK : Scr := ⟨⟨#[]⟩, 0, true⟩
theorem em_w : writeS 10 [] (⟨#[65]⟩ : ByteArray).data.toList ⟨#[]⟩ = (0, 10, [([65], zE)]) := by kernel_rfl
theorem em_p : pressS [([65], zE)] (⟨#[65]⟩ : ByteArray).data.toList = (0, [([65], zK)]) := by kernel_rfl
theorem em_c : cutSp 10 [([65], zE)] (⟨#[65]⟩ : ByteArray).data.toList 0 = (0, 10, [([65], zK)]) := by kernel_rfl
theorem em_ca : callS 10 [([65], zE)] (⟨#[65]⟩ : ByteArray).data.toList (⟨#[66]⟩ : ByteArray).data.toList = (0, 10, [([66], zK)]) := by kernel_rfl
theorem em_okE (n : Nm) : OkL 10 [(n, zE)] := OkL.one (by decide) (by decide) (by decide) (by decide)
theorem em_okK (n : Nm) : OkL 10 [(n, zK)] := OkL.one (by decide) (by decide) (by decide) (by decide)
theorem em_left (n : Int) (k : Bool) : leftK n ⟨⟨#[]⟩, 0, k⟩ = 0 := by
  have h2 : leftK n ⟨⟨#[]⟩, 0, k⟩ = 0 + (if 0 < n then n % (0 - 0 + 1) else 0) := rfl
  rw [h2]; split <;> simp
theorem em_tE (n : Int) (m : Nm) : tearL n [(m, zE)] = [] := by
  unfold tearL tearOne zE
  simp [em_left]
theorem em_tK (n : Int) (m : Nm) : tearL n [(m, zK)] = [(m, zK)] := by
  unfold zK
  rw [tear_kept, em_left]
  rfl
set_option maxRecDepth 100000 in
set_option maxHeartbeats 6400000 in
theorem rollEmpty_0 (how n : Int) (hh : bits .and .i64 how 3 = 0) (hn : -9223372036854775808 ≤ n ∧ n ≤ 9223372036854775807) (w : World) (L : Laid w) :
    Calls Tryd.prog 5 #[.int .i64 how, .int .i64 n] w fun e w' => e = .returned (.bool true) ∧ Below w.heap.size w w' := by
  have HL := Lib.hid L
  clear L
  go_enter Tryd.func5, Tryd.ntmps5
  go_wp2_with (go_at_call 7; refine (begun3_any _ HL.out).mono ?_; rintro e' w1 ⟨rfl, hb⟩; have HB1 := Lib.hid hb; clear hb)
  refine (new_S (w0 := w) HB1.out 10 10 (by decide)).mono ?_
  rintro e w2 ⟨g, bb, rfl, hs, -, -, -⟩
  have HS := Lib.hid hs
  clear hs
  go_wp2_with fail
  refine (write_S HS.out (by simp) (OkL.nil (by decide) (by decide)) ⟨#[65]⟩ ⟨#[]⟩ (by decide) em_w).mono ?_
  rintro e w3 ⟨rfl, hs, -⟩
  replace HS := Lib.hid hs
  clear hs
  go_wp2_with fail
  refine (read_S HS.out ⟨#[65]⟩ (by decide) (s := ⟨#[]⟩) (t := true) rfl rfl).mono ?_
  rintro e v1 ⟨rfl, hb⟩
  replace HS := Lib.hid (HS.out.low hb)
  clear hb
  go_wp2_with fail
  refine (tear_S HS.out (by simp) (em_okE _) n hn rfl (em_tE n _)).mono ?_
  rintro e v2 ⟨g1, b1, rfl, hs, hb, -, -⟩
  replace HS := Lib.hid (HS.out.low hb)
  have HT := Lib.hid hs
  clear hs hb
  go_wp2_with fail
  refine (read_S HT.out ⟨#[65]⟩ (by decide) (s := ⟨#[]⟩) (t := false) rfl rfl).mono ?_
  rintro e v3 ⟨rfl, hb⟩
  replace HS := Lib.hid (HS.out.low hb)
  clear hb HT
  go_wp2_with fail
  go_ret
  exact ⟨rfl, HS.out.2.1⟩
set_option maxRecDepth 100000 in
set_option maxHeartbeats 6400000 in
theorem rollEmpty_1 (how n : Int) (hh : bits .and .i64 how 3 = 1) (hn : -9223372036854775808 ≤ n ∧ n ≤ 9223372036854775807) (w : World) (L : Laid w) :
    Calls Tryd.prog 5 #[.int .i64 how, .int .i64 n] w fun e w' => e = .returned (.bool true) ∧ Below w.heap.size w w' := by
  have HL := Lib.hid L
  clear L
  go_enter Tryd.func5, Tryd.ntmps5
  go_wp2_with (go_at_call 7; refine (begun3_any _ HL.out).mono ?_; rintro e' w1 ⟨rfl, hb⟩; have HB1 := Lib.hid hb; clear hb)
  refine (new_S (w0 := w) HB1.out 10 10 (by decide)).mono ?_
  rintro e w2 ⟨g, bb, rfl, hs, -, -, -⟩
  have HS := Lib.hid hs
  clear hs
  go_wp2_with fail
  refine (write_S HS.out (by simp) (OkL.nil (by decide) (by decide)) ⟨#[65]⟩ ⟨#[]⟩ (by decide) em_w).mono ?_
  rintro e w3 ⟨rfl, hs, -⟩
  replace HS := Lib.hid hs
  clear hs
  go_wp2_with fail
  refine (press_S HS.out (by simp) (em_okE _) ⟨#[65]⟩ (by decide) em_p).mono ?_
  rintro e w4 ⟨rfl, hs, -⟩
  replace HS := Lib.hid hs
  clear hs
  go_wp2_with fail
  refine (read_S HS.out ⟨#[65]⟩ (by decide) (s := ⟨#[]⟩) (t := true) rfl rfl).mono ?_
  rintro e v1 ⟨rfl, hb⟩
  replace HS := Lib.hid (HS.out.low hb)
  clear hb
  go_wp2_with fail
  refine (tear_S HS.out (by simp) (em_okK _) n hn rfl (em_tK n _)).mono ?_
  rintro e v2 ⟨g1, b1, rfl, hs, hb, -, -⟩
  replace HS := Lib.hid (HS.out.low hb)
  have HT := Lib.hid hs
  clear hs hb
  go_wp2_with fail
  refine (read_S HT.out ⟨#[65]⟩ (by decide) (s := ⟨#[]⟩) (t := true) rfl rfl).mono ?_
  rintro e v3 ⟨rfl, hb⟩
  replace HS := Lib.hid (HS.out.low hb)
  clear hb HT
  go_wp2_with fail
  go_ret
  exact ⟨rfl, HS.out.2.1⟩
set_option maxRecDepth 100000 in
set_option maxHeartbeats 6400000 in
theorem rollEmpty_2 (how n : Int) (hh : bits .and .i64 how 3 = 2) (hn : -9223372036854775808 ≤ n ∧ n ≤ 9223372036854775807) (w : World) (L : Laid w) :
    Calls Tryd.prog 5 #[.int .i64 how, .int .i64 n] w fun e w' => e = .returned (.bool true) ∧ Below w.heap.size w w' := by
  have HL := Lib.hid L
  clear L
  go_enter Tryd.func5, Tryd.ntmps5
  go_wp2_with (go_at_call 7; refine (begun3_any _ HL.out).mono ?_; rintro e' w1 ⟨rfl, hb⟩; have HB1 := Lib.hid hb; clear hb)
  refine (new_S (w0 := w) HB1.out 10 10 (by decide)).mono ?_
  rintro e w2 ⟨g, bb, rfl, hs, -, -, -⟩
  have HS := Lib.hid hs
  clear hs
  go_wp2_with fail
  refine (write_S HS.out (by simp) (OkL.nil (by decide) (by decide)) ⟨#[65]⟩ ⟨#[]⟩ (by decide) em_w).mono ?_
  rintro e w3 ⟨rfl, hs, -⟩
  replace HS := Lib.hid hs
  clear hs
  go_wp2_with fail
  refine (rcut_S HS.out (by simp) (em_okE _) ⟨#[65]⟩ 0 (by decide) em_c).mono ?_
  rintro e w4 ⟨rfl, hs, -⟩
  replace HS := Lib.hid hs
  clear hs
  go_wp2_with fail
  refine (read_S HS.out ⟨#[65]⟩ (by decide) (s := ⟨#[]⟩) (t := true) rfl rfl).mono ?_
  rintro e v1 ⟨rfl, hb⟩
  replace HS := Lib.hid (HS.out.low hb)
  clear hb
  go_wp2_with fail
  refine (tear_S HS.out (by simp) (em_okK _) n hn rfl (em_tK n _)).mono ?_
  rintro e v2 ⟨g1, b1, rfl, hs, hb, -, -⟩
  replace HS := Lib.hid (HS.out.low hb)
  have HT := Lib.hid hs
  clear hs hb
  go_wp2_with fail
  refine (read_S HT.out ⟨#[65]⟩ (by decide) (s := ⟨#[]⟩) (t := true) rfl rfl).mono ?_
  rintro e v3 ⟨rfl, hb⟩
  replace HS := Lib.hid (HS.out.low hb)
  clear hb HT
  go_wp2_with fail
  go_ret
  exact ⟨rfl, HS.out.2.1⟩
set_option maxRecDepth 100000 in
set_option maxHeartbeats 6400000 in
theorem rollEmpty_3 (how n : Int) (hh : bits .and .i64 how 3 = 3) (hn : -9223372036854775808 ≤ n ∧ n ≤ 9223372036854775807) (w : World) (L : Laid w) :
    Calls Tryd.prog 5 #[.int .i64 how, .int .i64 n] w fun e w' => e = .returned (.bool true) ∧ Below w.heap.size w w' := by
  have HL := Lib.hid L
  clear L
  go_enter Tryd.func5, Tryd.ntmps5
  go_wp2_with (go_at_call 7; refine (begun3_any _ HL.out).mono ?_; rintro e' w1 ⟨rfl, hb⟩; have HB1 := Lib.hid hb; clear hb)
  refine (new_S (w0 := w) HB1.out 10 10 (by decide)).mono ?_
  rintro e w2 ⟨g, bb, rfl, hs, -, -, -⟩
  have HS := Lib.hid hs
  clear hs
  go_wp2_with fail
  refine (write_S HS.out (by simp) (OkL.nil (by decide) (by decide)) ⟨#[65]⟩ ⟨#[]⟩ (by decide) em_w).mono ?_
  rintro e w3 ⟨rfl, hs, -⟩
  replace HS := Lib.hid hs
  clear hs
  go_wp2_with fail
  refine (rcall_S HS.out (by simp) (em_okE _) ⟨#[65]⟩ ⟨#[66]⟩ (by decide) (by decide) em_ca).mono ?_
  rintro e w4 ⟨rfl, hs, -⟩
  replace HS := Lib.hid hs
  clear hs
  go_wp2_with fail
  refine (read_S HS.out ⟨#[66]⟩ (by decide) (s := ⟨#[]⟩) (t := true) rfl rfl).mono ?_
  rintro e v1 ⟨rfl, hb⟩
  replace HS := Lib.hid (HS.out.low hb)
  clear hb
  go_wp2_with fail
  refine (tear_S HS.out (by simp) (em_okK _) n hn rfl (em_tK n _)).mono ?_
  rintro e v2 ⟨g1, b1, rfl, hs, hb, -, -⟩
  replace HS := Lib.hid (HS.out.low hb)
  have HT := Lib.hid hs
  clear hs hb
  go_wp2_with fail
  refine (read_S HT.out ⟨#[66]⟩ (by decide) (s := ⟨#[]⟩) (t := true) rfl rfl).mono ?_
  rintro e v3 ⟨rfl, hb⟩
  replace HS := Lib.hid (HS.out.low hb)
  clear hb HT
  go_wp2_with fail
  go_ret
  exact ⟨rfl, HS.out.2.1⟩
theorem rollEmpty_walk (how n : Int) (hn : -9223372036854775808 ≤ n ∧ n ≤ 9223372036854775807) (w : World) (L : Laid w) :
    Calls Tryd.prog 5 #[.int .i64 how, .int .i64 n] w fun e w' => e = .returned (.bool true) ∧ Below w.heap.size w w' := by
  have h := i64_and3 how
  have h4 : how % 4 = 0 ∨ how % 4 = 1 ∨ how % 4 = 2 ∨ how % 4 = 3 := by omega
  rcases h4 with e | e | e | e
  · exact rollEmpty_0 how n (h.trans e) hn w L
  · exact rollEmpty_1 how n (h.trans e) hn w L
  · exact rollEmpty_2 how n (h.trans e) hn w L
  · exact rollEmpty_3 how n (h.trans e) hn w L
end Go.Proofs.YtcfimmemnmmiiaaDoor
