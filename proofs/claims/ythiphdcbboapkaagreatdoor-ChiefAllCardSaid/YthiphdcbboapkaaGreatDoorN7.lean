/- Walk of law3's begun. More plain words on rolls, and steps. -/
import Derived.Test.YthiphdcbboapkaaGreatDoorN6
import Derived.Test.YthiphdcbboapkaaGreatDoorN1
import Derived.Test.YthiphdcbboapkaaGreatDoorN2
namespace Go.Proofs.YthiphdcbboapkaaGreatDoor
open Go.RowKit Go.Maps

def bA : ByteArray := ⟨#[65]⟩
def bB : ByteArray := ⟨#[66]⟩
def bC : ByteArray := ⟨#[67]⟩
def bxyz : ByteArray := ⟨#[120, 121, 122]⟩
def bxy : ByteArray := ⟨#[120, 121]⟩
def L1 : List Rl := [([65], ⟨⟨#[120, 121, 122]⟩, 0, false⟩)]
def L2 : List Rl := [([65], ⟨⟨#[120, 121, 122]⟩, 3, true⟩)]
def L3 : List Rl := [([65], ⟨⟨#[120, 121]⟩, 2, true⟩)]
def L4 : List Rl := [([66], ⟨⟨#[120, 121]⟩, 2, true⟩)]
theorem ok1 : OkL 47 L1 := ⟨by decide, by decide, fun x hx => by rw [List.mem_singleton.1 hx]; decide⟩
theorem ok2 : OkL 47 L2 := ⟨by decide, by decide, fun x hx => by rw [List.mem_singleton.1 hx]; decide⟩
theorem ok3 : OkL 48 L3 := ⟨by decide, by decide, fun x hx => by rw [List.mem_singleton.1 hx]; decide⟩
theorem ok4 : OkL 48 L4 := ⟨by decide, by decide, fun x hx => by rw [List.mem_singleton.1 hx]; decide⟩
theorem e_w1 : writeS 50 [] (⟨#[65]⟩ : ByteArray).data.toList ⟨#[120, 121, 122]⟩ = (0, 47, L1) := by kernel_rfl
theorem e_w2 : writeS 47 L1 (⟨#[97]⟩ : ByteArray).data.toList ⟨#[]⟩ = (1, 47, L1) := by kernel_rfl
theorem e_t1r : tearS 47 L1 2 = 48 := by kernel_rfl
theorem e_t1 : tearL 2 L1 = [([65], ⟨⟨#[120, 121]⟩, 2, true⟩)] := by kernel_rfl
theorem e_t2 : tearL 0 L1 = [] := by kernel_rfl
theorem e_p : pressS L1 (⟨#[65]⟩ : ByteArray).data.toList = (0, L2) := by kernel_rfl
theorem e_c : cutSp 47 L2 (⟨#[65]⟩ : ByteArray).data.toList 2 = (0, 48, L3) := by kernel_rfl
theorem e_ca : callS 48 L3 (⟨#[65]⟩ : ByteArray).data.toList (⟨#[66]⟩ : ByteArray).data.toList = (0, 48, L4) := by kernel_rfl
theorem e_t3 : tearL (-1) L4 = L4 := by kernel_rfl
theorem e_w3 (s : ByteArray) (h : s.size = 49) : writeS 48 L4 (⟨#[67]⟩ : ByteArray).data.toList s = (5, 48, L4) := by
  unfold writeS
  rw [if_neg (by decide +kernel), if_pos (by rw [h]; decide)]
set_option maxRecDepth 100000 in
set_option maxHeartbeats 3200000 in
theorem begun3_any (w : World) (L : Laid w) : Calls Tryz.prog 86 #[] w fun e w' => e = .returned (.bool true) ∧ Below w.heap.size w w' := by
  have HL := Lib.hid L
  have hmk := fun w : World => run_mks w 49 (by decide) 49 rfl
  have hbk := fun w : World => run_back0 w 49
  clear L
  go_enter Tryz.func86, Tryz.ntmps86
  go_wp2_with fail
  refine (new_S (w0 := w) (Below.refl _ _) 50 50 (by decide)).mono ?_
  rintro e w1 ⟨g, b, rfl, hs, -, -, -⟩
  have HS := Lib.hid hs
  clear hs
  go_wp2_with fail
  refine (write_S HS.out (by decide) (OkL.nil (by decide) (by decide)) ⟨#[65]⟩ ⟨#[120, 121, 122]⟩ (by decide) e_w1).mono ?_
  rintro e w2 ⟨rfl, hs, -⟩
  replace HS := Lib.hid hs
  clear hs
  go_wp2_with fail
  refine (write_S HS.out (by decide) ok1 ⟨#[97]⟩ ⟨#[]⟩ (by decide) e_w2).mono ?_
  rintro e w3 ⟨rfl, hs, -⟩
  replace HS := Lib.hid hs
  clear hs
  go_wp2_with fail
  refine (tear_S HS.out (by decide) ok1 (2) (by decide) e_t1r e_t1).mono ?_
  rintro e w4 ⟨g4, b4, rfl, hs, hb, -, -⟩
  replace HS := Lib.hid (HS.out.low hb)
  have HT := Lib.hid hs
  clear hs hb
  go_wp2_with fail
  refine (read_S HT.out ⟨#[65]⟩ (by decide) (s := ⟨#[120, 121]⟩) (t := true) (by kernel_rfl) (by kernel_rfl)).mono ?_
  rintro e w5 ⟨rfl, hb⟩
  replace HS := Lib.hid (HS.out.low hb)
  clear hb HT
  go_wp2_with fail
  refine (tear_S HS.out (by decide) ok1 (0) (by decide) (rfl) e_t2).mono ?_
  rintro e w6 ⟨g6, b6, rfl, hs, hb, -, -⟩
  replace HS := Lib.hid (HS.out.low hb)
  have HT := Lib.hid hs
  clear hs hb
  go_wp2_with fail
  refine (read_S HT.out ⟨#[65]⟩ (by decide) (s := ⟨#[]⟩) (t := false) (by kernel_rfl) (by kernel_rfl)).mono ?_
  rintro e w7 ⟨rfl, hb⟩
  replace HS := Lib.hid (HS.out.low hb)
  clear hb HT
  go_wp2_with fail
  refine (press_S HS.out (by decide) ok1 ⟨#[65]⟩ (by decide) e_p).mono ?_
  rintro e w8 ⟨rfl, hs, -⟩
  replace HS := Lib.hid hs
  clear hs
  go_wp2_with fail
  refine (rcut_S HS.out (by decide) ok2 ⟨#[65]⟩ 2 (by decide) e_c).mono ?_
  rintro e w9 ⟨rfl, hs, -⟩
  replace HS := Lib.hid hs
  clear hs
  go_wp2_with fail
  refine (rcall_S HS.out (by decide) ok3 ⟨#[65]⟩ ⟨#[66]⟩ (by decide) (by decide) e_ca).mono ?_
  rintro e w10 ⟨rfl, hs, -⟩
  replace HS := Lib.hid hs
  clear hs
  go_wp2_with fail
  refine (tear_S HS.out (by decide) ok4 (-1) (by decide) (rfl) e_t3).mono ?_
  rintro e w11 ⟨g11, b11, rfl, hs, hb, -, -⟩
  replace HS := Lib.hid (HS.out.low hb)
  have HT := Lib.hid hs
  clear hs hb
  go_wp2_with fail
  refine (read_S HT.out ⟨#[66]⟩ (by decide) (s := ⟨#[120, 121]⟩) (t := true) (by kernel_rfl) (by kernel_rfl)).mono ?_
  rintro e w12 ⟨rfl, hb⟩
  replace HS := Lib.hid (HS.out.low hb)
  clear hb HT
  go_wp2_with fail
  refine (Begun_any _ (HL.out.keep HS.out.2.1)).mono ?_
  rintro e w13 ⟨rfl, hb⟩
  replace HS := Lib.hid (HS.out.low hb)
  clear hb
  go_wp2_with fail
  refine (pressed_S HS.out ⟨#[66]⟩ (by decide) (p := 2) (by kernel_rfl)).mono ?_
  rintro e w14 ⟨rfl, hb⟩
  replace HS := Lib.hid (HS.out.low hb)
  clear hb
  go_wp2_with fail
  refine (room_any HS.out.1).mono ?_
  rintro e w15 ⟨rfl, hb⟩
  replace HS := Lib.hid (HS.out.low hb)
  clear hb
  go_wp2_with fail
  refine (write_S (HS.out.low (mkw_below _ _)) (by decide) ok4 ⟨#[67]⟩ (zeroB 49) (by decide) (e_w3 _ (zeroB_size 49))).mono ?_
  rintro e w19 ⟨rfl, hs, -⟩
  replace HS := Lib.hid hs
  clear hs
  go_wp2_with fail
  go_ret
  exact ⟨rfl, HS.out.2.1⟩
set_option maxRecDepth 100000 in
theorem Begun3_any (w : World) (L : Laid w) : Calls Tryz.prog 66 #[] w fun e w' => e = .returned (.bool true) ∧ Below w.heap.size w w' := by
  have HL := Lib.hid L
  clear L
  go_enter Tryz.func66, Tryz.ntmps66
  go_wp2_with (go_at_call 86; refine (begun3_any _ HL.out).mono ?_; rintro e' w1 ⟨rfl, hb⟩; have B1 := Lib.hid hb; clear hb)
  go_ret
  exact ⟨rfl, B1.out⟩
end Go.Proofs.YthiphdcbboapkaaGreatDoor
namespace Go.Proofs.YthiphdcbboapkaaGreatDoor
open Go.RowKit

/-- One text behind another one. -/
def catB (s t : ByteArray) : ByteArray := ⟨(s.data.toList ++ t.data.toList).toArray⟩
theorem catB_list (s t : ByteArray) : (catB s t).data.toList = s.data.toList ++ t.data.toList := by simp [catB]
theorem catB_size (s t : ByteArray) : (catB s t).size = s.size + t.size := by rw [size_list, catB_list, List.length_append, ← size_list, ← size_list]
theorem catB_nil (s : ByteArray) : catB ⟨#[]⟩ s = s := ba_ext (by rw [catB_list]; rfl)
theorem writeS_put {r : Int} {L : List Rl} {n : Nm} {s : ByteArray} (hg : goodN n = true) (hr : (s.size : Int) ≤ r) : writeS r L n s = (0, r - s.size, putL n ⟨catB (atL n L).s s, (atL n L).p, (atL n L).k⟩ L) := by
  unfold writeS
  rw [if_neg (by rw [hg]; simp), if_neg (by omega)]
  rfl
theorem OkL.one {r : Int} {n : Nm} {c : Scr} (h0 : 0 ≤ r) (h1 : r + c.s.size ≤ 1048576) (h2 : 0 ≤ c.p) (h3 : c.p ≤ c.s.size) : OkL r [(n, c)] :=
  ⟨h0, by simp only [sumL]; omega, fun x hx => by rw [List.mem_singleton.1 hx]; exact ⟨h2, h3⟩⟩
theorem OkL.two {r : Int} {n m : Nm} {c d : Scr} (h0 : 0 ≤ r) (h1 : r + c.s.size + d.s.size ≤ 1048576) (h2 : 0 ≤ c.p) (h3 : c.p ≤ c.s.size) (h4 : 0 ≤ d.p) (h5 : d.p ≤ d.s.size) : OkL r [(n, c), (m, d)] :=
  ⟨h0, by simp only [sumL]; omega, fun x hx => by
    simp at hx
    rcases hx with rfl | rfl
    · exact ⟨h2, h3⟩
    · exact ⟨h4, h5⟩⟩
theorem tear_kept (k : Int) (n : Nm) (s : ByteArray) (p : Int) : tearL k [(n, ⟨s, p, true⟩)] = [(n, ⟨s.extract 0 (leftK k ⟨s, p, true⟩).toNat, leftK k ⟨s, p, true⟩, true⟩)] := by
  unfold tearL tearOne
  simp
theorem tearS_one (r k : Int) (n : Nm) (s : ByteArray) (p : Int) (hp : 0 ≤ p ∧ p ≤ s.size) : tearS r [(n, ⟨s, p, true⟩)] k = r + (s.size - leftK k ⟨s, p, true⟩) := by
  unfold tearS
  rw [tear_kept]
  have hb := leftK_bd (k := k) (c := ⟨s, p, true⟩) hp
  simp only [sumL, ByteArray.size_extract]
  dsimp only at hb
  omega
end Go.Proofs.YthiphdcbboapkaaGreatDoor
