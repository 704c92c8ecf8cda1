/- RollPress: the walk. -/
import Derived.Test.YtcfimmemnmmiiaaDoorN7
namespace Go.Proofs.YtcfimmemnmmiiaaDoor
open Go.RowKit

theorem cut_h (s A : ByteArray) (n : Nat) (m : Int) (w : World) (hA : Hid (cutS s n = A)) (hs : s.size ≤ 9223372036854775807) (hn : n ≤ 9223372036854775807) (hm : m = (n : Int)) :
    Calls Tryd.prog 8 #[.string s, .int .i64 m] w fun e w' => e = .returned (.string A) ∧ w = w' := by
  rw [← hA.out, hm]; exact cut_any s n w hs hn
theorem pr_w1 (a : ByteArray) (h : a.size ≤ 40) : writeS 1000 [] (⟨#[82]⟩ : ByteArray).data.toList a = (0, 1000 - (a.size : Int), [([82], ⟨a, 0, false⟩)]) := by
  rw [writeS_put (by decide +kernel) (by omega)]
  show (0, 1000 - (a.size : Int), [([82], (⟨catB ⟨#[]⟩ a, 0, false⟩ : Scr))]) = _
  rw [catB_nil]
theorem pr_p1 (a : ByteArray) : pressS [([82], ⟨a, 0, false⟩)] (⟨#[82]⟩ : ByteArray).data.toList = (0, [([82], ⟨a, a.size, true⟩)]) := by kernel_rfl
theorem pr_w2 (r p : Int) (a b : ByteArray) (h : (b.size : Int) ≤ r) : writeS r [([82], ⟨a, p, true⟩)] (⟨#[82]⟩ : ByteArray).data.toList b = (0, r - (b.size : Int), [([82], ⟨catB a b, p, true⟩)]) := by
  rw [writeS_put (by decide +kernel) h]
  rfl
theorem pr_c (r p : Int) (a : ByteArray) (k : Nat) (hk : k ≤ a.size) : cutSp r [([82], ⟨a, p, true⟩)] (⟨#[82]⟩ : ByteArray).data.toList k = (0, r + ((a.size : Int) - k), [([82], ⟨a.extract 0 k, min p k, true⟩)]) := by
  unfold cutSp
  have e : lookL (⟨#[82]⟩ : ByteArray).data.toList [([82], (⟨a, p, true⟩ : Scr))] = some ⟨a, p, true⟩ := rfl
  rw [e]
  dsimp only
  rw [if_neg (by omega), Int.toNat_natCast]
  rfl
set_option maxRecDepth 100000 in
set_option maxHeartbeats 6400000 in
theorem rollPress_walk (a b d : ByteArray) (cut n : Int) (ha : a.size ≤ 9223372036854775807) (hb : b.size ≤ 9223372036854775807) (hd : d.size ≤ 9223372036854775807) (hn : -9223372036854775808 ≤ n ∧ n ≤ 9223372036854775807) (w : World) (L : Laid w) :
    Calls Tryd.prog 3 #[.string a, .string b, .string d, .int .i64 cut, .int .i64 n] w fun e w' => e = .returned (.bool true) ∧ Below w.heap.size w w' := by
  obtain ⟨A, hA⟩ : ∃ A, Hid (cutS a 40 = A) := ⟨_, Lib.hid rfl⟩
  obtain ⟨B, hB⟩ : ∃ B, Hid (cutS b 40 = B) := ⟨_, Lib.hid rfl⟩
  obtain ⟨D, hD⟩ : ∃ D, Hid (cutS d 40 = D) := ⟨_, Lib.hid rfl⟩
  have sA : A.size ≤ 40 := by rw [← hA.out, cutS_size]; omega
  have sB : B.size ≤ 40 := by rw [← hB.out, cutS_size]; omega
  have sD : D.size ≤ 40 := by rw [← hD.out, cutS_size]; omega
  have HL := Lib.hid L
  obtain ⟨kk, hkB, hkk⟩ : ∃ kk : Nat, kk ≤ A.size + B.size ∧ (if 0 ≤ cut then cut % ((A.size : Int) + (B.size : Int) + 1) else 0) = (kk : Int) := by
    split
    · have e1 := Int.emod_nonneg cut (b := (A.size : Int) + (B.size : Int) + 1) (by omega)
      have e2 := Int.emod_lt_of_pos cut (b := (A.size : Int) + (B.size : Int) + 1) (by omega)
      exact ⟨(cut % ((A.size : Int) + (B.size : Int) + 1)).toNat, by omega, by omega⟩
    · exact ⟨0, by omega, rfl⟩
  have HK := Lib.hid hkk
  clear L hkk
  go_enter Tryd.func3, Tryd.ntmps3
  go_wp2_with (first | (go_at_call 7; refine (begun3_any _ HL.out).mono ?_; rintro e' w1 ⟨rfl, hb⟩; have HB1 := Lib.hid hb; clear hb) | (go_at_call 8; (first | ((with_reducible refine (cut_h a A 40 40 _ hA ha (by decide) rfl).mono ?_)) | ((with_reducible refine (cut_h b B 40 40 _ hB hb (by decide) rfl).mono ?_)) | ((with_reducible refine (cut_h d D 40 40 _ hD hd (by decide) rfl).mono ?_))); rintro e' w' ⟨rfl, rfl⟩))
  refine (new_S (w0 := w) HB1.out 1000 1000 (by decide)).mono ?_
  rintro e w2 ⟨g, bb, rfl, hs, -, -, -⟩
  have HS := Lib.hid hs
  clear hs
  go_wp2_with fail
  refine (write_S HS.out (by simp) (OkL.nil (by decide) (by decide)) ⟨#[82]⟩ A (by decide) (pr_w1 A sA)).mono ?_
  rintro e w3 ⟨rfl, hs, -⟩
  replace HS := Lib.hid hs
  clear hs
  go_wp2_with fail
  refine (press_S HS.out (by simp) (OkL.one (by omega) (by dsimp only; omega) (by simp) (by simp)) ⟨#[82]⟩ (by decide) (pr_p1 A)).mono ?_
  rintro e w4 ⟨rfl, hs, -⟩
  replace HS := Lib.hid hs
  clear hs
  go_wp2_with fail
  refine (write_S HS.out (by simp) (OkL.one (by omega) (by dsimp only; omega) (by simp) (by simp)) ⟨#[82]⟩ B (by decide) (pr_w2 _ _ A B (by omega))).mono ?_
  rintro e w5 ⟨rfl, hs, -⟩
  obtain ⟨AB, hAB⟩ : ∃ AB, catB A B = AB := ⟨_, rfl⟩
  have sAB : AB.size = A.size + B.size := by rw [← hAB, catB_size]
  rw [hAB] at hs
  replace HS := Lib.hid hs
  clear hs
  go_upto_if 38 with fail
  go_cut [13] (fun v wx => v = .int .i64 (kk : Int) ∧ wx = w5)
  case first =>
    by_cases hc : 0 ≤ cut
    · have q1 : decide (0 ≤ cut) = true := decide_eq_true hc
      have hq : cut % ((A.size : Int) + (B.size : Int) + 1) = (kk : Int) := by have := HK.out; rwa [if_pos hc] at this
      have hq' : cut.tmod ((A.size : Int) + (B.size : Int) + 1) = (kk : Int) := by rw [Int.tmod_eq_emod_of_nonneg hc]; exact hq
      go_wp2_with fail
      go_meet
      exact ⟨rfl, rfl⟩
    · have q1 : decide (0 ≤ cut) = false := decide_eq_false hc
      have hq : (kk : Int) = 0 := by have := HK.out; rw [if_neg hc] at this; exact this.symm
      have HQ := Lib.hid hq
      clear hq
      go_wp2_with fail
      go_meet
      exact ⟨by rw [HQ.out], rfl⟩
  case rest =>
    obtain ⟨rfl, rfl⟩ := hcut
    go_wp2_with fail
    refine (rcut_S HS.out (by simp) (OkL.one (by omega) (by dsimp only; omega) (by simp) (by dsimp only; omega)) ⟨#[82]⟩ (kk : Int) (by decide) (pr_c _ _ AB kk (by omega))).mono ?_
    rintro e w6 ⟨rfl, hs, -⟩
    obtain ⟨P, hP⟩ : ∃ P, AB.extract 0 kk = P := ⟨_, rfl⟩
    have sP : P.size = kk := by rw [← hP, ByteArray.size_extract]; omega
    obtain ⟨i, hi⟩ : ∃ i, min A.size kk = i := ⟨_, rfl⟩
    have hin : min (A.size : Int) (kk : Int) = (i : Int) := by omega
    have hi1 : i ≤ kk := by omega
    have e1 : (1000 : Int) - (A.size : Int) - (B.size : Int) + ((AB.size : Int) - kk) = 1000 - (kk : Int) := by omega
    rw [hP, hin, e1] at hs
    replace HS := Lib.hid hs
    have hab : ∀ w, (Op.stringOp .add A B).run Tryd.prog w = .ok (.string AB) w := fun w => by rw [run_catS A B (by omega), ← hAB]; rfl
    have hsl1 : ∀ w, (Instr.slice 9 (.string AB) none (some (.int .i64 (kk : Int))) none).run Tryd.prog w = .ok (.string P) w := fun w => by rw [← hP]; exact run_cutS AB kk (by omega) (by omega) w
    obtain ⟨AL, hAL⟩ : ∃ AL, catB P D = AL := ⟨_, rfl⟩
    have sAL : AL.size = kk + D.size := by rw [← hAL, catB_size, sP]
    have hpd : ∀ w, (Op.stringOp .add P D).run Tryd.prog w = .ok (.string AL) w := fun w => by rw [run_catS P D (by omega), ← hAL]; rfl
    have HW := Lib.hid (pr_w2 (1000 - (kk : Int)) (i : Int) P D (by omega))
    rw [hAL] at HW
    clear hs e1 hi hP hAL
    go_wp2_with fail
    refine (write_S HS.out (by simp) (OkL.one (by omega) (by dsimp only; omega) (by simp) (by dsimp only; omega)) ⟨#[82]⟩ D (by decide) HW.out).mono ?_
    rintro e w7 ⟨rfl, hs, -⟩
    replace HS := Lib.hid hs
    clear hs
    obtain ⟨mm, hmB, hmm⟩ : ∃ mm : Nat, i + mm ≤ AL.size ∧ (if 0 ≤ n then n % ((AL.size : Int) - (i : Int) + 1) else 0) = (mm : Int) := by
      split
      · have e1 := Int.emod_nonneg n (b := (AL.size : Int) - (i : Int) + 1) (by omega)
        have e2 := Int.emod_lt_of_pos n (b := (AL.size : Int) - (i : Int) + 1) (by omega)
        exact ⟨(n % ((AL.size : Int) - (i : Int) + 1)).toNat, by omega, by omega⟩
      · exact ⟨0, by omega, rfl⟩
    have hlk : leftK n ⟨AL, (i : Int), true⟩ = ((i + mm : Nat) : Int) := by
      have h2 : leftK n ⟨AL, (i : Int), true⟩ = (i : Int) + (if 0 < n then n % ((AL.size : Int) - (i : Int) + 1) else 0) := rfl
      rw [h2]
      by_cases h0 : 0 < n
      · rw [if_pos (by omega)] at hmm
        rw [if_pos h0, hmm]; omega
      · rw [if_neg h0]
        by_cases h1 : 0 ≤ n
        · obtain rfl : n = 0 := by omega
          rw [if_pos h1] at hmm
          simp at hmm
          omega
        · rw [if_neg h1] at hmm; omega
    obtain ⟨S, hS⟩ : ∃ S, AL.extract 0 (i + mm) = S := ⟨_, rfl⟩
    have HTL : Hid (tearL n [([82], ⟨AL, (i : Int), true⟩)] = [([82], ⟨S, ((i + mm : Nat) : Int), true⟩)]) := Lib.hid (by rw [tear_kept, hlk, Int.toNat_natCast, hS])
    have hsl2 : ∀ w, (Instr.slice 9 (.string AL) none (some (.int .i64 ((i : Int) + (mm : Int)))) none).run Tryd.prog w = .ok (.string S) w := fun w => by
      have := run_cutS AL (i + mm) hmB (by omega) w
      rw [Int.natCast_add] at this
      rw [← hS]; exact this
    have eS : (S.toList == S.toList) = true := by rw [str_eqL]; simp
    have HM := Lib.hid hmm
    clear hS hlk hmm
    go_wp2_with fail
    refine (tear_S HS.out (by simp) (OkL.one (by omega) (by dsimp only; omega) (by simp) (by dsimp only; omega)) n hn rfl HTL.out).mono ?_
    rintro e v1 ⟨g1, b1, rfl, hs, hb, -, -⟩
    replace HS := Lib.hid (HS.out.low hb)
    have HT := Lib.hid hs
    clear hs hb
    go_wp2_with fail
    refine (read_S HT.out ⟨#[82]⟩ (by decide) (s := S) (t := true) rfl rfl).mono ?_
    rintro e v2 ⟨rfl, hb⟩
    replace HS := Lib.hid (HS.out.low hb)
    clear hb HT
    go_upto_if 76 with fail
    go_cut [18] (fun v wx => v = .int .i64 (mm : Int) ∧ wx = v2)
    case first =>
      by_cases hc : 0 ≤ n
      · have q1 : decide (0 ≤ n) = true := decide_eq_true hc
        have hq : n % ((AL.size : Int) - (i : Int) + 1) = (mm : Int) := by have := HM.out; rwa [if_pos hc] at this
        have eAL : (AL.size : Int) = (kk : Int) + (D.size : Int) := by omega
        rw [eAL] at hq
        have hq' : n.tmod ((kk : Int) + (D.size : Int) - (i : Int) + 1) = (mm : Int) := by rw [Int.tmod_eq_emod_of_nonneg hc]; exact hq
        clear eAL
        go_wp2_with fail
        go_meet
        exact ⟨rfl, rfl⟩
      · have q1 : decide (0 ≤ n) = false := decide_eq_false hc
        have hq : (mm : Int) = 0 := by have := HM.out; rw [if_neg hc] at this; exact this.symm
        have HQ := Lib.hid hq
        clear hq
        go_wp2_with fail
        go_meet
        exact ⟨by rw [HQ.out], rfl⟩
    case rest =>
      obtain ⟨rfl, rfl⟩ := hcut
      go_wp2_with fail
      refine (pressed_S HS.out ⟨#[82]⟩ (by decide) (p := (i : Int)) rfl).mono ?_
      rintro e v3 ⟨rfl, hb⟩
      replace HS := Lib.hid (HS.out.low hb)
      clear hb
      go_wp2_with fail
      go_ret
      exact ⟨rfl, HS.out.2.1⟩
end Go.Proofs.YtcfimmemnmmiiaaDoor
