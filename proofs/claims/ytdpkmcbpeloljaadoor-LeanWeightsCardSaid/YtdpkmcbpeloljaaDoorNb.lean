/- Walk of lean.Pick. -/
import Derived.Test.YtdpkmcbpeloljaaDoorNa
import Derived.Test.YtdpkmcbpeloljaaDoorRoA
namespace Go.Proofs.YtdpkmcbpeloljaaDoor
open Go.RowKit

/-- Is one to be asked rather than the best so far? -/
def better (l : List UInt8) (nw best n : Int) : Bool := !(n == nw) && (best == 0 || decide (wgt best l < wgt n l) || (wgt n l == wgt best l && decide (n < best)))
def pickStep (l : List UInt8) (nw best n : Int) : Int := if better l nw best n = true then n else best
/-- Who is asked. -/
def pick (l : List UInt8) (nw : Int) (zs : List Int) : Int := zs.foldl (pickStep l nw) 0
theorem pick_snoc (l : List UInt8) (nw : Int) (zs : List Int) (n : Int) : pick l nw (zs ++ [n]) = pickStep l nw (pick l nw zs) n := by unfold pick; rw [List.foldl_append]; rfl
theorem pick_take (l : List UInt8) (nw : Int) (zs : List Int) (k : Nat) (h : k < zs.length) : pick l nw (zs.take (k + 1)) = pickStep l nw (pick l nw (zs.take k)) (nthI zs k) := by
  rw [List.take_succ_eq_append_getElem h, pick_snoc]
  congr 1
  unfold nthI
  rw [List.getD, List.getElem?_eq_getElem h]; rfl
def rosW (e : Int) (a : Option Addr) (n c : Nat) (nw : Int) : Value := .agg #[.int .i64 e, .slice a n c, .int .i64 nw]
set_option maxRecDepth 100000 in
set_option maxHeartbeats 3200000 in
theorem pick_any (e : Int) (a : Option Addr) (c : Nat) (zs : List Int) (nw : Int) (s : ByteArray) (w : World) (hl : zs.length ≤ 9223372036854775807) (hz : IntsAt w a zs) (hs : s.size ≤ 9223372036854775807) :
    Calls Tryd.prog 11 #[.agg #[.int .i64 e, .slice a zs.length c, .int .i64 nw], .string s] w fun e' w' => e' = .returned (.int .i64 (pick s.data.toList nw zs)) ∧ Below w.heap.size w w' := by
  obtain ⟨l, hL⟩ : ∃ l, s.data.toList = l := ⟨_, rfl⟩
  have HWt : Hid (∀ n w, Calls Tryd.prog 14 #[.int .i64 n, .string s] w fun e w' => e = .returned (.int .i64 (wgt n l)) ∧ Below w.heap.size w w') := Lib.hid (fun n w => by rw [← hL]; exact weight_any n s w hs)
  rw [hL]
  have HZ := Lib.hid hz
  obtain ⟨y0, y1, y2, -⟩ := new3 w (.int .i64 e) (.slice a zs.length c) (.int .i64 nw) 26
  have HB : Hid (Below w.heap.size w (w.alloc (.cells #[.int .i64 e, .slice a zs.length c, .int .i64 nw] 26))) := Lib.hid (below_alloc (Below.refl _ _) _)
  clear hz hL
  go_enter Tryd.func11, Tryd.ntmps11
  go_wp2_with fail
  have Y2 := Lib.hid y2
  generalize w.alloc (.cells #[.int .i64 e, .slice a zs.length c, .int .i64 nw] 26) = V at HB Y2 ⊢
  clear y0 y1 y2
  go_loopw [5, 13] (fun b i wr => ∃ (k : Nat), k ≤ zs.length ∧ i = .int .i64 k ∧ b = .int .i64 (pick l nw (zs.take k)) ∧ Below V.heap.size V wr) (fun _ i _ => zs.length - (intOf i).toNat)
  case atStart => exact ⟨0, Nat.zero_le _, rfl, rfl, Below.refl _ _⟩
  case round =>
    obtain ⟨k, hk, rfl, rfl, hb⟩ := hrel
    have HBr := Lib.hid hb
    have x2 := cell_keep hb Y2.out
    by_cases hlt : k < zs.length
    · rcases (HZ.out.below (HB.out.trans (hb.mono HB.out.size)) (Nat.le_refl _)) with h | ⟨g, off, rfl, hg, hc⟩
      · exfalso; rw [h] at hlt; simp at hlt
      have hcell := hc k hlt
      have HT := Lib.hid (pick_take l nw zs k hlt)
      obtain ⟨b, hb0⟩ : ∃ b, pick l nw (zs.take k) = b := ⟨_, rfl⟩
      obtain ⟨n, hn⟩ : ∃ n, nthI zs k = n := ⟨_, rfl⟩
      rw [hb0, hn] at HT
      rw [hb0]
      rw [hn] at hcell
      clear hc hb hb0 hn
      by_cases q0 : n = nw
      · have e0 : (n == nw) = true := by rw [beq_iff_eq]; exact q0
        have HE := Lib.hid (show b = pick l nw (zs.take (k + 1)) by rw [HT.out]; unfold pickStep better; rw [e0]; rfl)
        clear q0
        go_wp2_with fail
        go_roundw
        case rel => exact ⟨k + 1, by omega, by go_num, by rw [HE.out], HBr.out⟩
        case measure => simp [intOf]; omega
      have e0 : (n == nw) = false := by rw [beq_eq_false_iff_ne]; exact q0
      obtain ⟨x, hx⟩ : ∃ x, wgt n l = x := ⟨_, rfl⟩
      obtain ⟨y, hy⟩ : ∃ y, wgt b l = y := ⟨_, rfl⟩
      have HN : Hid (∀ w, Calls Tryd.prog 14 #[.int .i64 n, .string s] w fun e w' => e = .returned (.int .i64 x) ∧ Below w.heap.size w w') := Lib.hid (fun w => by rw [← hx]; exact HWt.out n w)
      have HM : Hid (∀ w, Calls Tryd.prog 14 #[.int .i64 b, .string s] w fun e w' => e = .returned (.int .i64 y) ∧ Below w.heap.size w w') := Lib.hid (fun w => by rw [← hy]; exact HWt.out b w)
      have HE : Hid (pick l nw (zs.take (k + 1)) = if (b == 0 || decide (y < x) || (x == y && decide (n < b))) = true then n else b) := Lib.hid (by rw [HT.out]; unfold pickStep better; rw [e0, hx, hy]; rfl)
      clear q0 hx hy HT
      obtain ⟨t1, ht1⟩ : ∃ t, (b == 0) = t := ⟨_, rfl⟩
      obtain ⟨t2, ht2⟩ : ∃ t, decide (y < x) = t := ⟨_, rfl⟩
      obtain ⟨t3, ht3⟩ : ∃ t, (x == y) = t := ⟨_, rfl⟩
      obtain ⟨t4, ht4⟩ : ∃ t, decide (n < b) = t := ⟨_, rfl⟩
      rw [ht1, ht2, ht3, ht4] at HE
      cases t1
      · cases t2
        · cases t3
          · have HE2 := Lib.hid (show pick l nw (zs.take (k + 1)) = b from HE.out)
            clear HE
            go_wp2_with (go_at_call 14; (first | ((with_reducible refine (HN.out _).mono ?_)) | ((with_reducible refine (HM.out _).mono ?_))); rintro e' w1 ⟨rfl, hb⟩; have HBr := Lib.hid (below_on HBr.out hb); clear hb)
            go_roundw
            case rel => exact ⟨k + 1, by omega, by go_num, by rw [HE2.out], HBr.out⟩
            case measure => simp [intOf]; omega
          · cases t4
            · have HE2 := Lib.hid (show pick l nw (zs.take (k + 1)) = b from HE.out)
              clear HE
              go_wp2_with (go_at_call 14; (first | ((with_reducible refine (HN.out _).mono ?_)) | ((with_reducible refine (HM.out _).mono ?_))); rintro e' w1 ⟨rfl, hb⟩; have HBr := Lib.hid (below_on HBr.out hb); clear hb)
              go_roundw
              case rel => exact ⟨k + 1, by omega, by go_num, by rw [HE2.out], HBr.out⟩
              case measure => simp [intOf]; omega
            · have HE2 := Lib.hid (show pick l nw (zs.take (k + 1)) = n from HE.out)
              clear HE
              go_wp2_with (go_at_call 14; (first | ((with_reducible refine (HN.out _).mono ?_)) | ((with_reducible refine (HM.out _).mono ?_))); rintro e' w1 ⟨rfl, hb⟩; have HBr := Lib.hid (below_on HBr.out hb); clear hb)
              go_roundw
              case rel => exact ⟨k + 1, by omega, by go_num, by rw [HE2.out], HBr.out⟩
              case measure => simp [intOf]; omega
        · have HE2 := Lib.hid (show pick l nw (zs.take (k + 1)) = n by rw [HE.out]; simp)
          clear HE
          go_wp2_with (go_at_call 14; (first | ((with_reducible refine (HN.out _).mono ?_)) | ((with_reducible refine (HM.out _).mono ?_))); rintro e' w1 ⟨rfl, hb⟩; have HBr := Lib.hid (below_on HBr.out hb); clear hb)
          go_roundw
          case rel => exact ⟨k + 1, by omega, by go_num, by rw [HE2.out], HBr.out⟩
          case measure => simp [intOf]; omega
      · have HE2 := Lib.hid (show pick l nw (zs.take (k + 1)) = n by rw [HE.out]; simp)
        clear HE
        go_wp2_with (go_at_call 14; (first | ((with_reducible refine (HN.out _).mono ?_)) | ((with_reducible refine (HM.out _).mono ?_))); rintro e' w1 ⟨rfl, hb⟩; have HBr := Lib.hid (below_on HBr.out hb); clear hb)
        go_roundw
        case rel => exact ⟨k + 1, by omega, by go_num, by rw [HE2.out], HBr.out⟩
        case measure => simp [intOf]; omega
    · have hk2 : zs.take k = zs := List.take_of_length_le (by omega)
      have hke : k = zs.length := by omega
      have e1 : decide ((k : Int) < (zs.length : Int)) = false := decide_eq_false (by omega)
      rw [hk2]
      clear hke hk2 hb
      go_wp2_with fail
      go_ret
      exact ⟨rfl, HB.out.trans (HBr.out.mono HB.out.size)⟩
end Go.Proofs.YtdpkmcbpeloljaaDoor
