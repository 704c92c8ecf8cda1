/- RollRoom: plain laws; the walk. -/
import Derived.Test.YtcfimmemnmmiiaaDoorRp
import Derived.Deep.QuietTactic
import Derived.BigQuiet
namespace Go.Proofs.YtcfimmemnmmiiaaDoor
open Go.RowKit

/-- The name of the k-th roll. -/
def byK (k : Nat) : UInt8 := UInt8.ofNat (65 + k)
def nmK (k : Nat) : ByteArray := ⟨#[byK k]⟩
theorem byK_nat {k : Nat} (h : k < 3) : (byK k).toNat = 65 + k := by
  unfold byK; rw [UInt8.toNat_ofNat']; omega
theorem nmK_list (k : Nat) : (nmK k).data.toList = [byK k] := rfl
theorem nmK_inj {j k : Nat} (hj : j < 3) (hk : k < 3) (h : (nmK j).data.toList = (nmK k).data.toList) : j = k := by
  rw [nmK_list, nmK_list] at h
  simp only [List.cons.injEq, and_true] at h
  have := congrArg UInt8.toNat h
  rw [byK_nat hj, byK_nat hk] at this
  omega
theorem nmK_good {k : Nat} (h : k < 3) : goodN (nmK k).data.toList = true := by
  have : k = 0 ∨ k = 1 ∨ k = 2 := by omega
  rcases this with rfl | rfl | rfl <;> decide +kernel
theorem run_nmK {k : Nat} (h : k < 3) (W : World) : (convert 36 9 (.slice (some ⟨W.heap.size, 0, none⟩) 1 1)).run Tryd.prog (W.alloc (.cells #[.int .u8 (65 + (k : Int))] 5)) = .ok (.string (nmK k)) (W.alloc (.cells #[.int .u8 (65 + (k : Int))] 5)) := by
  have e : (65 + (k : Int)) = ((byK k).toNat : Int) := by rw [byK_nat h]; omega
  rw [e]
  have h := run_convert_bytes_back (P := Tryd.prog) (W.alloc (.cells #[.int .u8 ((byK k).toNat : Int)] 5)) 36 9 5 ⟨W.heap.size, 0, none⟩ 1 [byK k] Tryd.underlying36 Tryd.underlying5 Tryd.underlying9 (fun j hj => by
    have hj' : j = 0 := by simpa using hj
    subst hj'
    have hadd : (⟨W.heap.size, 0, none⟩ : Addr).add 0 = ⟨W.heap.size, 0, none⟩ := by unfold Addr.add; split <;> simp_all
    rw [hadd]
    exact World.cell?_alloc_new W _ _ 0)
  exact h
theorem len_put {n m : Nm} {c : Scr} {L : List Rl} (hs : Rising L) : lenL m (putL n c L) = if m = n then (c.s.size : Int) else lenL m L := by
  unfold lenL
  rw [look_putL hs]
  by_cases e : m = n
  · rw [if_pos e, if_pos e]
  · rw [if_neg e, if_neg e]
/-- What holds at a round's head. -/
structure RoomI (w : World) (R : Int) (U g b : Nat) (i : Nat) (u : Nat → Int) (L : List Rl) (wr : World) : Prop where
  ch : ChS w wr g b (R - u 0 - u 1 - u 2) L
  ok : OkL (R - u 0 - u 1 - u 2) L
  ri : Rising L
  le : L.length ≤ i
  ls : ∀ j, j < 3 → lenL (nmK j).data.toList L = u j
  cs : ∀ j, j < 3 → wr.cell? ⟨U, j, none⟩ = some (.int .i64 (u j))
  fs : ∀ j, j < 3 → wr.frozen? ⟨U, j, none⟩ = false
theorem RoomI.low {w : World} {R : Int} {U g b i : Nat} {u : Nat → Int} {L : List Rl} {wr w2 : World} (h : RoomI w R U g b i u L wr) (k : Below wr.heap.size wr w2) : RoomI w R U g b i u L w2 :=
  ⟨h.ch.low k, h.ok, h.ri, h.le, h.ls, fun j hj => cell_keep k (h.cs j hj), fun j hj => frozen_keep k (h.cs j hj) (h.fs j hj)⟩
def upd (u : Nat → Int) (k : Nat) (x : Int) : Nat → Int := fun j => if j = k then x else u j
theorem upd_sum {u : Nat → Int} {k : Nat} (h : k < 3) (x : Int) : upd u k x 0 + upd u k x 1 + upd u k x 2 = u 0 + u 1 + u 2 - u k + x := by
  have : k = 0 ∨ k = 1 ∨ k = 2 := by omega
  rcases this with rfl | rfl | rfl <;> simp [upd] <;> omega
theorem RoomI.next {w : World} {R : Int} {U g b i k : Nat} {u : Nat → Int} {L L' : List Rl} {wr w2 : World} {x r' : Int} {c : Scr} (h : RoomI w R U g b i u L wr) (hk : k < 3) (hw : ChS w w2 g b r' L') (ho : Only [g, b] wr w2) (hU : U ≠ g) (hU2 : U ≠ b) (hr : r' = R - u 0 - u 1 - u 2 + u k - x)
    (hL : L' = putL (nmK k).data.toList c L) (hc : (c.s.size : Int) = x) (hok : OkL r' L') (hri : Rising L') (hB : w.heap.size ≤ U) : RoomI w R U g b (i + 1) (upd u k x) L' (w2.setCell ⟨U, k, none⟩ (.int .i64 x)) := by
  have hs := upd_sum (u := u) hk x
  have e : R - upd u k x 0 - upd u k x 1 - upd u k x 2 = r' := by omega
  have ho2 : Only [U] w2 (w2.setCell ⟨U, k, none⟩ (.int .i64 x)) := (Only.refl _ _).setCell (Or.inl (by simp)) _
  refine ⟨?_, by rw [e]; exact hok, hri, ?_, fun j hj => ?_, fun j hj => ?_, fun j hj => ?_⟩
  · rw [e]
    exact ⟨hw.1.keep ho2 (by simpa using hU.symm) (by simpa using hU2.symm), Only.under hw.2.1 ho2 (by simpa using hB), hw.2.2⟩
  · rw [hL]; have := len_putL (nmK k).data.toList c L; have := h.le; omega
  · rw [hL, len_put h.ri]
    unfold upd
    by_cases e2 : j = k
    · subst e2; rw [if_pos rfl, if_pos rfl, hc]
    · rw [if_neg (fun q => e2 (nmK_inj hj hk q)), if_neg e2]; exact h.ls j hj
  · have hcell := ho.cellK (p := ⟨U, j, none⟩) (by simp [hU, hU2]) (h.cs j hj)
    unfold upd
    by_cases e2 : j = k
    · subst e2; rw [if_pos rfl]; exact World.cell?_setCell_same _ _ _ hcell
    · rw [if_neg e2, World.cell?_setCell_other _ _ _ _ (by intro q; exact e2 (congrArg Addr.off q).symm)]; exact hcell
  · rw [World.frozen?_setCell]
    exact ho.frozenK (p := ⟨U, j, none⟩) (by simp [hU, hU2]) (h.cs j hj) (h.fs j hj)
/-- Nothing of the chest turned, the same number stored. -/
theorem RoomI.same {w : World} {R : Int} {U g b i : Nat} {u : Nat → Int} {L : List Rl} {wr w2 : World} (h : RoomI w R U g b i u L wr) (hw : ChS w w2 g b (R - u 0 - u 1 - u 2) L) (ho : Only [g, b] wr w2) (hU : U ≠ g) (hU2 : U ≠ b) : RoomI w R U g b (i + 1) u L w2 :=
  ⟨hw, h.ok, h.ri, by have := h.le; omega, h.ls, fun j hj => ho.cellK (p := ⟨U, j, none⟩) (by simp [hU, hU2]) (h.cs j hj), fun j hj => ho.frozenK (p := ⟨U, j, none⟩) (by simp [hU, hU2]) (h.cs j hj) (h.fs j hj)⟩
theorem RoomI.zero {w : World} {R : Int} {U g b i k : Nat} {u : Nat → Int} {L : List Rl} {wr : World} (h : RoomI w R U g b i u L wr) (hk : k < 3) (hU : U ≠ g) (hU2 : U ≠ b) (hB : w.heap.size ≤ U) : RoomI w R U g b (i + 1) u L (wr.setCell ⟨U, k, none⟩ (.int .i64 (u k))) := by
  have ho2 : Only [U] wr (wr.setCell ⟨U, k, none⟩ (.int .i64 (u k))) := (Only.refl _ _).setCell (Or.inl (by simp)) _
  refine ⟨⟨h.ch.1.keep ho2 (by simpa using hU.symm) (by simpa using hU2.symm), Only.under h.ch.2.1 ho2 (by simpa using hB), h.ch.2.2⟩, h.ok, h.ri, by have := h.le; omega, h.ls, fun j hj => ?_, fun j hj => ?_⟩
  · by_cases e2 : j = k
    · subst e2; exact World.cell?_setCell_same _ _ _ (h.cs j hj)
    · rw [World.cell?_setCell_other _ _ _ _ (by intro q; exact e2 (congrArg Addr.off q).symm)]; exact h.cs j hj
  · rw [World.frozen?_setCell]; exact h.fs j hj
theorem room_cut {r : Int} {L : List Rl} {n : Nm} {c : Scr} (hl : lookL n L = some c) {m : Int} (h0 : 0 ≤ m) (h1 : m ≤ c.s.size) : cutSp r L n m = (0, r + (c.s.size - m), putL n ⟨c.s.extract 0 m.toNat, min c.p m, true⟩ L) := by
  unfold cutSp
  rw [hl]
  dsimp only
  rw [if_neg (by omega)]
theorem look_of_len {n : Nm} {L : List Rl} (h : 0 < lenL n L) : ∃ c, lookL n L = some c ∧ (c.s.size : Int) = lenL n L := by
  unfold lenL at h ⊢
  cases hl : lookL n L with
  | none => rw [hl] at h; simp at h
  | some c => exact ⟨c, rfl, rfl⟩
theorem room_full {r : Int} {L : List Rl} {n : Nm} {s : ByteArray} (hg : goodN n = true) (hr : r < s.size) : writeS r L n s = (5, r, L) := by
  unfold writeS
  rw [if_neg (by rw [hg]; simp), if_pos hr]
set_option maxRecDepth 100000 in
theorem room_same {w : World} {g b : Nat} {r : Int} {L : List Rl} (hC : ChestAt w g b r L) :
    Calls Tryd.prog 16 #[.pointer (some ⟨g, 0, none⟩)] w fun e w' => e = .returned (.int .i64 r) ∧ w' = w := by
  have c0 := hC.1
  clear hC
  go_enter Tryd.func16, Tryd.ntmps16
  go_wp2_with fail
  go_ret
  exact ⟨rfl, rfl⟩
set_option maxRecDepth 100000 in
set_option maxHeartbeats 12800000 in
theorem rollRoom_walk (room : Int) (a : Option Addr) (cc : Nat) (zs : List Int) (w : World) (hz : IntsAt w a zs) (hl : zs.length ≤ 9223372036854775807) (L : Laid w) :
    Calls Tryd.prog 4 #[.int .i64 room, .slice a zs.length cc] w fun e w' => e = .returned (.bool true) ∧ Below w.heap.size w w' := by
  have HL := Lib.hid L
  have HZ := Lib.hid hz
  obtain ⟨R, hR⟩ : ∃ R, max 0 (min room 3000) = R := ⟨_, rfl⟩
  have hR1 : 0 ≤ R ∧ R ≤ 3000 := by omega
  have hR2 : capR R = R := by unfold capR; omega
  have HR2 := Lib.hid hR2
  clear L hz hR2
  go_enter Tryd.func4, Tryd.ntmps4
  go_wp2_with (go_at_call 7; refine (begun3_any _ HL.out).mono ?_; rintro e' w1 ⟨rfl, hb⟩; have HB1 := Lib.hid hb; clear hb)
  refine (new_S (w0 := w) HB1.out R R HR2.out).mono ?_
  rintro e w2 ⟨g, b, rfl, hs, -, -, -⟩
  have HS := Lib.hid hs
  clear hs
  go_wp2_with fail
  have hU1 : w2.heap.size ≠ g := by have := HS.out.1.ltg; omega
  have hU2 : w2.heap.size ≠ b := by have := HS.out.1.ltb; omega
  have hUB : w.heap.size ≤ w2.heap.size := HS.out.2.1.size
  have HI : Hid (RoomI w R w2.heap.size g b 0 (fun _ => 0) [] (w2.alloc (.cells #[.int .i64 0, .int .i64 0, .int .i64 0] 35))) := by
    have hb := below_alloc (Below.refl w2.heap.size w2) (.cells #[.int .i64 0, .int .i64 0, .int .i64 0] 35)
    refine Lib.hid ⟨?_, OkL.nil (by omega) (by omega), List.Pairwise.nil, Nat.le_refl _, fun j _ => rfl, fun j hj => ?_, fun j hj => ?_⟩
    · have := HS.out.low hb
      simpa using this
    · have : j = 0 ∨ j = 1 ∨ j = 2 := by omega
      obtain ⟨y0, y1, y2, -⟩ := new3 w2 (.int .i64 0) (.int .i64 0) (.int .i64 0) 35
      rcases this with rfl | rfl | rfl
      · exact y0
      · exact y1
      · exact y2
    · exact World.frozen?_alloc_new w2 _ _ j
  generalize w2.alloc (.cells #[.int .i64 0, .int .i64 0, .int .i64 0] 35) = V at HI ⊢
  generalize w2.heap.size = U at HI hU1 hU2 hUB ⊢
  clear HS HB1 w2 w1
  go_loopw [8] (fun v wr => ∃ (i : Nat) (u : Nat → Int) (L : List Rl), v = .int .i64 i ∧ i ≤ 30 ∧ i ≤ zs.length ∧ RoomI w R U g b i u L wr) (fun v _ => 30 - (intOf v).toNat)
  case atStart => exact ⟨0, _, _, rfl, by omega, by omega, HI.out⟩
  case round =>
    obtain ⟨i, u, L, rfl, hi1, hi2, hI⟩ := hrel
    have HJ := Lib.hid hI
    have hnn : ∀ j, j < 3 → 0 ≤ u j := fun j hj => by rw [← hI.ls j hj]; exact lenL_nonneg _ _
    have hn0 := hnn 0 (by decide)
    have hn1 := hnn 1 (by decide)
    have hn2 := hnn 2 (by decide)
    have hfree : 0 ≤ R - u 0 - u 1 - u 2 := hI.ok.1
    have hLl : L.length < 1000000 := by have := hI.le; omega
    obtain ⟨cr, hcr⟩ : ∃ c, (R - u 0 - u 1 - u 2) = c := ⟨_, rfl⟩
    by_cases hlt : i < zs.length ∧ i < 30
    · obtain ⟨hlt1, hlt2⟩ := hlt
      obtain ⟨k, hk, hk3⟩ : ∃ k : Nat, (i : Int) % 3 = (k : Int) ∧ k < 3 := ⟨((i : Int) % 3).toNat, by omega, by omega⟩
      have hkt : (i : Int).tmod 3 = (k : Int) := by rw [Int.tmod_eq_emod_of_nonneg (by omega)]; exact hk
      obtain ⟨nn, hnn4, hnt⟩ : ∃ nn : Nat, nn < 400 ∧ ((nthI zs i).tmod 400 + 400).tmod 400 = (nn : Int) := by
        have t1 : -400 < (nthI zs i).tmod 400 := by have := Int.tmod_lt_of_pos (-(nthI zs i)) (show (0:Int) < 400 by decide); rw [Int.neg_tmod] at this; omega
        have e1 := Int.tmod_nonneg (a := (nthI zs i).tmod 400 + 400) 400 (by omega)
        have e2 := Int.tmod_lt_of_pos ((nthI zs i).tmod 400 + 400) (show (0:Int) < 400 by decide)
        exact ⟨(((nthI zs i).tmod 400 + 400).tmod 400).toNat, by omega, by omega⟩
      obtain ⟨t, ht⟩ : ∃ t, (nthI zs i).tmod 400 = t := ⟨_, rfl⟩
      have t1 : -400 < t := by rw [← ht]; have := Int.tmod_lt_of_pos (-(nthI zs i)) (show (0:Int) < 400 by decide); rw [Int.neg_tmod] at this; omega
      have t2 : t < 400 := by rw [← ht]; exact Int.tmod_lt_of_pos _ (by decide)
      rw [ht] at hnt
      have hnt2 : (t + 400) % 400 = (nn : Int) := by rw [← Int.tmod_eq_emod_of_nonneg (by omega)]; exact hnt
      rcases (HZ.out.below hI.ch.2.1 (Nat.le_refl _)) with h | ⟨zb, off, rfl, hzb, hzc⟩
      · exfalso; rw [h] at hlt1; simp at hlt1
      have hzi := hzc i hlt1
      have c0 := hI.cs 0 (by decide)
      have c1 := hI.cs 1 (by decide)
      have c2 := hI.cs 2 (by decide)
      have ck := hI.cs k hk3
      have hUs : U < wr.heap.size := cell_old c0
      have d30 : decide ((i : Int) < 30) = true := decide_eq_true (by omega)
      have p1 : (i : Int) < (zs.length : Int) := by omega
      have fk := hI.fs k hk3
      have hnk := hnn k hk3
      have hle : u k ≤ 3000 := by
        have : k = 0 ∨ k = 1 ∨ k = 2 := by omega
        rcases this with rfl | rfl | rfl <;> omega
      have hcv := fun W => run_nmK hk3 W
      have hgd := Lib.hid (nmK_good hk3)
      have hlk := Lib.hid (hI.ls k hk3)
      have hns : (nmK k).size ≤ 9223372036854775807 := by have : (nmK k).size = 1 := rfl; omega
      have hk66 : IntKind.u8.wrap (65 + (k : Int)) = 65 + (k : Int) := by
        have : k = 0 ∨ k = 1 ∨ k = 2 := by omega
        rcases this with rfl | rfl | rfl <;> decide
      obtain ⟨uk, huk⟩ : ∃ x, u k = x := ⟨_, rfl⟩
      rw [huk] at ck hnk hle hlk
      have HUK := Lib.hid huk
      clear hI hzc hnn huk
      by_cases h5 : (i : Int) % 5 = 4
      · have h5t : (i : Int).tmod 5 = 4 := by rw [Int.tmod_eq_emod_of_nonneg (by omega)]; exact h5
        by_cases hu0 : 0 < uk
        · have q0 : decide (0 < uk) = true := decide_eq_true hu0
          obtain ⟨m, hm⟩ : ∃ m, min (nn : Int) uk = m := ⟨_, rfl⟩
          have hm' : min uk m = m := by omega
          have hm0 : 0 ≤ m := by omega
          have hm1 : m ≤ uk := by omega
          obtain ⟨c, hc1, hc2⟩ := look_of_len (n := (nmK k).data.toList) (L := L) (by rw [hlk.out]; exact hu0)
          rw [hlk.out] at hc2
          have hct := Lib.hid (room_cut (r := R - u 0 - u 1 - u 2) hc1 hm0 (by omega))
          have hok := Lib.hid (cutSp_ok HJ.out.ok HJ.out.ri (nmK k).data.toList m)
          rw [hct.out] at hok
          have HX := Lib.hid (show ((c.s.extract 0 m.toNat).size : Int) = m by rw [ByteArray.size_extract]; omega)
          have HY := Lib.hid hc2
          clear hc1 hc2 hlk
          go_wp2_with fail
          have HV := Lib.hid (below_alloc (Below.refl wr.heap.size wr) (.cells #[.int .u8 (65 + (k : Int))] 5))
          refine (rcut_S (HJ.out.ch.low HV.out) hLl HJ.out.ok (nmK k) m hns hct.out).mono ?_
          rintro e w4 ⟨rfl, hs, ho⟩
          have HS4 := Lib.hid hs
          have HO4 : Hid (Only [g, b] wr w4) := Lib.hid ((Only.of_below HV.out).trans ho)
          have ck4 := HO4.out.cellK (p := ⟨U, k, none⟩) (by simp [hU1, hU2]) ck
          have fk4 := HO4.out.frozenK (p := ⟨U, k, none⟩) (by simp [hU1, hU2]) ck fk
          clear hs ho c0 c1 c2 ck fk hzi hcv
          go_wp2_with fail
          go_roundw
          case rel => exact ⟨i + 1, upd u k m, _, by go_num, by omega, by omega, HJ.out.next hk3 HS4.out HO4.out hU1 hU2 (by have h1 := HY.out; have h2 := HUK.out; omega) rfl HX.out hok.out.1 hok.out.2.1 hUB⟩
          case measure => simp [intOf]; omega
        · have q0 : decide (0 < uk) = false := decide_eq_false hu0
          obtain rfl : uk = 0 := by omega
          have hm : min (nn : Int) 0 = 0 := by omega
          go_wp2_with fail
          have hq := HJ.out.zero hk3 hU1 hU2 hUB
          rw [HUK.out] at hq
          have HQ := Lib.hid (hq.low (below_alloc (Below.refl _ _) (.cells #[.int .u8 (65 + (k : Int))] 5)))
          clear hq
          go_roundw
          case rel => exact ⟨i + 1, u, L, by go_num, by omega, by omega, HQ.out⟩
          case measure => simp [intOf]; omega
      · have h5b : ((i : Int) % 5 == 4) = false := by simpa using h5
        have hmk := fun w : World => run_mks w nn (by omega) nn rfl
        have hbk := fun w : World => run_back0 w nn
        have HV := Lib.hid (below_alloc (Below.refl wr.heap.size wr) (.cells #[.int .u8 (65 + (k : Int))] 5))
        have HV2 := Lib.hid (below_on HV.out (mkw_below (wr.alloc (.cells #[.int .u8 (65 + (k : Int))] 5)) nn))
        have hzs : ((zeroB nn).size : Int) = (nn : Int) := by rw [zeroB_size]
        have HZS := Lib.hid hzs
        clear hzs
        by_cases hfr : (nn : Int) ≤ R - u 0 - u 1 - u 2
        · have q0 : decide ((nn : Int) ≤ R - u 0 - u 1 - u 2) = true := decide_eq_true hfr
          have hct := Lib.hid (writeS_put (r := R - u 0 - u 1 - u 2) (L := L) hgd.out (s := zeroB nn) (by rw [HZS.out]; exact hfr))
          have hok := Lib.hid (writeS_ok HJ.out.ok HJ.out.ri (nmK k).data.toList (zeroB nn))
          rw [hct.out] at hok
          have HX := Lib.hid (show ((catB (atL (nmK k).data.toList L).s (zeroB nn)).size : Int) = uk + nn by rw [catB_size, Int.natCast_add, atL_size, hlk.out, HZS.out])
          clear hlk
          go_wp2_with fail
          refine (write_S (HJ.out.ch.low HV2.out) hLl HJ.out.ok (nmK k) (zeroB nn) hns hct.out).mono ?_
          rintro e w4 ⟨rfl, hs, ho⟩
          have HS4 := Lib.hid hs
          have HO4 : Hid (Only [g, b] wr w4) := Lib.hid ((Only.of_below HV2.out).trans ho)
          have ck4 := HO4.out.cellK (p := ⟨U, k, none⟩) (by simp [hU1, hU2]) ck
          have fk4 := HO4.out.frozenK (p := ⟨U, k, none⟩) (by simp [hU1, hU2]) ck fk
          clear hs ho c0 c1 c2 ck fk hzi hcv hmk hbk
          go_wp2_with fail
          go_roundw
          case rel => exact ⟨i + 1, upd u k (uk + nn), _, by go_num, by omega, by omega, HJ.out.next hk3 HS4.out HO4.out hU1 hU2 (by have h1 := HZS.out; have h2 := HUK.out; omega) rfl HX.out hok.out.1 hok.out.2.1 hUB⟩
          case measure => simp [intOf]; omega
        · have q0 : decide ((nn : Int) ≤ R - u 0 - u 1 - u 2) = false := decide_eq_false hfr
          have hct := Lib.hid (room_full (r := R - u 0 - u 1 - u 2) (L := L) hgd.out (s := zeroB nn) (by rw [HZS.out]; omega))
          clear hlk
          go_wp2_with fail
          refine (write_S (HJ.out.ch.low HV2.out) hLl HJ.out.ok (nmK k) (zeroB nn) hns hct.out).mono ?_
          rintro e w4 ⟨rfl, hs, ho⟩
          have HS4 := Lib.hid hs
          have HO4 : Hid (Only [g, b] wr w4) := Lib.hid ((Only.of_below HV2.out).trans ho)
          clear hs ho c0 c1 c2 ck fk hzi hcv hmk hbk
          go_wp2_with fail
          go_roundw
          case rel => exact ⟨i + 1, u, L, by go_num, by omega, by omega, HJ.out.same HS4.out HO4.out hU1 hU2⟩
          case measure => simp [intOf]; omega
    · have c0 := hI.cs 0 (by decide)
      have c1 := hI.cs 1 (by decide)
      have c2 := hI.cs 2 (by decide)
      clear hI hnn
      by_cases hz1 : i < zs.length
      · have d30 : decide ((i : Int) < 30) = false := decide_eq_false (by omega)
        go_wp2_with fail
        go_quiet ((go_at_call 16; exact Calls.quiet_of_same (room_same HJ.out.ch.1)))
        go_wp2_with fail
        go_ret
        exact ⟨rfl, below_drewN HJ.out.ch.2.1 _⟩
      · go_wp2_with fail
        go_quiet ((go_at_call 16; exact Calls.quiet_of_same (room_same HJ.out.ch.1)))
        go_wp2_with fail
        go_ret
        exact ⟨rfl, below_drewN HJ.out.ch.2.1 _⟩
end Go.Proofs.YtcfimmemnmmiiaaDoor
