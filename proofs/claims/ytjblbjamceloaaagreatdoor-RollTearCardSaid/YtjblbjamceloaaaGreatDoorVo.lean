/- RollAll, RollTear: the walks. -/
import Derived.Test.YtjblbjamceloaaaGreatDoorVn
import Derived.Test.YtjblbjamceloaaaGreatDoorN7
import Derived.Test.YtjblbjamceloaaaGreatDoorRz
namespace Go.Proofs.YtjblbjamceloaaaGreatDoor
open Go.RowKit

set_option maxRecDepth 100000
theorem Both.make {w0 w1 w2 : World} {g b d : Nat} {v : Value} {z r : Int} {L : List Rl} (hc : ChS w0 w1 g b r L) (hb : Below w1.heap.size w1 w2) (hd : DocAt w2 d v z L) (h1 : w1.heap.size ≤ d) (h2 : ∀ q ∈ ownB v, w1.heap.size ≤ q) (ok : OkL r L) (ri : Rising L) (sm : r + sumL L = z) (nm : ∀ x ∈ L, x.1.length ≤ 12) : Both w0 w2 g b d v z r L := by
  have e1 := hc.1.ltg
  have e2 := hc.1.ltb
  have e4 := hc.2.1.size
  exact ⟨hc.low hb, hd, by omega, fun q hq => by have := h2 q hq; omega, ok, ri, sm, by omega, by omega, fun h => by have := h2 _ h; omega, fun h => by have := h2 _ h; omega, nm⟩
/-- An operation. -/
structure ROp where
  kind : Int
  n : Int
  nm : ByteArray
  to_ : ByteArray
  s : ByteArray
def ROp.cells (o : ROp) : List Value := [.int .i64 o.kind, .int .i64 o.n, .string o.nm, .string o.to_, .string o.s]
def ROp.ok (o : ROp) : Prop := (-9223372036854775808 ≤ o.n ∧ o.n ≤ 9223372036854775807) ∧ o.nm.size ≤ 9223372036854775807 ∧ o.to_.size ≤ 9223372036854775807 ∧ o.s.size ≤ 9223372036854775807
theorem RowsAt.rop {w : World} {a : Option Addr} {z : List ROp} (h : RowsAt w a 5 (z.map ROp.cells)) {k : Nat} (hk : k < z.length) : ∃ q o, a = some ⟨q, o, none⟩ ∧ w.cell? ⟨q, o + k * 5, none⟩ = some (.int .i64 z[k].kind) ∧ w.cell? ⟨q, o + k * 5 + 1, none⟩ = some (.int .i64 z[k].n) ∧ w.cell? ⟨q, o + k * 5 + 2, none⟩ = some (.string z[k].nm) ∧ w.cell? ⟨q, o + k * 5 + 3, none⟩ = some (.string z[k].to_) ∧ w.cell? ⟨q, o + k * 5 + 4, none⟩ = some (.string z[k].s) := by
  rcases h with h | ⟨q, o, rfl, hq, hc⟩
  · have : z = [] := by simpa using h
    subst this; simp at hk
  · have hg : (z.map ROp.cells)[k]? = some z[k].cells := by rw [List.getElem?_map, List.getElem?_eq_getElem hk]; rfl
    exact ⟨q, o, rfl, hc k _ hg 0 _ rfl, hc k _ hg 1 _ rfl, hc k _ hg 2 _ rfl, hc k _ hg 3 _ rfl, hc k _ hg 4 _ rfl⟩
set_option maxHeartbeats 12800000 in
theorem rollAll_walk (room : Int) (a : Option Addr) (c : Nat) (z : List ROp) (w : World) (hr : RowsAt w a 5 (z.map ROp.cells)) (hs : ∀ o ∈ z, o.ok) (hl : z.length ≤ 9223372036854775807) (LA : Laid w) :
    Calls Tryz.prog 6 #[.int .i64 room, .slice a z.length c] w fun e w' => e = .returned (.bool true) ∧ Below w.heap.size w w' := by
  have HL := Lib.hid LA
  have HZ := Lib.hid hr
  have HZs := Lib.hid hs
  clear LA hr hs
  go_enter Tryz.func6, Tryz.ntmps6
  go_wp2_with fail
  refine (begun3_any w HL.out).mono ?_
  rintro e w1 ⟨rfl, hb⟩
  have HB := Lib.hid hb
  clear hb
  go_wp2_with fail
  refine (new_S (w0 := w) HB.out room (capR room) rfl).mono ?_
  rintro e w2 ⟨g, b, rfl, hs, -, -, -⟩
  have HS := Lib.hid hs
  clear hs HB
  go_wp2_with fail
  refine (newDoc_any room w2).mono ?_
  rintro e w3 ⟨d, rfl, hd, hdl, hb⟩
  obtain ⟨zz, hzz⟩ : ∃ zz, capR room = zz := ⟨_, rfl⟩
  obtain ⟨hz0, hz1⟩ := capR_bd room
  rw [hzz] at HS hd hz0 hz1
  have HB0 : Hid (Both w w3 g b d (.slice none 0 0) zz zz []) := Lib.hid (Both.make HS.out hb hd hdl (by simp [ownB_nil]) (OkL.nil hz0 hz1) List.Pairwise.nil (by simp [sumL]) (by simp))
  clear hd hdl hb HS hzz hz0 hz1
  go_wp2_with fail
  go_loopw [6, 7, 8, 9] (fun u6 u7 u8 u9 wr => ∃ (k g b d : Nat) (v : Value) (r : Int) (L : List Rl), u6 = .pointer (some ⟨g, 0, none⟩) ∧ u7 = .pointer (some ⟨d, 0, none⟩) ∧ u9 = .int .i64 (k : Int) ∧ k ≤ 40 ∧ k ≤ z.length ∧ L.length ≤ k ∧ Both w wr g b d v zz r L) (fun _ _ _ u9 _ => 90 - (intOf u9).toNat)
  case atStart => exact ⟨0, g, b, d, _, _, _, rfl, rfl, rfl, by omega, by omega, by simp, HB0.out⟩
  case round =>
    obtain ⟨k, g, b, d, v, r, L, rfl, rfl, rfl, hk, hkz, hLk, hbo⟩ := hrel
    have HB := Lib.hid hbo
    clear hbo HB0
    by_cases hkl : k < z.length ∧ k < 40
    · obtain ⟨hk1, hk2⟩ := hkl
      have e1 : decide ((k : Int) < (z.length : Int)) = true := decide_eq_true (by omega)
      have e2 : decide ((k : Int) < 40) = true := decide_eq_true (by omega)
      obtain ⟨q, o, rfl, y0, y1, y2, y3, y4⟩ := (RowsAt.keep HZ.out HB.out.ch.2.1).rop hk1
      obtain ⟨b1, b2, b3, b4⟩ := HZs.out z[k] (List.getElem_mem hk1)
      obtain ⟨kd, hkd⟩ : ∃ kd, z[k].kind = kd := ⟨_, rfl⟩
      obtain ⟨on, hon⟩ : ∃ on, z[k].n = on := ⟨_, rfl⟩
      obtain ⟨nm, hnm⟩ : ∃ nm, z[k].nm = nm := ⟨_, rfl⟩
      obtain ⟨to_, hto⟩ : ∃ to_, z[k].to_ = to_ := ⟨_, rfl⟩
      obtain ⟨os, hos⟩ : ∃ os, z[k].s = os := ⟨_, rfl⟩
      rw [hkd] at y0
      rw [hon] at y1 b1
      rw [hnm] at y2 b2
      rw [hto] at y3 b3
      rw [hos] at y4 b4
      have HDo := Lib.hid (do_any HB.out (by omega) kd on b1 nm to_ os b2 b3 b4)
      clear hkd hon hnm hto hos b1 b2 b3 b4
      go_wp2_with fail
      refine HDo.out.mono ?_
      rintro e w5 ⟨g', b', d', v', r', L', rfl, hbo, hl'⟩
      have HB5 := Lib.hid hbo
      clear hbo HDo y0 y1 y2 y3 y4 HB
      go_wp2_with fail
      refine (same_any HB5.out (by omega)).mono ?_
      rintro e w6 ⟨rfl, hb⟩
      have HB6 := Lib.hid (HB5.out.low hb)
      clear hb
      go_wp2_with fail
      exact ⟨⟨k + 1, g', b', d', v', r', L', rfl, rfl, by go_num, by omega, by omega, by omega, HB6.out⟩, by simp [intOf]; omega⟩
    · have hex : (k < z.length ∧ ¬ k < 40 ∧ decide ((k : Int) < (z.length : Int)) = true ∧ decide ((k : Int) < 40) = false) ∨ (¬ k < z.length ∧ decide ((k : Int) < (z.length : Int)) = false) := by
        by_cases h1 : k < z.length
        · exact Or.inl ⟨h1, by omega, decide_eq_true (by omega), decide_eq_false (by omega)⟩
        · exact Or.inr ⟨h1, decide_eq_false (by omega)⟩
      rcases hex with ⟨i1, i2, e1, e2⟩ | ⟨i1, e1⟩
      all_goals
        go_wp2_with fail
        refine (same_any HB.out (by omega)).mono ?_
        rintro e w6 ⟨rfl, hb⟩
        have HB6 := Lib.hid (HB.out.low hb)
        clear hb
        go_wp2_with fail
        go_ret
        exact ⟨rfl, HB6.out.ch.2.1⟩
theorem fm_congr {α β : Type} {f g : α → Option β} : ∀ {L : List α}, (∀ x ∈ L, f x = g x) → L.filterMap f = L.filterMap g
  | [], _ => rfl
  | x :: r, h => by rw [List.filterMap_cons, List.filterMap_cons, h x (by simp), fm_congr (L := r) (fun y hy => h y (by simp [hy]))]
theorem tear_same {r : Int} {L : List Rl} (hk : OkL r L) (n m : Int) : tearL m (tearL n L) = tearL n L := by
  unfold tearL
  rw [List.filterMap_filterMap]
  refine fm_congr fun x hx => ?_
  obtain ⟨h1, h2⟩ := hk.2.2 x hx
  cases ht : tearOne n x.2 with
  | none => rfl
  | some d =>
    have hd : d = ⟨x.2.s.extract 0 (leftK n x.2).toNat, leftK n x.2, true⟩ := by
      unfold tearOne at ht
      split at ht
      · simp at ht; exact ht.symm
      · simp at ht
    have hb := leftK_bd (k := n) (c := x.2) ⟨h1, h2⟩
    have hsz : (d.s.size : Int) = d.p := by
      rw [hd]
      simp only
      rw [ByteArray.size_extract]
      omega
    have hk2 : d.k = true := by rw [hd]
    have hl : leftK m d = d.p := by
      unfold leftK
      split
      · rw [show (d.s.size : Int) - d.p + 1 = 1 by omega, Int.emod_one]; omega
      · omega
    have h3 : tearOne m d = some d := by
      unfold tearOne
      rw [if_pos (by rw [hk2]; simp), hl]
      have hp : d.p.toNat = d.s.size := by omega
      rw [hp]
      have he : d.s.extract 0 d.s.size = d.s := ba_ext (by rw [Lib.extract_data, List.drop_zero, Nat.sub_zero, Lib.size_eq, List.take_length])
      rw [he]
      obtain ⟨s, p, k⟩ := d
      simp only at hk2
      rw [hk2]
    simp [Option.map, h3]
set_option maxHeartbeats 12800000 in
theorem rollTear_walk  (a : Option Addr) (c : Nat) (z : List ROp) (n m : Int) (hn : -9223372036854775808 ≤ n ∧ n ≤ 9223372036854775807) (hm : -9223372036854775808 ≤ m ∧ m ≤ 9223372036854775807) (w : World) (hr : RowsAt w a 5 (z.map ROp.cells)) (hs : ∀ o ∈ z, o.ok) (hl : z.length ≤ 9223372036854775807) (LA : Laid w) :
    Calls Tryz.prog 7 #[.slice a z.length c, .int .i64 n, .int .i64 m] w fun e w' => e = .returned (.bool true) ∧ Below w.heap.size w w' := by
  have HL := Lib.hid LA
  have HZ := Lib.hid hr
  have HZs := Lib.hid hs
  clear LA hr hs
  go_enter Tryz.func7, Tryz.ntmps7
  go_wp2_with fail
  refine (begun3_any w HL.out).mono ?_
  rintro e w1 ⟨rfl, hb⟩
  have HB := Lib.hid hb
  clear hb
  go_wp2_with fail
  refine (new_S (w0 := w) HB.out 1000 (capR 1000) rfl).mono ?_
  rintro e w2 ⟨g, b, rfl, hs, -, -, -⟩
  have HS := Lib.hid hs
  clear hs HB
  go_wp2_with fail
  refine (newDoc_any 1000 w2).mono ?_
  rintro e w3 ⟨d, rfl, hd, hdl, hb⟩
  obtain ⟨zz, hzz⟩ : ∃ zz, capR 1000 = zz := ⟨_, rfl⟩
  obtain ⟨hz0, hz1⟩ := capR_bd 1000
  rw [hzz] at HS hd hz0 hz1
  have HB0 : Hid (Both w w3 g b d (.slice none 0 0) zz zz []) := Lib.hid (Both.make HS.out hb hd hdl (by simp [ownB_nil]) (OkL.nil hz0 hz1) List.Pairwise.nil (by simp [sumL]) (by simp))
  clear hd hdl hb HS hzz hz0 hz1
  go_wp2_with fail
  go_loopw [8, 9, 10, 11] (fun u8 u9 u10 u11 wr => ∃ (k g b d : Nat) (v : Value) (r : Int) (L : List Rl), u8 = .pointer (some ⟨g, 0, none⟩) ∧ u9 = .pointer (some ⟨d, 0, none⟩) ∧ u11 = .int .i64 (k : Int) ∧ k ≤ 25 ∧ k ≤ z.length ∧ L.length ≤ k ∧ Both w wr g b d v zz r L) (fun _ _ _ u11 _ => 90 - (intOf u11).toNat)
  case atStart => exact ⟨0, g, b, d, _, _, _, rfl, rfl, rfl, by omega, by omega, by simp, HB0.out⟩
  case round =>
    obtain ⟨k, g, b, d, v, r, L, rfl, rfl, rfl, hk, hkz, hLk, hbo⟩ := hrel
    have HB := Lib.hid hbo
    clear hbo HB0
    by_cases hkl : k < z.length ∧ k < 25
    · obtain ⟨hk1, hk2⟩ := hkl
      have e1 : decide ((k : Int) < (z.length : Int)) = true := decide_eq_true (by omega)
      have e2 : decide ((k : Int) < 25) = true := decide_eq_true (by omega)
      obtain ⟨q, o, rfl, y0, y1, y2, y3, y4⟩ := (RowsAt.keep HZ.out HB.out.ch.2.1).rop hk1
      obtain ⟨b1, b2, b3, b4⟩ := HZs.out z[k] (List.getElem_mem hk1)
      obtain ⟨kd, hkd⟩ : ∃ kd, z[k].kind = kd := ⟨_, rfl⟩
      obtain ⟨on, hon⟩ : ∃ on, z[k].n = on := ⟨_, rfl⟩
      obtain ⟨nm, hnm⟩ : ∃ nm, z[k].nm = nm := ⟨_, rfl⟩
      obtain ⟨to_, hto⟩ : ∃ to_, z[k].to_ = to_ := ⟨_, rfl⟩
      obtain ⟨os, hos⟩ : ∃ os, z[k].s = os := ⟨_, rfl⟩
      rw [hkd] at y0
      rw [hon] at y1 b1
      rw [hnm] at y2 b2
      rw [hto] at y3 b3
      rw [hos] at y4 b4
      have HDo := Lib.hid (do_any HB.out (by omega) kd on b1 nm to_ os b2 b3 b4)
      clear hkd hon hnm hto hos b1 b2 b3 b4
      go_wp2_with fail
      refine HDo.out.mono ?_
      rintro e w5 ⟨g', b', d', v', r', L', rfl, hbo, hl'⟩
      have HB5 := Lib.hid hbo
      clear hbo HDo y0 y1 y2 y3 y4 HB
      go_wp2_with fail
      exact ⟨⟨k + 1, g', b', d', v', r', L', rfl, rfl, by go_num, by omega, by omega, by omega, HB5.out⟩, by simp [intOf]; omega⟩
    · have hex : (k < z.length ∧ ¬ k < 25 ∧ decide ((k : Int) < (z.length : Int)) = true ∧ decide ((k : Int) < 25) = false) ∨ (¬ k < z.length ∧ decide ((k : Int) < (z.length : Int)) = false) := by
        by_cases h1 : k < z.length
        · exact Or.inl ⟨h1, by omega, decide_eq_true (by omega), decide_eq_false (by omega)⟩
        · exact Or.inr ⟨h1, decide_eq_false (by omega)⟩
      have HTn := Lib.hid (tearS_ok HB.out.ok HB.out.ri n)
      have HTm := Lib.hid (tearS_ok HB.out.ok HB.out.ri m)
      have HSm := Lib.hid (tear_same HB.out.ok n m)
      rcases hex with ⟨i1, i2, e1, e2⟩ | ⟨i1, e1⟩
      all_goals
        go_wp2_with fail
        refine (tear_S HB.out.ch (by omega) HB.out.ok n hn rfl rfl).mono ?_
        rintro e w4 ⟨g1, b1, rfl, hc, hb, -, -⟩
        have HC := Lib.hid hc
        have HB4 := Lib.hid (HB.out.low hb)
        clear hc hb
        go_wp2_with fail
        refine (rtear_any HB4.out.dc (by omega) HB.out.ok n hn).mono ?_
        rintro e w5 ⟨d1, v1, rfl, hd, hb, hdl, hvl⟩
        have HA := Lib.hid (Both.make HC.out hb hd hdl hvl HTn.out.1 HTn.out.2.1 (HTn.out.2.2.2.trans HB.out.sm) (names_tear HB.out.nm))
        have HB5 := Lib.hid (HB4.out.low hb)
        have hln := HTn.out.2.2.1
        have hlm := HTm.out.2.2.1
        clear hd hb hdl hvl HC HB4
        go_wp2_with fail
        refine (same_any HA.out (by omega)).mono ?_
        rintro e w6 ⟨rfl, hb⟩
        have HA6 := Lib.hid (HA.out.low hb)
        have HB6 := Lib.hid (HB5.out.low hb)
        clear hb HA HB5
        go_wp2_with fail
        refine (tear_S HB6.out.ch (by omega) HB6.out.ok m hm rfl rfl).mono ?_
        rintro e w7 ⟨g2, b2, rfl, hc, hb, -, -⟩
        have HC := Lib.hid hc
        have HA7 := Lib.hid (HA6.out.low hb)
        have HB7 := Lib.hid (HB6.out.low hb)
        clear hc hb HA6 HB6
        go_wp2_with fail
        refine (rtear_any HB7.out.dc (by omega) HB7.out.ok m hm).mono ?_
        rintro e w8 ⟨d2, v2, rfl, hd, hb, hdl, hvl⟩
        have HM := Lib.hid (Both.make HC.out hb hd hdl hvl HTm.out.1 HTm.out.2.1 (HTm.out.2.2.2.trans HB.out.sm) (names_tear HB.out.nm))
        have HA8 := Lib.hid (HA7.out.low hb)
        have HB8 := Lib.hid (HB7.out.low hb)
        clear hd hb hdl hvl HC HA7 HB7
        go_wp2_with fail
        refine (same_any HM.out (by omega)).mono ?_
        rintro e w9 ⟨rfl, hb⟩
        have HA9 := Lib.hid (HA8.out.low hb)
        have HB9 := Lib.hid (HB8.out.low hb)
        clear hb HM HA8 HB8
        go_wp2_with fail
        refine (tear_S HA9.out.ch (by omega) HA9.out.ok m hm (show _ = tearS r L n by unfold tearS; rw [HSm.out]; omega) HSm.out).mono ?_
        rintro e wa ⟨g3, b3, rfl, hc, hb, -, -⟩
        have HC := Lib.hid hc
        have HBa := Lib.hid (HB9.out.low hb)
        clear hc hb HA9 HB9
        go_wp2_with fail
        refine (rtear_any HBa.out.dc (by omega) HBa.out.ok n hn).mono ?_
        rintro e wb ⟨d3, v3, rfl, hd, hb, hdl, hvl⟩
        have HN := Lib.hid (Both.make HC.out hb hd hdl hvl HTn.out.1 HTn.out.2.1 (HTn.out.2.2.2.trans HB.out.sm) (names_tear HB.out.nm))
        have HBb := Lib.hid (HBa.out.low hb)
        clear hd hb hdl hvl HC HBa
        go_wp2_with fail
        refine (same_any HN.out (by omega)).mono ?_
        rintro e wc ⟨rfl, hb⟩
        have HBc := Lib.hid (HBb.out.low hb)
        clear hb HN HBb
        go_wp2_with fail
        refine (same_any HBc.out (by omega)).mono ?_
        rintro e wd ⟨rfl, hb⟩
        have HBd := Lib.hid (HBc.out.low hb)
        clear hb HBc
        go_wp2_with fail
        go_ret
        exact ⟨rfl, HBd.out.ch.2.1⟩
end Go.Proofs.YtjblbjamceloaaaGreatDoor
