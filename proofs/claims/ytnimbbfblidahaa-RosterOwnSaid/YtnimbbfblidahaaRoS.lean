/- RosterOwn: the walk. -/
import Derived.Test.YtnimbbfblidahaaRoR
namespace Go.Proofs.Ytnimbbfblidahaa
open Go.RowKit

set_option maxHeartbeats 6400000 in
theorem own_walk (e nw n : Int) (a : Option Addr) (c : Nat) (zs : List Int) (w : World) (hz : IntsAt w a zs) (hl : zs.length ≤ 9223372036854775807) (hcap : zs.length ≤ c) :
    Calls Try.prog 5 #[rosV e a zs c nw, .int .i64 n] w fun e' w' => e' = .returned (.bool true) ∧ Below w.heap.size w w' := by
  obtain ⟨ys, hys'⟩ : ∃ ys, zs.take 7 = ys := ⟨_, rfl⟩
  have hy7 : ys.length ≤ 7 := by rw [← hys']; simp; omega
  have hys := Lib.hid hys'
  clear hys'
  go_enter Try.func5, Try.ntmps5
  go_wp2_with fail
  refine (begun_any _).mono ?_
  rintro e' w1 ⟨rfl, hb⟩
  have x0 := cell_keep hb (a := ⟨w.heap.size, 0, none⟩) (v := .int .i64 e) (by simp [go_sem])
  have x1 := cell_keep hb (a := ⟨w.heap.size, 1, none⟩) (v := .slice a zs.length c) (by simp [go_sem])
  have x2 := cell_keep hb (a := ⟨w.heap.size, 2, none⟩) (v := .int .i64 nw) (by simp [go_sem])
  have f0 := frozen_keep hb (a := ⟨w.heap.size, 0, none⟩) (v := .int .i64 e) (by simp [go_sem]) (by simp [go_sem])
  have f1 := frozen_keep hb (a := ⟨w.heap.size, 1, none⟩) (v := .slice a zs.length c) (by simp [go_sem]) (by simp [go_sem])
  have f2 := frozen_keep hb (a := ⟨w.heap.size, 2, none⟩) (v := .int .i64 nw) (by simp [go_sem]) (by simp [go_sem])
  have hz1 := Lib.hid ((hz.alloc _).keep hb)
  have HL : Hid (Below w.heap.size w w1) := below_on (below_alloc (Below.refl _ _) _) hb
  clear hb hz
  go_wp2_with fail
  refine (roster_ys _ _ _ _ _ ys _ hz1.out hl hcap hys.out).mono ?_
  rintro e' w2 ⟨v2, rfl, hown, hb⟩
  obtain ⟨a2, c2, rfl, _, hc2⟩ := own_cap hown
  have z1 : w.heap.size < w1.heap.size := cell_old x0
  replace f0 := frozen_keep hb x0 f0
  replace f1 := frozen_keep hb x1 f1
  replace f2 := frozen_keep hb x2 f2
  replace x0 := cell_keep hb x0
  replace x1 := cell_keep hb x1
  replace x2 := cell_keep hb x2
  have hBox := Lib.hid (BoxR.make (e := e) (nw := nw) _ _ _ (Nat.le_refl w.heap.size) x0 x1 x2 f0 f1 f2 hown z1 (below_on HL.out hb) hc2)
  have qz : w.heap.size < w2.heap.size := cell_old x0
  clear hown hb HL hz1 z1 hc2
  go_wp2_with fail
  clear x0 x1 x2 f0 f1 f2
  generalize ((w2.setCell ⟨w.heap.size, 0, none⟩ (.int .i64 e)).setCell ⟨w.heap.size, 1, none⟩ (.slice a2 ys.length c2)).setCell ⟨w.heap.size, 2, none⟩ (.int .i64 nw) = W at hBox ⊢
  refine (roster_ys _ _ _ _ _ ys _ hBox.out.ints (by omega) hBox.out.2.2.2.2.2.2.2.2 (List.take_of_length_le hy7)).mono ?_
  rintro e' w3 ⟨v3, rfl, hown, hb⟩
  obtain ⟨a3, c3, rfl, hi3, -⟩ := own_cap hown
  have bal : Below w3.heap.size w3 (w3.alloc (.cells #[.int .i64 e, .slice a3 ys.length c3, .int .i64 nw] 24)) := below_alloc (Below.refl _ _) _
  have i2 := Lib.hid (fun hn b hb' => Nat.lt_of_lt_of_le (hBox.out.ints.old hn b hb') hb.size)
  have i3 := Lib.hid hi3.old
  have hB0 : w.heap.size < w3.heap.size := Nat.lt_of_lt_of_le hBox.out.lt hb.size
  have hW := Lib.hid (CellR.new (e := e) (c := c3) (nw := nw) hi3 24)
  have hBox3 := Lib.hid ((hBox.out.keep hb).keep bal)
  obtain ⟨x0, x1, x2, -⟩ := hBox3.out
  clear bal hb hBox hown hi3
  obtain ⟨⟨ea, za, na, oka⟩, hra'⟩ : ∃ r, addF e ys nw n = r := ⟨_, rfl⟩
  obtain ⟨⟨ed, zd, nd, okd⟩, hrd'⟩ : ∃ r, dropF e ys nw n = r := ⟨_, rfl⟩
  have hla : za.length ≤ 8 := by have := addF_len (e := e) (nw := nw) (n := n) hy7; rw [hra'] at this; exact this
  have hld : zd.length ≤ 8 := by have := dropF_len (e := e) (nw := nw) (n := n) hy7; rw [hrd'] at this; exact this
  have hra := Lib.hid hra'
  have hrd := Lib.hid hrd'
  clear hra' hrd'
  go_wp2_with fail
  refine (add_F _ _ _ _ _ _ _ hBox3.out.ints hy7).mono ?_
  rw [hra.out]
  rintro e' w4 ⟨a4, c4, rfl, ho, hb⟩
  dsimp only at ho ⊢
  have bal : Below w4.heap.size w4 (w4.alloc (.cells #[.int .i64 ea, .slice a4 za.length c4, .int .i64 na] 24)) := below_alloc (Below.refl _ _) _
  have hA := Lib.hid (CellR.new (e := ea) (c := c4) (nw := na) (own_ints ho) 24)
  have OhA := Lib.hid (ownsRow_below ho bal)
  have hBox4 := Lib.hid ((hBox3.out.keep hb).keep bal)
  have zhA := hb.size
  have ihA := Lib.hid ((own_ints ho).old)
  replace hW := Lib.hid ((hW.out.keep hb).keep bal)
  clear x0 x1 x2 bal
  obtain ⟨x0, x1, x2, -⟩ := hBox4.out
  clear ho hb hBox3
  go_wp2_with fail
  refine (drop_F _ _ _ _ _ _ _ hBox4.out.ints hy7).mono ?_
  rw [hrd.out]
  rintro e' w5 ⟨a5, c5, rfl, ho, hb⟩
  dsimp only at ho ⊢
  have bal : Below w5.heap.size w5 (w5.alloc (.cells #[.int .i64 ed, .slice a5 zd.length c5, .int .i64 nd] 24)) := below_alloc (Below.refl _ _) _
  have hD := Lib.hid (CellR.new (e := ed) (c := c5) (nw := nd) (own_ints ho) 24)
  have OhD := Lib.hid (ownsRow_below ho bal)
  have hBox5 := Lib.hid ((hBox4.out.keep hb).keep bal)
  have zhD := hb.size
  have ihD := Lib.hid ((own_ints ho).old)
  replace hW := Lib.hid ((hW.out.keep hb).keep bal)
  replace hA := Lib.hid ((hA.out.keep hb).keep bal)
  replace OhA := Lib.hid (ownsRow_below (ownsRow_below OhA.out hb) bal)
  clear x0 x1 x2 bal
  obtain ⟨x0, x1, x2, -⟩ := hBox5.out
  clear ho hb hBox4
  rw [World.size_alloc] at zhA zhD
  have hVs : (w5.alloc (.cells #[.int .i64 ed, .slice a5 zd.length c5, .int .i64 nd] 24)).heap.size = w5.heap.size + 1 := World.size_alloc _ _
  obtain ⟨g1, p1, p2, p3, n1, p4⟩ := own_nine OhA.out (by simp only [World.size_alloc]; omega)
  obtain ⟨g2, r1, r2, r3, n2, r4⟩ := own_nine OhD.out (by simp only [World.size_alloc]; omega)
  have G1 : w3.heap.size < g1 ∧ g1 ≠ w4.heap.size ∧ g1 ≠ w5.heap.size ∧ (za.length ≠ 0 → a4 = some ⟨g1, 0, none⟩ ∧ g1 < w4.heap.size) ∧ (za.length = 0 → w5.heap.size < g1) := by
    rw [World.size_alloc] at p1
    rcases Nat.eq_zero_or_pos za.length with h0 | h0
    · have := p4 h0; rw [hVs] at this; exact ⟨by omega, by omega, by omega, fun h => absurd h0 h, fun _ => by omega⟩
    · rcases p3 with p3 | p3
      · omega
      · have this : g1 < w4.heap.size := ihA.out (by omega) _ p3.1
        exact ⟨by omega, by omega, by omega, fun _ => ⟨p3.1, this⟩, fun h => by omega⟩
  have G2 : w4.heap.size < g2 ∧ g2 ≠ w5.heap.size ∧ (zd.length ≠ 0 → a5 = some ⟨g2, 0, none⟩ ∧ g2 < w5.heap.size) := by
    rw [World.size_alloc] at r1
    rcases Nat.eq_zero_or_pos zd.length with h0 | h0
    · have := r4 h0; rw [hVs] at this; exact ⟨by omega, by omega, fun h => absurd h0 h⟩
    · rcases r3 with r3 | r3
      · omega
      · have this : g2 < w5.heap.size := ihD.out (by omega) _ r3.1
        exact ⟨by omega, by omega, fun _ => ⟨r3.1, this⟩⟩
  clear p1 p2 p3 p4 r1 r2 r3 r4 OhA OhD ihA ihD
  obtain ⟨-, y1, -, -⟩ := hA.out
  have N1 := Lib.hid n1
  have N2 := Lib.hid n2
  clear n1 n2
  go_wp2_with fail
  clear x0 x1 x2 y1
  generalize (w5.alloc (.cells #[.int .i64 ed, .slice a5 zd.length c5, .int .i64 nd] 24)) = V at *
  have hlow := Lib.hid hBox5.out.2.2.2.2.2.2.2.1
  go_loopw [11, 35] (fun _ i wr => ∃ k : Nat, k ≤ za.length ∧ i = .int .i64 k ∧ Off g1 V wr ∧ Nine wr g1 za.length ∧ Below w.heap.size w wr) (fun _ i _ => za.length - (intOf i).toNat)
  case atStart => exact ⟨0, Nat.zero_le _, rfl, Off.refl _ _, N1.out, hlow.out⟩
  case round =>
    obtain ⟨k, hk, rfl, hO, hN, hL⟩ := hrel
    have HO := Lib.hid hO
    have HN := Lib.hid hN
    have HL := Lib.hid hL
    have y1 := (hO.2.1 w4.heap.size 1 (Ne.symm G1.2.1)).trans hA.out.2.1
    clear hO hN hL hlow N1
    by_cases hlt : k < za.length
    · obtain ⟨ha4, hg1⟩ := G1.2.2.2.1 (by omega)
      subst ha4
      obtain ⟨⟨u, hu⟩, hf⟩ := HN.out k hlt
      have hlt' : (k : Int) < (za.length : Int) := by omega
      have hm : (k : Int) + 1 ≤ 9223372036854775807 := by omega
      have hw := Lib.hid (show w.heap.size ≤ g1 by omega)
      clear G1 G2
      go_wp2_with fail
      go_roundw
      case rel => exact ⟨k + 1, by omega, by go_num, HO.out.set _ _, HN.out.set _ _, HL.out.setCell hw.out _⟩
      case measure => simp [intOf]; omega
    · have hlt' : decide (k < za.length) = false := by simp; omega
      have y2 := (HO.out.2.1 w5.heap.size 1 (Ne.symm G1.2.2.1)).trans hD.out.2.1
      have hne : zd.length ≠ 0 → g2 ≠ g1 := fun h => by
        intro e
        have := G2.2.2 h
        have g := G2.1
        by_cases h0 : za.length = 0
        · have := G1.2.2.2.2 h0; omega
        · have := (G1.2.2.2.1 h0).2; omega
      have HN2 := Lib.hid (HO.out.nine N2.out hne)
      have HG := Lib.hid (And.intro G1 G2)
      clear y1 hlt hk N2 G1 G2 hne
      go_wp2_with fail
      clear y2 hlt'
      obtain ⟨V1, rfl⟩ : ∃ V1 : World, V1 = wr := ⟨_, rfl⟩
      go_loopw [12, 46] (fun _ i wr => ∃ k : Nat, k ≤ zd.length ∧ i = .int .i64 k ∧ Off g2 V1 wr ∧ Nine wr g2 zd.length ∧ Below w.heap.size w wr) (fun _ i _ => zd.length - (intOf i).toNat)
      case atStart => exact ⟨0, Nat.zero_le _, rfl, Off.refl _ _, HN2.out, HL.out⟩
      case round =>
        obtain ⟨k2, hk, rfl, hO, hN, hL⟩ := hrel
        have HO2 := Lib.hid hO
        have HN3 := Lib.hid hN
        have HL2 := Lib.hid hL
        have y2 := ((hO.2.1 w5.heap.size 1 (Ne.symm HG.out.2.2.1)).trans (HO.out.2.1 w5.heap.size 1 (Ne.symm HG.out.1.2.2.1))).trans hD.out.2.1
        clear hO hN hL HN2 HL
        by_cases hlt : k2 < zd.length
        · obtain ⟨ha5, hg2⟩ := HG.out.2.2.2 (by omega)
          subst ha5
          obtain ⟨⟨u, hu⟩, hf⟩ := HN3.out k2 hlt
          have hlt' : (k2 : Int) < (zd.length : Int) := by omega
          have hm : (k2 : Int) + 1 ≤ 9223372036854775807 := by omega
          have hw := Lib.hid (show w.heap.size ≤ g2 by have := HG.out.2.1; omega)
          go_wp2_with fail
          go_roundw
          case rel => exact ⟨k2 + 1, by omega, by go_num, HO2.out.set _ _, HN3.out.set _ _, HL2.out.setCell hw.out _⟩
          case measure => simp [intOf]; omega
        · have hlt' : decide (k2 < zd.length) = false := by simp; omega
          have G := HG.out
          have m : ∀ B o, B ≠ g1 → B ≠ g2 → wr.cell? ⟨B, o, none⟩ = V.cell? ⟨B, o, none⟩ := fun B o h1 h2 => (HO2.out.2.1 B o h2).trans (HO.out.2.1 B o h1)
          have j2 : IntsAt wr a2 ys := HO2.out.ints (HO.out.ints hBox5.out.ints (fun h b hb e => by have := i2.out h b hb; omega)) (fun h b hb e => by have := i2.out h b hb; omega)
          have j3 : IntsAt wr a3 ys := HO2.out.ints (HO.out.ints hW.out.2.2.2 (fun h b hb e => by have := i3.out h b hb; omega)) (fun h b hb e => by have := i3.out h b hb; omega)
          have x0 := (m w.heap.size 0 (by omega) (by omega)).trans hBox5.out.1
          have x1 := (m w.heap.size 1 (by omega) (by omega)).trans hBox5.out.2.1
          have x2 := (m w.heap.size 2 (by omega) (by omega)).trans hBox5.out.2.2.1
          have x3 := (m w3.heap.size 0 (by omega) (by omega)).trans hW.out.1
          have x4 := (m w3.heap.size 1 (by omega) (by omega)).trans hW.out.2.1
          have x5 := (m w3.heap.size 2 (by omega) (by omega)).trans hW.out.2.2.1
          have J2 := Lib.hid j2
          have J3 := Lib.hid j3
          clear y2 hlt hk G m j2 j3 HG
          go_wp2_with (go_at_call 20; refine (eqRoster_any _ _ _ _ _ _ _ _ _ _ _ (by omega) J2.out J3.out).mono ?_; rw [eqB_self]; rintro e' w' ⟨rfl, hb⟩; have HB := Lib.hid (below_on HL2.out hb); clear hb)
          go_ret
          exact ⟨rfl, HB.out⟩

end Go.Proofs.Ytnimbbfblidahaa
