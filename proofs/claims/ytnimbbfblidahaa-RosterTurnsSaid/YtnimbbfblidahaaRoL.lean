/- RosterWay: the walk. -/
import Derived.Test.YtnimbbfblidahaaRoK
namespace Go.Proofs.Ytnimbbfblidahaa
open Go.RowKit

theorem tail_at (e nw : Int) (a : Option Addr) (c : Nat) (zs : List Int) (w : World) (hl : zs.length ≤ 9223372036854775807) (hz : IntsAt w a zs) (h : Hid (atI zs (zs.length - 1) = nthI zs (zs.length - 1))) :
    Calls Try.prog 16 #[rosV e a zs c nw] w fun e w' => e = .returned (.int .i64 (nthI zs (zs.length - 1))) ∧ Below w.heap.size w w' := by
  have := tail_any e nw a c zs w hl hz
  rw [h.out] at this
  exact this
set_option maxHeartbeats 3200000 in
theorem way_walk (e nw : Int) (a : Option Addr) (c : Nat) (zs : List Int) (w : World) (hz : IntsAt w a zs) (hl : zs.length ≤ 9223372036854775807) (hcap : zs.length ≤ c) :
    Calls Try.prog 3 #[rosV e a zs c nw] w fun e' w' => e' = .returned (.bool true) ∧ Below w.heap.size w w' := by
  obtain ⟨ys, hys'⟩ : ∃ ys, zs.take 7 = ys := ⟨_, rfl⟩
  have hy7 : ys.length ≤ 7 := by rw [← hys']; simp; omega
  have hys := Lib.hid hys'
  clear hys'
  go_enter Try.func3, Try.ntmps3
  go_wp2_with fail
  refine (begun_any _).mono ?_
  rintro e' w1 ⟨rfl, hb⟩
  have x0 := cell_keep hb (a := ⟨w.heap.size, 0, none⟩) (v := .int .i64 e) (by simp [go_sem])
  have x1 := cell_keep hb (a := ⟨w.heap.size, 1, none⟩) (v := .slice a zs.length c) (by simp [go_sem])
  have x2 := cell_keep hb (a := ⟨w.heap.size, 2, none⟩) (v := .int .i64 nw) (by simp [go_sem])
  have f0 := frozen_keep hb (a := ⟨w.heap.size, 0, none⟩) (v := .int .i64 e) (by simp [go_sem]) (by simp [go_sem])
  have f1 := frozen_keep hb (a := ⟨w.heap.size, 1, none⟩) (v := .slice a zs.length c) (by simp [go_sem]) (by simp [go_sem])
  have f2 := frozen_keep hb (a := ⟨w.heap.size, 2, none⟩) (v := .int .i64 nw) (by simp [go_sem]) (by simp [go_sem])
  have hz1 := Lib.hid ((hz.alloc _).keep hb)
  have HL : Hid (Below w.heap.size w w1) := below_on (below_alloc (Below.refl _ _) _) hb
  clear hb hz
  go_wp2_with fail
  refine (roster_ys _ _ _ _ _ ys _ hz1.out hl hcap hys.out).mono ?_
  rintro e' w2 ⟨v2, rfl, hown, hb⟩
  obtain ⟨a2, c2, rfl, _, hc2⟩ := own_cap hown
  have z1 : w.heap.size < w1.heap.size := cell_old x0
  replace f0 := frozen_keep hb x0 f0
  replace f1 := frozen_keep hb x1 f1
  replace f2 := frozen_keep hb x2 f2
  replace x0 := cell_keep hb x0
  replace x1 := cell_keep hb x1
  replace x2 := cell_keep hb x2
  have hBox := Lib.hid (BoxR.make (e := e) (nw := nw) _ _ _ (Nat.le_refl w.heap.size) x0 x1 x2 f0 f1 f2 hown z1 (below_on HL.out hb) hc2)
  clear hown hb HL hz1 z1 hc2
  go_wp2_with fail
  clear x0 x1 x2 f0 f1 f2
  generalize ((w2.setCell ⟨w.heap.size, 0, none⟩ (.int .i64 e)).setCell ⟨w.heap.size, 1, none⟩ (.slice a2 ys.length c2)).setCell ⟨w.heap.size, 2, none⟩ (.int .i64 nw) = W at hBox ⊢
  refine (mayRoster_any _ _ _ _ _ _ (by omega) hBox.out.ints).mono ?_
  rintro e' w3 ⟨rfl, hb⟩
  replace hBox := Lib.hid (hBox.out.keep hb)
  obtain ⟨x0, x1, x2, f0, f1, f2, ho, hlow, hc2⟩ := hBox.out
  have hlt := hBox.out.lt
  clear hb f0 f1 f2
  by_cases hm : mayB e ys nw = false
  · have Ho := Lib.hid ho
    have Hm := Lib.hid hm
    rw [hm]
    clear ho hm
    go_wp2_with (go_at_call 12; refine (may_any _ _ _ _ _ _ (by omega) (own_ints Ho.out)).mono ?_; rw [Hm.out]; rintro e w' ⟨rfl, hb⟩)
    go_ret
    exact ⟨rfl, below_on hlow hb⟩
  · have hm' : mayB e ys nw = true := by simpa using hm
    have hmL := mayB_mayL hm'
    have HmL := Lib.hid hmL.1
    have hl1 := hmL.2.1
    have hl5 := hmL.2.2
    rw [hm']
    have Ho := Lib.hid ho
    clear hm hm' hmL ho
    go_wp2_with (go_at_call 13; refine (head_any _ _ _ _ _ _ (by omega) (own_ints Ho.out)).mono ?_; rintro e' w4 ⟨rfl, hb⟩; replace hBox := Lib.hid (hBox.out.keep hb); clear hb x0 x1 x2 hlow hlt Ho)
    rw [show atI ys 0 = orI ys 0 from by rw [orI_in hl1]; exact atI_in (k := 0) hl1]
    go_loopw [4, 5] (fun n i wr => ∃ k : Nat, k ≤ ys.length ∧ i = .int .i64 k ∧ n = .int .i64 (orI ys k) ∧ BoxR w.heap.size w e nw a2 c2 ys wr) (fun _ i _ => ys.length - (intOf i).toNat)
    case atStart => exact ⟨0, Nat.zero_le _, rfl, rfl, hBox.out⟩
    case round =>
      obtain ⟨k, hk, rfl, rfl, hB⟩ := hrel
      have hBH := Lib.hid hB
      obtain ⟨x0, x1, x2, _, _, _, ho, hlow, _⟩ := hB
      obtain ⟨b, off, rfl, hbs, hc⟩ := (own_ints ho).form hl1
      have Ho := Lib.hid ho
      clear ho
      by_cases hlt : k < ys.length
      · have hlt' : (k : Int) < (ys.length : Int) := by omega
        rw [orI_in hlt]
        have d0 := hc k hlt
        rcases Nat.eq_zero_or_pos k with rfl | hpos
        · have d0' : wr.cell? ⟨b, off, none⟩ = some (.int .i64 (nthI ys 0)) := by simpa using d0
          clear hc d0
          rw [show ((0 : Nat) : Int) = 0 from rfl] at *
          go_wp2_with fail
          go_quiet (fail)
          go_wp2_with (go_at_call 15; refine (next_at _ _ _ _ _ 0 _ (by omega) (hBH.out.keep (below_drewN (Below.refl _ _) _)).ints HmL.out hl1).mono ?_; rintro e' w5 ⟨rfl, hb⟩; have hB5 := Lib.hid ((hBH.out.keep (below_drewN (Below.refl _ _) _)).keep hb))
          go_roundw
          case rel => exact ⟨1, hl1, rfl, rfl, hB5.out⟩
          case measure => simp [intOf]; omega
        · obtain ⟨j, rfl⟩ : ∃ j, k = j + 1 := ⟨k - 1, by omega⟩
          have d1 := hc j (by omega)
          clear hc
          have q0 : IntKind.i64.wrap ((j : Int) + 1 - 1) = (j : Int) := by rw [IntWalk.i64_in _ (by omega)]; omega
          have q1 : decide ((0 : Int) < (j : Int) + 1) = true := by simp
          have q2 : (0 : Int) ≤ (j : Int) + 1 := by omega
          have q3 : (j : Int) + 1 < (ys.length : Int) := by omega
          have q4 : (0 : Int) ≤ (j : Int) := by omega
          have q5 : (j : Int) < (ys.length : Int) := by omega
          have q7 : IntKind.i64.wrap (j : Int) = (j : Int) := IntWalk.i64_in _ (by omega)
          have q6 : ((j : Int) + 1).toNat = j + 1 := by omega
          go_wp2_with fail
          go_region_held3 (fun w' => w'.cell? ⟨w.heap.size, 0, none⟩ = some (.int .i64 e) ∧ w'.cell? ⟨w.heap.size, 1, none⟩ = some (.slice (some ⟨b, off, none⟩) ys.length c2) ∧ w'.cell? ⟨w.heap.size, 2, none⟩ = some (.int .i64 nw) ∧ w'.cell? ⟨b, off + (j + 1), none⟩ = some (.int .i64 (nthI ys (j + 1))) ∧ w'.cell? ⟨b, off + j, none⟩ = some (.int .i64 (nthI ys j)) ∧  BoxR w.heap.size w e nw (some ⟨b, off, none⟩) c2 ys w')
            (first | exact ⟨x0, x1, x2, d0, d1, hBH.out.keep (Below.refl _ _).drew⟩ | (obtain ⟨s1, s2, s3, s4, s5, s6⟩ := ‹_ ∧ _ ∧ _ ∧ _ ∧ _ ∧ BoxR _ _ _ _ _ _ _ _›; exact ⟨cell_keep hb s1, cell_keep hb s2, cell_keep hb s3, cell_keep hb s4, cell_keep hb s5, s6.keep hb⟩))
            ((go_at_call 14; refine (ahead_at _ _ _ _ _ j _ (by omega) ?_ HmL.out (by omega)).mono ?_; (obtain ⟨s1, s2, s3, s4, s5, s6⟩ := ‹_ ∧ _ ∧ _ ∧ _ ∧ _ ∧ BoxR _ _ _ _ _ _ _ _›; exact s6.ints); rintro e' w' ⟨rfl, hb⟩))
          all_goals
            obtain ⟨s1, s2, s3, s4, s5, s6⟩ := ‹_ ∧ _ ∧ _ ∧ _ ∧ _ ∧ BoxR _ _ _ _ _ _ _ _›
            have hB6 := Lib.hid s6
            clear s6
            go_wp2_with (go_at_call 15; refine (next_at _ _ _ _ _ (j + 1) _ (by omega) hB6.out.ints HmL.out hlt).mono ?_; rintro e' w5 ⟨rfl, hb⟩; have hB5 := Lib.hid (hB6.out.keep hb))
            go_roundw
            case rel => exact ⟨j + 1 + 1, by omega, by go_num, rfl, hB5.out⟩
            case measure => simp [intOf]; omega
      · rw [show orI ys k = 0 from if_neg hlt]
        have d1 := hc (ys.length - 1) (by omega)
        have q0 : IntKind.i64.wrap ((ys.length : Int) - 1) = (ys.length : Int) - 1 := IntWalk.i64_in _ (by omega)
        have q1 : ((ys.length : Int) - 1).toNat = ys.length - 1 := by omega
        have q2 : (0 : Int) ≤ (ys.length : Int) - 1 := by omega
        have q3 : (ys.length : Int) - 1 < (ys.length : Int) := by omega
        have q4 : (1 : Int) ≤ (ys.length : Int) := by omega
        have HE := Lib.hid (atI_last hl1)
        clear hc
        go_wp2_with fail
        go_region_held3 (fun w' => w'.cell? ⟨w.heap.size, 0, none⟩ = some (.int .i64 e) ∧ w'.cell? ⟨w.heap.size, 1, none⟩ = some (.slice (some ⟨b, off, none⟩) ys.length c2) ∧ w'.cell? ⟨w.heap.size, 2, none⟩ = some (.int .i64 nw) ∧ w'.cell? ⟨b, off + (ys.length - 1), none⟩ = some (.int .i64 (nthI ys (ys.length - 1))) ∧  BoxR w.heap.size w e nw (some ⟨b, off, none⟩) c2 ys w')
          (first | exact ⟨x0, x1, x2, d1, hBH.out.keep (Below.refl _ _).drew⟩ | (obtain ⟨s1, s2, s3, s4, s6⟩ := ‹_ ∧ _ ∧ _ ∧ _ ∧ BoxR _ _ _ _ _ _ _ _›; exact ⟨cell_keep hb s1, cell_keep hb s2, cell_keep hb s3, cell_keep hb s4, s6.keep hb⟩))
          ((go_at_call 16; refine (tail_at _ _ _ _ _ _ (by omega) ?_ HE).mono ?_; (obtain ⟨s1, s2, s3, s4, s6⟩ := ‹_ ∧ _ ∧ _ ∧ _ ∧ BoxR _ _ _ _ _ _ _ _›; exact s6.ints); rintro e' w' ⟨rfl, hb⟩))
        all_goals
          obtain ⟨s1, s2, s3, s4, s6⟩ := ‹_ ∧ _ ∧ _ ∧ _ ∧ BoxR _ _ _ _ _ _ _ _›
          go_wp2_with fail
          go_ret
          exact ⟨rfl, s6.2.2.2.2.2.2.2.1⟩

end Go.Proofs.Ytnimbbfblidahaa
