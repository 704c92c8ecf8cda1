/- RosterBack: the walk. -/
import Derived.Test.YtnimbbfblidahaaRoP
namespace Go.Proofs.Ytnimbbfblidahaa
open Go.RowKit

theorem keep3 {p0 p1 p2 : Addr} {v0 v1 v2 : Value} {B : Nat} {w : World} {e nw : Int} {a : Option Addr} {c : Nat} {ys : List Int} {W W' : World} (hb : Below W.heap.size W W')
    (s : W.cell? p0 = some v0 ∧ W.cell? p1 = some v1 ∧ W.cell? p2 = some v2 ∧ BoxR B w e nw a c ys W) :
    W'.cell? p0 = some v0 ∧ W'.cell? p1 = some v1 ∧ W'.cell? p2 = some v2 ∧ BoxR B w e nw a c ys W' :=
  ⟨cell_keep hb s.1, cell_keep hb s.2.1, cell_keep hb s.2.2.1, s.2.2.2.keep hb⟩
theorem BoxR.three {B : Nat} {w W : World} {e nw : Int} {a : Option Addr} {c : Nat} {ys : List Int} (h : BoxR B w e nw a c ys W) :
    W.cell? ⟨B, 0, none⟩ = some (.int .i64 e) ∧ W.cell? ⟨B, 1, none⟩ = some (.slice a ys.length c) ∧ W.cell? ⟨B, 2, none⟩ = some (.int .i64 nw) ∧ BoxR B w e nw a c ys W := ⟨h.1, h.2.1, h.2.2.1, h⟩

set_option maxHeartbeats 6400000 in
theorem back_walk (e nw n : Int) (a : Option Addr) (c : Nat) (zs : List Int) (w : World) (hz : IntsAt w a zs) (hl : zs.length ≤ 9223372036854775807) (hcap : zs.length ≤ c) :
    Calls Try.prog 6 #[rosV e a zs c nw, .int .i64 n] w fun e' w' => e' = .returned (.bool true) ∧ Below w.heap.size w w' := by
  obtain ⟨ys, hys'⟩ : ∃ ys, zs.take 7 = ys := ⟨_, rfl⟩
  have hy7 : ys.length ≤ 7 := by rw [← hys']; simp; omega
  have hys := Lib.hid hys'
  clear hys'
  go_enter Try.func6, Try.ntmps6
  go_wp2_with fail
  refine (begun_any _).mono ?_
  rintro e' w1 ⟨rfl, hb⟩
  have x0 := cell_keep hb (a := ⟨w.heap.size, 0, none⟩) (v := .int .i64 e) (by simp [go_sem])
  have x1 := cell_keep hb (a := ⟨w.heap.size, 1, none⟩) (v := .slice a zs.length c) (by simp [go_sem])
  have x2 := cell_keep hb (a := ⟨w.heap.size, 2, none⟩) (v := .int .i64 nw) (by simp [go_sem])
  have f0 := frozen_keep hb (a := ⟨w.heap.size, 0, none⟩) (v := .int .i64 e) (by simp [go_sem]) (by simp [go_sem])
  have f1 := frozen_keep hb (a := ⟨w.heap.size, 1, none⟩) (v := .slice a zs.length c) (by simp [go_sem]) (by simp [go_sem])
  have f2 := frozen_keep hb (a := ⟨w.heap.size, 2, none⟩) (v := .int .i64 nw) (by simp [go_sem]) (by simp [go_sem])
  have hz1 := Lib.hid ((hz.alloc _).keep hb)
  have HL : Hid (Below w.heap.size w w1) := below_on (below_alloc (Below.refl _ _) _) hb
  clear hb hz
  go_wp2_with fail
  refine (roster_ys _ _ _ _ _ ys _ hz1.out hl hcap hys.out).mono ?_
  rintro e' w2 ⟨v2, rfl, hown, hb⟩
  obtain ⟨a2, c2, rfl, _, hc2⟩ := own_cap hown
  have z1 : w.heap.size < w1.heap.size := cell_old x0
  replace f0 := frozen_keep hb x0 f0
  replace f1 := frozen_keep hb x1 f1
  replace f2 := frozen_keep hb x2 f2
  replace x0 := cell_keep hb x0
  replace x1 := cell_keep hb x1
  replace x2 := cell_keep hb x2
  have hBox := Lib.hid (BoxR.make (e := e) (nw := nw) _ _ _ (Nat.le_refl w.heap.size) x0 x1 x2 f0 f1 f2 hown z1 (below_on HL.out hb) hc2)
  have qz : w.heap.size < w2.heap.size := cell_old x0
  clear hown hb HL hz1 z1 hc2
  go_wp2_with fail
  clear x0 x1 x2 f0 f1 f2
  generalize ((w2.setCell ⟨w.heap.size, 0, none⟩ (.int .i64 e)).setCell ⟨w.heap.size, 1, none⟩ (.slice a2 ys.length c2)).setCell ⟨w.heap.size, 2, none⟩ (.int .i64 nw) = W at hBox ⊢
  obtain ⟨mb, hmb⟩ : ∃ mb, mayB e ys nw = mb := ⟨_, rfl⟩
  have Hmb := Lib.hid hmb
  clear hmb
  refine (mayRoster_any _ _ _ _ _ _ (by omega) hBox.out.ints).mono ?_
  rw [Hmb.out]
  rintro e' w3 ⟨rfl, hb⟩
  have hBox3 := Lib.hid (hBox.out.keep hb)
  clear hBox hb
  obtain ⟨x0, x1, x2, -⟩ := hBox3.out
  by_cases hm : mb = false
  · rw [hm] at Hmb ⊢
    clear hm
    go_wp2_with fail
    go_ret
    exact ⟨rfl, hBox3.out.2.2.2.2.2.2.2.1⟩
  have hm' : mb = true := by simpa using hm
  rw [hm'] at Hmb ⊢
  clear hm hm'
  by_cases hep : 549755813888 < e
  · have q : decide ((549755813888 : Int) < e) = true := by simpa using hep
    go_wp2_with fail
    go_ret
    exact ⟨rfl, hBox3.out.2.2.2.2.2.2.2.1⟩
  have q : decide ((549755813888 : Int) < e) = false := by simpa using hep
  have he : e < 1099511627775 := by omega
  clear hep
  have HE := Lib.hid he
  clear he
  go_wp2_with fail
  clear q
  by_cases hc : nw = 0 ∧ idx ys n < 0 ∧ 1 ≤ n ∧ n ≤ 5
  · obtain ⟨rfl, k1, k2, k3⟩ := hc
    have Hi := Lib.hid k1
    obtain ⟨za, hza⟩ : ∃ za, ys ++ [n] = za := ⟨_, rfl⟩
    have hA' := addF_yes Hmb.out (by have := HE.out; omega) k1 k2 k3
    have hD' := dropF_back Hmb.out HE.out k1 k2 k3
    have hzl : za.length ≤ 7 := by rw [← hza]; have := (mayB_mayL Hmb.out).2.2; have := mayL_len ((mayL_add (n := n)).2 ⟨(mayB_mayL Hmb.out).1, k2, k3, fun hm => by have := idx_in hm; omega⟩); omega
    rw [hza] at hA' hD'
    have hA := Lib.hid hA'
    have hD := Lib.hid hD'
    clear hA' hD' hza k1 k2 k3
    refine (add_F _ _ _ _ _ _ _ hBox3.out.ints hy7).mono ?_
    rw [hA.out]
    rintro e' w4 ⟨a4, c4, rfl, ho, hb⟩
    dsimp only at ho ⊢
    have hB := Lib.hid (CellR.new (e := e + 1) (c := c4) (nw := n) (own_ints ho) 24)
    have bal : Below w4.heap.size w4 (w4.alloc (.cells #[.int .i64 (e + 1), .slice a4 za.length c4, .int .i64 n] 24)) := below_alloc (Below.refl _ _) _
    have hBox4 := Lib.hid ((hBox3.out.keep hb).keep bal)
    clear x0 x1 x2 bal
    obtain ⟨x0, x1, x2, -⟩ := hBox4.out
    obtain ⟨y0, y1, y2, -⟩ := hB.out
    clear ho hb hBox3
    go_wp2_with fail
    refine (drop_F _ _ _ _ _ _ _ hB.out.2.2.2 hzl).mono ?_
    rw [hD.out]
    rintro e' w5 ⟨a5, c5, rfl, ho, hb⟩
    dsimp only at ho ⊢
    have hC := Lib.hid (CellR.new (e := e + 2) (c := c5) (nw := 0) (own_ints ho) 24)
    have bal : Below w5.heap.size w5 (w5.alloc (.cells #[.int .i64 (e + 2), .slice a5 ys.length c5, .int .i64 0] 24)) := below_alloc (Below.refl _ _) _
    have hBox5 := Lib.hid ((hBox4.out.keep hb).keep bal)
    clear x0 x1 x2 y0 y1 y2 bal
    clear ho hb hBox4 hB
    have hq : IntKind.i64.wrap (e + 2) = e + 2 := IntWalk.i64_in _ (by have := HE.out; have := (mayB_ep Hmb.out); omega)
    have hStart : Hid (BoxR w.heap.size w e 0 a2 c2 ys (w5.alloc (.cells #[.int .i64 (e + 2), .slice a5 ys.length c5, .int .i64 0] 24)) ∧ CellR w5.heap.size (e + 2) a5 ys c5 0 (w5.alloc (.cells #[.int .i64 (e + 2), .slice a5 ys.length c5, .int .i64 0] 24))) := Lib.hid ⟨hBox5.out, hC.out⟩
    obtain ⟨x0, x1, x2, -⟩ := hBox5.out
    obtain ⟨y0, y1, y2, -⟩ := hC.out
    clear hBox5 hC
    go_wp2_with fail
    go_loopw [10] (fun i wr => ∃ k : Nat, k ≤ ys.length ∧ i = .int .i64 k ∧ BoxR w.heap.size w e 0 a2 c2 ys wr ∧ CellR w5.heap.size (e + 2) a5 ys c5 0 wr) (fun i _ => ys.length - (intOf i).toNat)
    case atStart => exact ⟨0, Nat.zero_le _, rfl, hStart.out⟩
    case round =>
      obtain ⟨k, hk, rfl, hB, hC⟩ := hrel
      have hBH := Lib.hid hB
      have hCH := Lib.hid hC
      obtain ⟨x0, x1, x2, -⟩ := hB
      obtain ⟨y0, y1, y2, -⟩ := hC
      by_cases hlt : k < ys.length
      · have hl1 : 1 ≤ ys.length := by omega
        obtain ⟨b, off, rfl, -, hc⟩ := hBH.out.ints.form hl1
        obtain ⟨b', off', rfl, -, hc'⟩ := hCH.out.2.2.2.form hl1
        have d0 := hc k hlt
        have d1 := hc' k hlt
        clear hc hc'
        have q0 : (k : Int) < (ys.length : Int) := by omega
        have q1 : (0 : Int) ≤ (k : Int) := by omega
        go_wp2_with fail
        go_quiet (fail)
        go_wp2_with fail
        go_roundw
        case rel => exact ⟨k + 1, hlt, by go_num, hBH.out.keep (below_drewN (Below.refl _ _) _), hCH.out.keep (below_drewN (Below.refl _ _) _)⟩
        case measure => simp [intOf]; omega
      · have q0 : ¬ (k : Int) < (ys.length : Int) := by omega
        go_wp2_with fail
        go_ret
        exact ⟨rfl, hBH.out.2.2.2.2.2.2.2.1⟩
  · refine (add_F _ _ _ _ _ _ _ hBox3.out.ints hy7).mono ?_
    rw [addF_no Hmb.out (by have := HE.out; omega) (by omega)]
    rintro e' w4 ⟨a4, c4, rfl, ho, hb⟩
    dsimp only at ho ⊢
    have bal : Below w4.heap.size w4 (w4.alloc (.cells #[.int .i64 0, .slice a4 0 c4, .int .i64 0] 24)) := below_alloc (Below.refl _ _) _
    have hBox4 := Lib.hid ((hBox3.out.keep hb).keep bal)
    have hBx := Lib.hid (hBox3.out.keep hb)
    clear x0 x1 x2 bal
    obtain ⟨x0, x1, x2, -⟩ := hBox4.out
    clear ho hb hBox3
    have hfin : Below w.heap.size w (w4.alloc (.cells #[.int .i64 0, .slice a4 0 c4, .int .i64 0] 24)) := hBox4.out.2.2.2.2.2.2.2.1
    by_cases h0 : nw = 0
    · subst h0
      obtain ⟨hx, hhx⟩ : ∃ hx, decide (0 ≤ idx ys n) = hx := ⟨_, rfl⟩
      have Hx := Lib.hid hhx
      have hc3 : hx = true ∨ (hx = false ∧ decide (n < 1) = true) ∨ (hx = false ∧ decide (n < 1) = false ∧ decide (5 < n) = true) := by
        rw [← hhx]
        simp only [decide_eq_true_eq, decide_eq_false_iff_not]
        omega
      clear hhx hc
      have H3 := Lib.hid hc3
      clear hc3
      go_wp2_with fail
      refine (has_any _ _ _ _ _ _ _ (by omega) hBox4.out.ints).mono ?_
      rw [Hx.out]
      rintro e' w5 ⟨rfl, hb⟩
      have hBox5 := Lib.hid (hBox4.out.keep hb)
      clear x0 x1 x2 hb hBox4 Hx
      rcases H3.out with hh | ⟨hh, h1⟩ | ⟨hh, h1, h2⟩
      all_goals
        clear H3
        rw [hh]
        go_wp2_with fail
        go_ret
        exact ⟨rfl, hBox5.out.2.2.2.2.2.2.2.1⟩
    · have q : (nw != 0) = true := by simpa using h0
      have q2 : (nw == 0) = false := by simpa using h0
      clear hc
      go_wp2_with fail
      go_ret
      exact ⟨rfl, hfin⟩

end Go.Proofs.Ytnimbbfblidahaa
