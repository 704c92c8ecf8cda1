/- RosterAll: the walk. -/
import Derived.Test.YtnimbbfblidahaaRoM
namespace Go.Proofs.Ytnimbbfblidahaa
open Go.RowKit

theorem keep5 {p0 p1 p2 p3 p4 : Addr} {v0 v1 v2 v3 v4 : Value} {B : Nat} {w : World} {e nw : Int} {a : Option Addr} {c : Nat} {ys : List Int} {W W' : World} (hb : Below W.heap.size W W')
    (s : W.cell? p0 = some v0 ∧ W.cell? p1 = some v1 ∧ W.cell? p2 = some v2 ∧ W.cell? p3 = some v3 ∧ W.cell? p4 = some v4 ∧ BoxR B w e nw a c ys W) :
    W'.cell? p0 = some v0 ∧ W'.cell? p1 = some v1 ∧ W'.cell? p2 = some v2 ∧ W'.cell? p3 = some v3 ∧ W'.cell? p4 = some v4 ∧ BoxR B w e nw a c ys W' :=
  ⟨cell_keep hb s.1, cell_keep hb s.2.1, cell_keep hb s.2.2.1, cell_keep hb s.2.2.2.1, cell_keep hb s.2.2.2.2.1, s.2.2.2.2.2.keep hb⟩
def AllG (B BA BB BC BD : Nat) (w : World) (e nw ea na ed nd : Int) (a2 a3 a4 a5 a6 : Option Addr) (c2 c3 c4 c5 c6 : Nat) (ys za zd : List Int) (W : World) : Prop :=
  BoxR B w e nw a2 c2 ys W ∧ CellR BA ea a3 za c3 na W ∧ CellR BB ea a4 za c4 na W ∧ CellR BC ed a5 zd c5 nd W ∧ CellR BD ed a6 zd c6 nd W
theorem AllG.keep {B BA BB BC BD : Nat} {w : World} {e nw ea na ed nd : Int} {a2 a3 a4 a5 a6 : Option Addr} {c2 c3 c4 c5 c6 : Nat} {ys za zd : List Int} {W W' : World}
    (h : AllG B BA BB BC BD w e nw ea na ed nd a2 a3 a4 a5 a6 c2 c3 c4 c5 c6 ys za zd W) (hb : Below W.heap.size W W') : AllG B BA BB BC BD w e nw ea na ed nd a2 a3 a4 a5 a6 c2 c3 c4 c5 c6 ys za zd W' := by
  obtain ⟨h1, h2, h3, h4, h5⟩ := h
  exact ⟨h1.keep hb, h2.keep hb, h3.keep hb, h4.keep hb, h5.keep hb⟩
theorem AllG.all {B BA BB BC BD : Nat} {w : World} {e nw ea na ed nd : Int} {a2 a3 a4 a5 a6 : Option Addr} {c2 c3 c4 c5 c6 : Nat} {ys za zd : List Int} {W : World}
    (h : AllG B BA BB BC BD w e nw ea na ed nd a2 a3 a4 a5 a6 c2 c3 c4 c5 c6 ys za zd W) :
    W.cell? ⟨B, 0, none⟩ = some (.int .i64 e) ∧ W.cell? ⟨B, 1, none⟩ = some (.slice a2 ys.length c2) ∧ W.cell? ⟨B, 2, none⟩ = some (.int .i64 nw) ∧ W.cell? ⟨BA, 0, none⟩ = some (.int .i64 ea) ∧ W.cell? ⟨BA, 1, none⟩ = some (.slice a3 za.length c3) ∧ W.cell? ⟨BA, 2, none⟩ = some (.int .i64 na) ∧ W.cell? ⟨BB, 0, none⟩ = some (.int .i64 ea) ∧ W.cell? ⟨BB, 1, none⟩ = some (.slice a4 za.length c4) ∧ W.cell? ⟨BB, 2, none⟩ = some (.int .i64 na) ∧ W.cell? ⟨BC, 0, none⟩ = some (.int .i64 ed) ∧ W.cell? ⟨BC, 1, none⟩ = some (.slice a5 zd.length c5) ∧ W.cell? ⟨BC, 2, none⟩ = some (.int .i64 nd) ∧ W.cell? ⟨BD, 0, none⟩ = some (.int .i64 ed) ∧ W.cell? ⟨BD, 1, none⟩ = some (.slice a6 zd.length c6) ∧ W.cell? ⟨BD, 2, none⟩ = some (.int .i64 nd) ∧ AllG B BA BB BC BD w e nw ea na ed nd a2 a3 a4 a5 a6 c2 c3 c4 c5 c6 ys za zd W := by
  obtain ⟨⟨p1, p2, p3, p4⟩, ⟨q1, q2, q3, q4⟩, ⟨r1, r2, r3, r4⟩, ⟨s1, s2, s3, s4⟩, ⟨t1, t2, t3, t4⟩⟩ := h
  exact ⟨p1, p2, p3, q1, q2, q3, r1, r2, r3, s1, s2, s3, t1, t2, t3, ⟨p1, p2, p3, p4⟩, ⟨q1, q2, q3, q4⟩, ⟨r1, r2, r3, r4⟩, ⟨s1, s2, s3, s4⟩, ⟨t1, t2, t3, t4⟩⟩

set_option maxHeartbeats 6400000 in
theorem all_walk (e nw n : Int) (a : Option Addr) (c : Nat) (zs : List Int) (w : World) (hz : IntsAt w a zs) (hl : zs.length ≤ 9223372036854775807) (hcap : zs.length ≤ c) (he : -9223372036854775808 ≤ e ∧ e ≤ 9223372036854775807) :
    Calls Try.prog 7 #[rosV e a zs c nw, .int .i64 n] w fun e' w' => e' = .returned (.bool true) ∧ Below w.heap.size w w' := by
  obtain ⟨ys, hys'⟩ : ∃ ys, zs.take 7 = ys := ⟨_, rfl⟩
  have hy7 : ys.length ≤ 7 := by rw [← hys']; simp; omega
  have hys := Lib.hid hys'
  clear hys'
  go_enter Try.func7, Try.ntmps7
  go_wp2_with fail
  refine (begun_any _).mono ?_
  rintro e' w1 ⟨rfl, hb⟩
  have x0 := cell_keep hb (a := ⟨w.heap.size, 0, none⟩) (v := .int .i64 e) (by simp [go_sem])
  have x1 := cell_keep hb (a := ⟨w.heap.size, 1, none⟩) (v := .slice a zs.length c) (by simp [go_sem])
  have x2 := cell_keep hb (a := ⟨w.heap.size, 2, none⟩) (v := .int .i64 nw) (by simp [go_sem])
  have f0 := frozen_keep hb (a := ⟨w.heap.size, 0, none⟩) (v := .int .i64 e) (by simp [go_sem]) (by simp [go_sem])
  have f1 := frozen_keep hb (a := ⟨w.heap.size, 1, none⟩) (v := .slice a zs.length c) (by simp [go_sem]) (by simp [go_sem])
  have f2 := frozen_keep hb (a := ⟨w.heap.size, 2, none⟩) (v := .int .i64 nw) (by simp [go_sem]) (by simp [go_sem])
  have hz1 := Lib.hid ((hz.alloc _).keep hb)
  have HL : Hid (Below w.heap.size w w1) := below_on (below_alloc (Below.refl _ _) _) hb
  clear hb hz
  go_wp2_with fail
  refine (roster_ys _ _ _ _ _ ys _ hz1.out hl hcap hys.out).mono ?_
  rintro e' w2 ⟨v2, rfl, hown, hb⟩
  obtain ⟨a2, c2, rfl, _, hc2⟩ := own_cap hown
  have z1 : w.heap.size < w1.heap.size := cell_old x0
  replace f0 := frozen_keep hb x0 f0
  replace f1 := frozen_keep hb x1 f1
  replace f2 := frozen_keep hb x2 f2
  replace x0 := cell_keep hb x0
  replace x1 := cell_keep hb x1
  replace x2 := cell_keep hb x2
  have hBox := Lib.hid (BoxR.make (e := e) (nw := nw) _ _ _ (Nat.le_refl w.heap.size) x0 x1 x2 f0 f1 f2 hown z1 (below_on HL.out hb) hc2)
  have qz : w.heap.size < w2.heap.size := cell_old x0
  clear hown hb HL hz1 z1 hc2
  by_cases hmax : e = 9223372036854775807
  · subst hmax
    have Hm := Lib.hid (show mayB 9223372036854775807 ys nw = false from by unfold mayB epB; simp)
    go_wp2_with fail
    clear x0 x1 x2 f0 f1 f2
    generalize ((w2.setCell ⟨w.heap.size, 0, none⟩ (.int .i64 9223372036854775807)).setCell ⟨w.heap.size, 1, none⟩ (.slice a2 ys.length c2)).setCell ⟨w.heap.size, 2, none⟩ (.int .i64 nw) = W at hBox ⊢
    go_wp2_with (go_at_call 12; refine (may_any _ _ _ _ _ _ (by omega) hBox.out.ints).mono ?_; rw [Hm.out]; rintro e' w3 ⟨rfl, hb⟩; have HB := Lib.hid (hBox.out.keep hb))
    go_ret
    exact ⟨rfl, HB.out.2.2.2.2.2.2.2.1⟩
  have hmax' : (e == 9223372036854775807) = false := by simpa using hmax
  have he' : -9223372036854775808 ≤ e ∧ e < 9223372036854775807 := by omega
  have HE := Lib.hid he'
  clear hmax he he'
  go_wp2_with fail
  clear x0 x1 x2 f0 f1 f2
  generalize ((w2.setCell ⟨w.heap.size, 0, none⟩ (.int .i64 e)).setCell ⟨w.heap.size, 1, none⟩ (.slice a2 ys.length c2)).setCell ⟨w.heap.size, 2, none⟩ (.int .i64 nw) = W at hBox ⊢
  obtain ⟨⟨ea, za, na, oka⟩, hra'⟩ : ∃ r, addF e ys nw n = r := ⟨_, rfl⟩
  obtain ⟨⟨ed, zd, nd, okd⟩, hrd'⟩ : ∃ r, dropF e ys nw n = r := ⟨_, rfl⟩
  have hla : za.length ≤ 8 := by have := addF_len (e := e) (nw := nw) (n := n) hy7; rw [hra'] at this; exact this
  have hld : zd.length ≤ 8 := by have := dropF_len (e := e) (nw := nw) (n := n) hy7; rw [hrd'] at this; exact this
  have hra := Lib.hid hra'
  have hrd := Lib.hid hrd'
  clear hra' hrd'
  refine (add_F _ _ _ _ _ _ _ hBox.out.ints hy7).mono ?_
  rw [hra.out]
  rintro e' w3 ⟨a3, c3, rfl, ho, hb⟩
  have hA := Lib.hid (CellR.new (e := ea) (c := c3) (nw := na) (own_ints ho) 24)
  have hBox' := Lib.hid ((hBox.out.keep hb).keep (below_alloc (Below.refl _ _) _ : Below w3.heap.size w3 (w3.alloc (.cells #[.int .i64 ea, .slice a3 za.length c3, .int .i64 na] 24))))
  obtain ⟨x0, x1, x2, -⟩ := hBox'.out
  clear ho hb hBox
  go_wp2_with fail
  refine (addNode_F _ _ _ _ _ _ _ hBox'.out.ints hy7 HE.out).mono ?_
  rw [hra.out]
  rintro e' w4 ⟨a4, c4, rfl, ho, hb⟩
  have hB := Lib.hid (CellR.new (e := ea) (c := c4) (nw := na) (own_ints ho) 24)
  have bal : Below w4.heap.size w4 (w4.alloc (.cells #[.int .i64 ea, .slice a4 za.length c4, .int .i64 na] 24)) := below_alloc (Below.refl _ _) _
  have hBox4 := Lib.hid ((hBox'.out.keep hb).keep bal)
  replace hA := Lib.hid ((hA.out.keep hb).keep bal)
  clear x0 x1 x2 bal
  obtain ⟨x0, x1, x2, -⟩ := hBox4.out
  clear ho hb hBox'
  go_wp2_with fail
  refine (drop_F _ _ _ _ _ _ _ hBox4.out.ints hy7).mono ?_
  rw [hrd.out]
  rintro e' w5 ⟨a5, c5, rfl, ho, hb⟩
  have hC := Lib.hid (CellR.new (e := ed) (c := c5) (nw := nd) (own_ints ho) 24)
  have bal : Below w5.heap.size w5 (w5.alloc (.cells #[.int .i64 ed, .slice a5 zd.length c5, .int .i64 nd] 24)) := below_alloc (Below.refl _ _) _
  have hBox5 := Lib.hid ((hBox4.out.keep hb).keep bal)
  replace hA := Lib.hid ((hA.out.keep hb).keep bal)
  replace hB := Lib.hid ((hB.out.keep hb).keep bal)
  clear x0 x1 x2 bal
  obtain ⟨x0, x1, x2, -⟩ := hBox5.out
  clear ho hb hBox4
  go_wp2_with fail
  refine (dropNode_F _ _ _ _ _ _ _ hBox5.out.ints hy7 hBox5.out.2.2.2.2.2.2.2.2 HE.out).mono ?_
  rw [hrd.out]
  rintro e' w6 ⟨a6, c6, rfl, ho, hb⟩
  have hD := Lib.hid (CellR.new (e := ed) (c := c6) (nw := nd) (own_ints ho) 24)
  have bal : Below w6.heap.size w6 (w6.alloc (.cells #[.int .i64 ed, .slice a6 zd.length c6, .int .i64 nd] 24)) := below_alloc (Below.refl _ _) _
  have hBox6 := Lib.hid ((hBox5.out.keep hb).keep bal)
  replace hA := Lib.hid ((hA.out.keep hb).keep bal)
  replace hB := Lib.hid ((hB.out.keep hb).keep bal)
  replace hC := Lib.hid ((hC.out.keep hb).keep bal)
  clear x0 x1 x2 bal
  obtain ⟨x0, x1, x2, -⟩ := hBox6.out
  clear ho hb hBox5
  go_wp2_with fail
  have hG : Hid (AllG w.heap.size w3.heap.size w4.heap.size w5.heap.size w6.heap.size w e nw ea na ed nd a2 a3 a4 a5 a6 c2 c3 c4 c5 c6 ys za zd (w6.alloc (.cells #[.int .i64 ed, .slice a6 zd.length c6, .int .i64 nd] 24))) := Lib.hid ⟨hBox6.out, hA.out, hB.out, hC.out, hD.out⟩
  clear x0 x1 x2 hBox6 hA hB hC hD
  generalize (w6.alloc (.cells #[.int .i64 ed, .slice a6 zd.length c6, .int .i64 nd] 24)) = V at hG ⊢
  obtain ⟨mb, hmb⟩ : ∃ mb, mayB e ys nw = mb := ⟨_, rfl⟩
  obtain ⟨k, hk⟩ : ∃ k, idx ys n = k := ⟨_, rfl⟩
  have Hmb := Lib.hid hmb
  have Hk := Lib.hid hk
  clear hmb hk
  have g0 := hG.out.all
  go_region_held3 (fun V => V.cell? ⟨w.heap.size, 0, none⟩ = some (.int .i64 e) ∧ V.cell? ⟨w.heap.size, 1, none⟩ = some (.slice a2 ys.length c2) ∧ V.cell? ⟨w.heap.size, 2, none⟩ = some (.int .i64 nw) ∧ V.cell? ⟨w3.heap.size, 0, none⟩ = some (.int .i64 ea) ∧ V.cell? ⟨w3.heap.size, 1, none⟩ = some (.slice a3 za.length c3) ∧ V.cell? ⟨w3.heap.size, 2, none⟩ = some (.int .i64 na) ∧ V.cell? ⟨w4.heap.size, 0, none⟩ = some (.int .i64 ea) ∧ V.cell? ⟨w4.heap.size, 1, none⟩ = some (.slice a4 za.length c4) ∧ V.cell? ⟨w4.heap.size, 2, none⟩ = some (.int .i64 na) ∧ V.cell? ⟨w5.heap.size, 0, none⟩ = some (.int .i64 ed) ∧ V.cell? ⟨w5.heap.size, 1, none⟩ = some (.slice a5 zd.length c5) ∧ V.cell? ⟨w5.heap.size, 2, none⟩ = some (.int .i64 nd) ∧ V.cell? ⟨w6.heap.size, 0, none⟩ = some (.int .i64 ed) ∧ V.cell? ⟨w6.heap.size, 1, none⟩ = some (.slice a6 zd.length c6) ∧ V.cell? ⟨w6.heap.size, 2, none⟩ = some (.int .i64 nd) ∧ AllG w.heap.size w3.heap.size w4.heap.size w5.heap.size w6.heap.size w e nw ea na ed nd a2 a3 a4 a5 a6 c2 c3 c4 c5 c6 ys za zd V)
    (first | exact AllG.all (hG.out.keep (Below.refl _ _).drew) | (obtain ⟨-, -, -, -, -, -, -, -, -, -, -, -, -, -, -, s6⟩ := (by with_reducible assumption : _ ∧ _ ∧ _ ∧ _ ∧ _ ∧ _ ∧ _ ∧ _ ∧ _ ∧ _ ∧ _ ∧ _ ∧ _ ∧ _ ∧ _ ∧ AllG _ _ _ _ _ _ _ _ _ _ _ _ _ _ _ _ _ _ _ _ _ _ _ _ _ _ ); exact (s6.keep hb).all))
    ((have s6 := ((by with_reducible assumption : _ ∧ _ ∧ _ ∧ _ ∧ _ ∧ _ ∧ _ ∧ _ ∧ _ ∧ _ ∧ _ ∧ _ ∧ _ ∧ _ ∧ _ ∧ AllG _ _ _ _ _ _ _ _ _ _ _ _ _ _ _ _ _ _ _ _ _ _ _ _ _ _ )).2.2.2.2.2.2.2.2.2.2.2.2.2.2.2; (first | (go_at_call 12; refine (may_any _ _ _ _ _ _ (by omega) s6.1.ints).mono ?_; rw [Hmb.out]) | (go_at_call 11; refine (mayRoster_any _ _ _ _ _ _ (by omega) s6.1.ints).mono ?_; rw [Hmb.out]) | (go_at_call 21; refine (has_any _ _ _ _ _ _ _ (by omega) s6.1.ints).mono ?_; rw [Hk.out]) | (go_at_call 19; refine (spot_any _ _ _ _ _ _ _ (by omega) s6.1.ints).mono ?_; rw [Hk.out]) | (go_at_call 20; refine (eqRoster_any _ _ _ _ _ _ _ _ _ _ _ (by omega) (by first | exact s6.2.1.2.2.2 | exact s6.2.2.1.2.2.2 | exact s6.2.2.2.1.2.2.2 | exact s6.2.2.2.2.2.2.2) (by first | exact s6.2.1.2.2.2 | exact s6.2.2.1.2.2.2 | exact s6.2.2.2.1.2.2.2 | exact s6.2.2.2.2.2.2.2)).mono ?_; rw [eqB_self]) | (go_at_call 24; refine (eq_any _ _ _ _ _ _ _ _ _ _ _ (by omega) s6.1.ints s6.1.ints).mono ?_; rw [eqB_self])); clear s6; rintro e' w' ⟨rfl, hb⟩))
  have s6 := (by with_reducible assumption : _ ∧ _ ∧ _ ∧ _ ∧ _ ∧ _ ∧ _ ∧ _ ∧ _ ∧ _ ∧ _ ∧ _ ∧ _ ∧ _ ∧ _ ∧ AllG _ _ _ _ _ _ _ _ _ _ _ _ _ _ _ _ _ _ _ _ _ _ _ _ _ _ ).2.2.2.2.2.2.2.2.2.2.2.2.2.2.2
  have hBx := Lib.hid s6.1
  obtain ⟨x0, x1, x2, -⟩ := s6.1
  clear g0 hG s6
  rename_i hHeld
  clear hHeld
  by_cases hm : mb = false
  · rw [hm] at Hmb
    clear hm
    go_wp2_with (go_at_call 11; refine (mayRoster_any _ _ _ _ _ _ (by omega) hBx.out.ints).mono ?_; rw [Hmb.out]; rintro e' w' ⟨rfl, hb⟩; have HB := Lib.hid (hBx.out.keep hb))
    go_ret
    exact ⟨rfl, HB.out.2.2.2.2.2.2.2.1⟩
  have hm' : mb = true := by simpa using hm
  rw [hm'] at Hmb
  clear hm hm'
  obtain ⟨_, hl1, hl5⟩ := mayB_mayL Hmb.out
  go_wp2_with (go_at_call 11; refine (mayRoster_any _ _ _ _ _ _ (by omega) hBx.out.ints).mono ?_; rw [Hmb.out]; rintro e' wr ⟨rfl, hb⟩; have HB := Lib.hid (hBx.out.keep hb); clear x0 x1 x2 hBx hb)
  have b0 := HB.out
  obtain ⟨b, off, hab, -, hc⟩ := b0.ints.form hl1
  subst hab
  have d0 : wr.cell? ⟨b, off, none⟩ = some (.int .i64 (nthI ys 0)) := by simpa using hc 0 hl1
  have d1 := hc (ys.length - 1) (by omega)
  have E0 := Lib.hid (show atI ys 0 = nthI ys 0 from atI_in (k := 0) hl1)
  have E1 := Lib.hid (atI_last hl1)
  have E2 := Lib.hid (side_next ys n)
  have E3 := Lib.hid (side_ahead ys n)
  have q0 : IntKind.i64.wrap ((ys.length : Int) - 1) = (ys.length : Int) - 1 := IntWalk.i64_in _ (by omega)
  have q1 : ((ys.length : Int) - 1).toNat = ys.length - 1 := by omega
  have q2 : (0 : Int) ≤ (ys.length : Int) - 1 := by omega
  have q3 : (ys.length : Int) - 1 < (ys.length : Int) := by omega
  have q4 : (1 : Int) ≤ (ys.length : Int) := by omega
  have q5 : (0 : Int) < (ys.length : Int) := by omega
  have q6 : 0 < ys.length := by omega
  have q7 : ys ≠ [] := by rintro rfl; simp at hl1
  clear hc
  go_region_held3 (fun w' => w'.cell? ⟨w.heap.size, 0, none⟩ = some (.int .i64 e) ∧ w'.cell? ⟨w.heap.size, 1, none⟩ = some (.slice (some ⟨b, off, none⟩) ys.length c2) ∧ w'.cell? ⟨w.heap.size, 2, none⟩ = some (.int .i64 nw) ∧ w'.cell? ⟨b, off, none⟩ = some (.int .i64 (nthI ys 0)) ∧ w'.cell? ⟨b, off + (ys.length - 1), none⟩ = some (.int .i64 (nthI ys (ys.length - 1))) ∧ BoxR w.heap.size w e nw (some ⟨b, off, none⟩) c2 ys w')
    (first | exact keep5 (Below.refl _ _).drew ⟨b0.1, b0.2.1, b0.2.2.1, d0, d1, b0⟩ | exact keep5 hb (by with_reducible assumption))
    ((have s6 := ((by with_reducible assumption : _ ∧ _ ∧ _ ∧ _ ∧ _ ∧ BoxR _ _ _ _ _ _ _ _)).2.2.2.2.2; (first | (go_at_call 13; refine (head_any _ _ _ _ _ _ (by omega) s6.ints).mono ?_; rw [E0.out]) | (go_at_call 16; refine (tail_any _ _ _ _ _ _ (by omega) s6.ints).mono ?_; rw [E1.out]) | (go_at_call 15; refine (next_any _ _ _ _ _ _ _ (by omega) s6.ints).mono ?_) | (go_at_call 14; refine (ahead_any _ _ _ _ _ _ _ (by omega) s6.ints).mono ?_) | (go_at_call 25; refine (side_any _ _ _ _ _ _ _ _ (by omega) (by omega) s6.ints).mono ?_; first | rw [E2.out] | rw [E3.out])); clear s6; rintro e' w' ⟨rfl, hb⟩))
  have s6 := (by with_reducible assumption : _ ∧ _ ∧ _ ∧ _ ∧ _ ∧ BoxR _ _ _ _ _ _ _ _).2.2.2.2.2
  go_wp2_with fail
  go_ret
  exact ⟨rfl, s6.2.2.2.2.2.2.2.1⟩

end Go.Proofs.Ytnimbbfblidahaa
