/- Both chests tell the same. -/
import Derived.Test.YtjblbjamceloaaaGreatDoorVm
namespace Go.Proofs.YtjblbjamceloaaaGreatDoor
open Go.RowKit

set_option maxRecDepth 100000
theorem row_name {w : World} {a : Option Addr} {L : List Rl} (h : RowAt w a ((L.map Prod.fst).map encStr)) {i : Nat} {x : Rl} (hi : L[i]? = some x) : ∃ q o, a = some ⟨q, o, none⟩ ∧ w.cell? ⟨q, o + i, none⟩ = some (.string (nmB x.1)) := by
  have hl := (List.getElem?_eq_some_iff.1 hi).1
  rcases h with h | ⟨q, o, rfl, hq, hc⟩
  · have : L = [] := by simpa using h
    subst this; simp at hl
  · exact ⟨q, o, rfl, hc i _ (by rw [List.getElem?_map, List.getElem?_map, hi]; rfl)⟩
set_option maxHeartbeats 12800000 in
theorem same_any {w0 w : World} {g b d : Nat} {v : Value} {z r : Int} {L : List Rl} (B : Both w0 w g b d v z r L) (hL : L.length < 700000) :
    Calls Tryz.prog 25 #[.pointer (some ⟨g, 0, none⟩), .pointer (some ⟨d, 0, none⟩)] w fun e w' => e = .returned (.bool true) ∧ Below w.heap.size w w' := by
  have HB := Lib.hid B
  have h0 := sumL_nonneg L
  have hz := B.sm
  have hr0 := B.ok.1
  have hrz := B.ok.2.1
  have HR : Hid (∀ W, DocAt W d v z L → Calls Tryz.prog 51 #[.pointer (some ⟨d, 0, none⟩)] W fun e w' => e = .returned (.int .i64 r) ∧ W = w') := Lib.hid (fun W h => by
    have := rroom_any h (by omega) (by omega) (by omega)
    rw [show z - sumL L = r by omega] at this
    exact this)
  obtain ⟨a, c, rfl⟩ := B.dc.rw.slice
  have HNm := Lib.hid B.nm
  clear B h0 hz hrz hr0
  have hrr : (r != r) = false := by simp
  go_enter Tryz.func25, Tryz.ntmps25
  go_wp2_with fail
  refine (names_S HB.out.ch (by omega)).mono ?_
  rintro e w1 ⟨an, cn, rfl, hrow, hb⟩
  have HRow := Lib.hid hrow
  have HBl := Lib.hid hb
  replace HB := Lib.hid (HB.out.low hb)
  have c1 := HB.out.dc.c1
  clear hrow hb
  go_wp2_with fail
  refine (room_any HB.out.ch.1).mono ?_
  rintro e w2 ⟨rfl, hb⟩
  replace HRow := Lib.hid (RowAt.keep HRow.out hb)
  replace HBl := Lib.hid (below_on HBl.out hb)
  replace HB := Lib.hid (HB.out.low hb)
  clear hb c1
  go_wp2_with fail
  refine (HR.out _ HB.out.dc).mono ?_
  rintro e w3 ⟨rfl, rfl⟩
  go_wp2_with fail
  go_loopw [6] (fun u6 wr => ∃ i : Nat, u6 = .int .i64 (i : Int) ∧ i ≤ L.length ∧ RowAt wr an ((L.map Prod.fst).map encStr) ∧ Both w0 wr g b d (.slice a L.length c) z r L ∧ Below w.heap.size w wr) (fun u6 _ => L.length + 1 - (intOf u6).toNat)
  case atStart => exact ⟨0, rfl, Nat.zero_le _, HRow.out, HB.out, HBl.out⟩
  case round =>
    obtain ⟨i, rfl, hi, hrow, hbo, hbe⟩ := hrel
    replace HRow := Lib.hid hrow
    replace HB := Lib.hid hbo
    replace HBl := Lib.hid hbe
    clear hrow hbo hbe
    by_cases hil : i < L.length
    · have e1 : decide ((i : Int) < (L.length : Int)) = true := decide_eq_true (by omega)
      obtain ⟨x, hx⟩ : ∃ x, L[i]? = some x := ⟨_, List.getElem?_eq_getElem hil⟩
      obtain ⟨qn, on, rfl, hcn⟩ := row_name HRow.out hx
      have hlk : lookL (nmB x.1).data.toList L = some x.2 := mem_lookL HB.out.ri (List.mem_of_getElem? hx)
      have hxn := HNm.out x (List.mem_of_getElem? hx)
      have hns : (nmB x.1).size ≤ 9223372036854775807 := by rw [size_list, nmB_list]; omega
      have HRd := Lib.hid (read_S HB.out.ch (nmB x.1) hns (s := x.2.s) (t := true) (by rw [atL_some hlk]) (by rw [hlk]; rfl))
      have HPr := Lib.hid (fun W (h : ChS w0 W g b r L) => pressed_S h (nmB x.1) hns (p := x.2.p) (by rw [atL_some hlk]))
      have HX := Lib.hid hx
      have n1 : ((nmB x.1).toList != (nmB x.1).toList) = false := by simp [bne]
      have n2 : (x.2.s.toList != x.2.s.toList) = false := by simp [bne]
      have n3 : (x.2.p != x.2.p) = false := by simp
      clear hx hlk hxn hns
      go_wp2_with fail
      refine HRd.out.mono ?_
      rintro e w4 ⟨rfl, hb⟩
      replace HRow := Lib.hid (RowAt.keep HRow.out hb)
      replace HB := Lib.hid (HB.out.low hb)
      replace HBl := Lib.hid (below_on HBl.out hb)
      replace hcn := cell_keep hb hcn
      obtain ⟨q, cap, hsl, g0, g1, g2, g3, -⟩ := HB.out.dc.rw.get HX.out
      simp only [Value.slice.injEq] at hsl
      obtain ⟨rfl, -, rfl⟩ := hsl
      have c1 := HB.out.dc.c1
      clear hb HRd
      go_wp2_with fail
      go_cut [86] (fun u wx => u = .bool false ∧ RowAt wx (some ⟨qn, on, none⟩) ((L.map Prod.fst).map encStr) ∧ Both w0 wx g b d (.slice (some ⟨q, 0, none⟩) L.length c) z r L ∧ Below w.heap.size w wx)
      case first =>
        go_region_held3 (fun W => W.cell? ⟨d, 1, none⟩ = some (.slice (some ⟨q, 0, none⟩) L.length c) ∧ W.cell? ⟨qn, on + i, none⟩ = some (.string (nmB x.1)) ∧ W.cell? ⟨q, i * 4, none⟩ = some (.string (nmB x.1)) ∧ W.cell? ⟨q, i * 4 + 1, none⟩ = some (.string x.2.s) ∧ W.cell? ⟨q, i * 4 + 2, none⟩ = some (.int .i64 x.2.p) ∧ Below w4.heap.size w4 W)
          (first | exact ⟨c1, hcn, g0, g1, g2, (Below.refl _ _).drew⟩ | (obtain ⟨s1, s2, s3, s4, s5, s6⟩ := ‹_ ∧ _ ∧ _ ∧ _ ∧ _ ∧ _›; exact ⟨cell_keep hbp s1, cell_keep hbp s2, cell_keep hbp s3, cell_keep hbp s4, cell_keep hbp s5, below_on s6 hbp⟩))
          (first | (go_at_call 44; refine (HPr.out _ (HB.out.ch.low (‹_ ∧ _ ∧ _ ∧ _ ∧ _ ∧ _›).2.2.2.2.2)).mono ?_; rintro e' w5 ⟨rfl, hbp⟩))
        all_goals
          have HW := Lib.hid ((‹_ ∧ _ ∧ _ ∧ _ ∧ _ ∧ _›).2.2.2.2.2)
          go_wp2_with fail
          go_meet
          exact ⟨rfl, RowAt.keep HRow.out HW.out, HB.out.low HW.out, below_on HBl.out HW.out⟩
      case rest =>
        obtain ⟨rfl, hrow, hbo, hbe⟩ := hcut
        have HR1 := Lib.hid hrow
        have HR2 := Lib.hid hbo
        have HR3 := Lib.hid hbe
        clear hrow hbo hbe
        go_wp2_with fail
        exact ⟨⟨i + 1, by go_num, by omega, HR1.out, HR2.out, HR3.out⟩, by simp [intOf]; omega⟩
    · have e1 : decide ((i : Int) < (L.length : Int)) = false := decide_eq_false (by omega)
      go_wp2_with fail
      go_ret
      exact ⟨rfl, HBl.out⟩
end Go.Proofs.YtjblbjamceloaaaGreatDoor
