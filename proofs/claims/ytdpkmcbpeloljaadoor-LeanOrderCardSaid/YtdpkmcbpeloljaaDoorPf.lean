/- Walk of pouch.Put. -/
import Derived.Test.YtdpkmcbpeloljaaDoorPe
namespace Go.Proofs.YtdpkmcbpeloljaaDoor
open Go.RowKit

/-- What Put writes. -/
def pPut (x : PV) : List UInt8 := if pmay x = true ∧ Lib.indexByte (pput x) 58 ≤ 7 then pput x else []
theorem indexByte58 (s : ByteArray) (w : World) : Calls Tryd.prog 51 #[.string s, .int .u8 58] w fun e w' => e = .returned (.int .i64 (Lib.indexByte s.data.toList 58)) ∧ w = w' := by
  refine (Tryd.strings_IndexByte s 58 w).mono ?_
  rintro e w' ⟨rfl, rfl⟩
  exact ⟨rfl, rfl⟩
set_option maxRecDepth 100000 in
set_option maxHeartbeats 1600000 in
theorem Put_pv {w : World} {x : PV} {v : Value} (h : PAt w x v) (T : Tab w) (hlen : pmay x = true → (pput x).length ≤ 140737488355328) :
    Calls Tryd.prog 32 #[v] w fun e w' => e = .returned (.string ⟨(pPut x).toArray⟩) ∧ Below w.heap.size w w' := by
  obtain ⟨k, n, s, a, m, c, rfl⟩ := h.form
  have B1 : Hid (Below w.heap.size w (w.alloc (.cells #[.int .i64 k, .int .i64 n, .string s, .slice a m c] 59))) := Lib.hid (below_alloc (Below.refl _ _) _)
  have HM := Lib.hid (may_pv (h.keep B1.out))
  have HP := Lib.hid (put_pv h)
  have x0 : (w.alloc (.cells #[.int .i64 k, .int .i64 n, .string s, .slice a m c] 59)).cell? ⟨w.heap.size, 0, none⟩ = some (.int .i64 k) := by simp [go_sem]
  have x1 : (w.alloc (.cells #[.int .i64 k, .int .i64 n, .string s, .slice a m c] 59)).cell? ⟨w.heap.size, 1, none⟩ = some (.int .i64 n) := by simp [go_sem]
  have x2 : (w.alloc (.cells #[.int .i64 k, .int .i64 n, .string s, .slice a m c] 59)).cell? ⟨w.heap.size, 2, none⟩ = some (.string s) := by simp [go_sem]
  have x3 : (w.alloc (.cells #[.int .i64 k, .int .i64 n, .string s, .slice a m c] 59)).cell? ⟨w.heap.size, 3, none⟩ = some (.slice a m c) := by simp [go_sem]
  have X := Lib.hid (And.intro x0 (And.intro x1 (And.intro x2 x3)))
  clear x0 x1 x2 x3 h
  obtain ⟨q, hq⟩ : ∃ q, pmay x = q := ⟨_, rfl⟩
  have HQ := Lib.hid hq
  rw [hq] at HM hlen
  clear hq
  cases q
  · have HE := Lib.hid (show pPut x = [] by unfold pPut; rw [HQ.out, if_neg (by simp)])
    go_enter Tryd.func32, Tryd.ntmps32
    go_wp2_with (go_at_call 49; refine HM.out.mono ?_; rintro e' w1 ⟨rfl, hb1⟩; have B2 := Lib.hid (below_on B1.out hb1); clear hb1)
    go_ret
    rw [HE.out]
    exact ⟨rfl, B2.out⟩
  · have hl := hlen rfl
    obtain ⟨t, ht⟩ : ∃ t, pput x = t := ⟨_, rfl⟩
    rw [ht] at HP hl
    obtain ⟨i, hi⟩ : ∃ i, Lib.indexByte t 58 = i := ⟨_, rfl⟩
    have HI := Lib.hid hi
    have HE := Lib.hid (show pPut x = if i ≤ 7 then t else [] by unfold pPut; rw [HQ.out, ht, hi]; simp)
    clear hlen ht hi
    by_cases h7 : i ≤ 7
    · have h7' : decide ((7 : Int) < i) = false := decide_eq_false (by omega)
      rw [if_pos h7] at HE
      go_enter Tryd.func32, Tryd.ntmps32
      go_wp2_with (first | (go_at_call 49; refine HM.out.mono ?_; rintro e' w1 ⟨rfl, hb1⟩; have B2 := Lib.hid (below_on B1.out hb1); have y0 := cell_keep hb1 X.out.1; have y1 := cell_keep hb1 X.out.2.1; have y2 := cell_keep hb1 X.out.2.2.1; have y3 := cell_keep hb1 X.out.2.2.2; clear hb1) | (go_at_call 50; refine (HP.out _ B2.out (T.keep B2.out) hl).mono ?_; rintro e' w2 ⟨rfl, hb2⟩; have B3 := Lib.hid (below_on B2.out hb2); clear hb2) | (go_at_call 51; refine (indexByte58 _ _).mono ?_; rw [HI.out]; rintro e' w3 ⟨rfl, rfl⟩))
      go_ret
      rw [HE.out]
      exact ⟨rfl, B3.out⟩
    · have h7' : decide ((7 : Int) < i) = true := decide_eq_true (by omega)
      rw [if_neg h7] at HE
      go_enter Tryd.func32, Tryd.ntmps32
      go_wp2_with (first | (go_at_call 49; refine HM.out.mono ?_; rintro e' w1 ⟨rfl, hb1⟩; have B2 := Lib.hid (below_on B1.out hb1); have y0 := cell_keep hb1 X.out.1; have y1 := cell_keep hb1 X.out.2.1; have y2 := cell_keep hb1 X.out.2.2.1; have y3 := cell_keep hb1 X.out.2.2.2; clear hb1) | (go_at_call 50; refine (HP.out _ B2.out (T.keep B2.out) hl).mono ?_; rintro e' w2 ⟨rfl, hb2⟩; have B3 := Lib.hid (below_on B2.out hb2); clear hb2) | (go_at_call 51; refine (indexByte58 _ _).mono ?_; rw [HI.out]; rintro e' w3 ⟨rfl, rfl⟩))
      go_ret
      rw [HE.out]
      exact ⟨rfl, B3.out⟩
end Go.Proofs.YtdpkmcbpeloljaaDoor
