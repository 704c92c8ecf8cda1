/- PouchDeep: the walk. -/
import Derived.Test.YtchfphhelafbbaaDoorLo
namespace Go.Proofs.YtchfphhelafbbaaDoor
open Go.RowKit

theorem nest_len : ∀ n : Fin 10, (pput (nest n.val)).length ≤ 140737488355328 := by decide +kernel
/-- The box of the deep value. -/
def DvS (w : World) (B k : Nat) (k1 n1 : Int) (s1 : ByteArray) (a1 : Option Addr) (m1 c1 : Nat) (wr : World) : Prop :=
  Box4 B (.int .i64 k1) (.int .i64 n1) (.string s1) (.slice a1 m1 c1) wr ∧ PAtO (fun b => B + 1 ≤ b) wr (nest k) (.agg #[.int .i64 k1, .int .i64 n1, .string s1, .slice a1 m1 c1]) ∧ B < wr.heap.size ∧ w.heap.size ≤ B ∧ Below w.heap.size w wr
theorem DvS.step {w : World} {B k : Nat} {k1 n1 : Int} {s1 : ByteArray} {a1 : Option Addr} {m1 c1 : Nat} {wr : World} (h : DvS w B k k1 n1 s1 a1 m1 c1 wr) :
    DvS w B (k + 1) 3 0 ⟨#[]⟩ (some ⟨wr.heap.size, 0, none⟩) 1 1 (((((wr.alloc (.cells #[.int .i64 k1, .int .i64 n1, .string s1, .slice a1 m1 c1] 49)).setCell ⟨B, 0, none⟩ (.int .i64 3)).setCell ⟨B, 1, none⟩ (.int .i64 0)).setCell ⟨B, 2, none⟩ (.string ⟨#[]⟩)).setCell ⟨B, 3, none⟩ (.slice (some ⟨wr.heap.size, 0, none⟩) 1 1)) := by
  obtain ⟨h1, h2, h3, h4, h5⟩ := h
  have hal : Below wr.heap.size wr (wr.alloc (.cells #[.int .i64 k1, .int .i64 n1, .string s1, .slice a1 m1 c1] 49)) := below_alloc (Below.refl _ _) _
  have hne : wr.heap.size ≠ B := by omega
  have hN := Box4.new wr (.int .i64 k1) (.int .i64 n1) (.string s1) (.slice a1 m1 c1) 49
  refine ⟨(h1.keep hal).set _ _ _ _, ?_, by simp; omega, h4, below_set4 (below_alloc h5 _) h4 _ _ _ _⟩
  have mv : PAtO (fun b => B + 1 ≤ b) (((((wr.alloc (.cells #[.int .i64 k1, .int .i64 n1, .string s1, .slice a1 m1 c1] 49)).setCell ⟨B, 0, none⟩ (.int .i64 3)).setCell ⟨B, 1, none⟩ (.int .i64 0)).setCell ⟨B, 2, none⟩ (.string ⟨#[]⟩)).setCell ⟨B, 3, none⟩ (.slice (some ⟨wr.heap.size, 0, none⟩) 1 1)) (nest k) (.agg #[.int .i64 k1, .int .i64 n1, .string s1, .slice a1 m1 c1]) :=
    (h2.keep hal).move (by simp) fun b _ hP => ⟨hP, fun i => set4_other (by omega) i⟩
  refine .mk 3 0 ⟨#[]⟩ [nest k] _ 1 (fun _ => .agg #[.int .i64 k1, .int .i64 n1, .string s1, .slice a1 m1 c1]) (by decide) (by decide) (by decide) (by simp) (Or.inr ⟨wr.heap.size, 0, rfl, by simp, by omega, fun j hj => ?_⟩) (fun j x hx => ?_)
  · obtain rfl : j = 0 := by simp at hj; omega
    obtain ⟨⟨y0, y1, y2, y3⟩, -⟩ := hN.set' (.int .i64 3) (.int .i64 0) (.string ⟨#[]⟩) (.slice (some ⟨wr.heap.size, 0, none⟩) 1 1) hne
    exact ⟨_, _, _, _, rfl, y0, y1, y2, y3⟩
  · rcases j with _ | j
    · simp at hx; subst hx; exact mv
    · simp at hx
def numVals (n : Nat) : List Value := (List.range n).map fun (i : Nat) => Value.agg #[.int .i64 1, .int .i64 (i : Int), .string ⟨#[]⟩, .slice none 0 0]
theorem numVals_succ (n : Nat) : numVals (n + 1) = numVals n ++ [Value.agg #[.int .i64 1, .int .i64 (n : Int), .string ⟨#[]⟩, .slice none 0 0]] := by unfold numVals; rw [List.range_succ, List.map_append]; rfl
theorem numVals_len (n : Nat) : (numVals n).length = n := by unfold numVals; simp
/-- The box of the long value. -/
def DwS (B n : Nat) (va : Value) (W0 wr : World) : Prop := OwnV wr (B + 1) va (numVals n) ∧ Box4 B (.int .i64 3) (.int .i64 0) (.string ⟨#[]⟩) va wr ∧ Below B W0 wr
theorem DwS.keep {B n : Nat} {va : Value} {W0 wr wr' : World} (h : DwS B n va W0 wr) (hb : Below wr.heap.size wr wr') : DwS B n va W0 wr' := by
  have := cell_old h.2.1.1.1
  exact ⟨⟨ownsRow_below h.1.1 hb, h.1.2⟩, h.2.1.keep hb, h.2.2.trans (hb.mono (by simp at this; omega))⟩
theorem DwS.push {B n : Nat} {va v' : Value} {W0 W3 w' : World} (h : DwS B n va W0 W3)
    (own : w'.ownsRow (B + 1) 49 4 v' ((numVals n).length + 1) (cells4 (numVals n) ++ [.int .i64 1, .int .i64 (n : Int), .string ⟨#[]⟩, .slice none 0 0])) (G : Grew (B + 1) W3 w' va v') :
    DwS B (n + 1) v' W0 (w'.setCell ⟨B, 3, none⟩ v') := by
  obtain ⟨h1, h2, h3⟩ := h
  have hF : Far v' B := (far_own own).2 _ (by omega)
  refine ⟨⟨?_, ?_⟩, (h2.belowB G.1 (by omega)).last _, (h3.trans (G.1.mono (by omega))).setCell (p := ⟨B, 3, none⟩) (Nat.le_refl _) _⟩
  · have := own_set_far own hF 3 v'
    rw [numVals_succ, cells4_append, cells4_cons, List.length_append]
    exact this
  · intro u hu
    rw [numVals_succ] at hu
    rcases List.mem_append.1 hu with hu | hu
    · exact h1.2 u hu
    · rw [List.mem_singleton.1 hu]; exact ⟨_, _, _, _, rfl⟩
theorem DwS.value {B n : Nat} {va : Value} {W0 wr : World} (h : DwS B n va W0 wr) (hn : n ≤ 9223372036854775807) : ∃ a c, va = .slice a n c ∧ PAtO (fun _ => True) wr (.mk 3 0 ⟨#[]⟩ (nums n)) (.agg #[.int .i64 3, .int .i64 0, .string ⟨#[]⟩, .slice a n c]) := by
  obtain ⟨a, c, e, hr⟩ := h.1.row (P := fun _ => True) (fun _ _ => trivial)
  rw [numVals_len] at e hr
  refine ⟨a, c, e, ?_⟩
  have e2 : (nums n).length = n := nums_len n
  have := PAtO.mk (P := fun _ => True) (w := wr) 3 0 ⟨#[]⟩ (nums n) a c (fun j => (numVals n).getD j undef) (by decide) (by decide) (by decide) (by rw [e2]; exact hn) (by rw [e2]; exact hr) (fun j x hx => by
    have hj : j < n := by have := (List.getElem?_eq_some_iff.1 hx).1; rwa [e2] at this
    have e3 : x = .mk 1 (j : Int) ⟨#[]⟩ [] := by
      unfold nums at hx
      rw [List.getElem?_map, List.getElem?_range hj] at hx
      exact (Option.some.inj hx).symm
    have e4 : (numVals n).getD j undef = .agg #[.int .i64 1, .int .i64 (j : Int), .string ⟨#[]⟩, .slice none 0 0] := by
      unfold numVals
      rw [List.getD, List.getElem?_map, List.getElem?_range hj]
      rfl
    rw [e3, e4]
    exact flat_atO _ _ 1 (j : Int) ⟨#[]⟩ (by decide) (by omega) (by decide))
  rwa [e2] at this
set_option maxRecDepth 100000 in
set_option maxHeartbeats 6400000 in
theorem pouchDeep_a (d n : Int) (h0 : d < 0) (w : World) (L : Laid w) : Calls Tryd.prog 8 #[.int .i64 d, .int .i64 n] w fun e w' => e = .returned (.bool true) ∧ Below w.heap.size w w' := by
  have d0 : decide (d < 0) = true := decide_eq_true h0
  have HL := Lib.hid L
  have HB : Hid (Below w.heap.size w w) := Lib.hid (Below.refl _ _)
  clear L
  go_enter Tryd.func8, Tryd.ntmps8
  go_wp2_with (go_at_call 19; refine (begun_any _ HL.out).mono ?_; rintro e' w1 ⟨rfl, hb⟩; have HB := Lib.hid (below_on HB.out hb); clear hb)
  go_ret
  exact ⟨rfl, HB.out⟩
set_option maxRecDepth 100000 in
set_option maxHeartbeats 6400000 in
theorem pouchDeep_b (d n : Int) (h0 : ¬ d < 0) (h1 : 10 < d) (w : World) (L : Laid w) : Calls Tryd.prog 8 #[.int .i64 d, .int .i64 n] w fun e w' => e = .returned (.bool true) ∧ Below w.heap.size w w' := by
  have d0 : decide (d < 0) = false := decide_eq_false h0
  have d1 : decide (10 < d) = true := decide_eq_true h1
  have HL := Lib.hid L
  have HB : Hid (Below w.heap.size w w) := Lib.hid (Below.refl _ _)
  clear L
  go_enter Tryd.func8, Tryd.ntmps8
  go_wp2_with (go_at_call 19; refine (begun_any _ HL.out).mono ?_; rintro e' w1 ⟨rfl, hb⟩; have HB := Lib.hid (below_on HB.out hb); clear hb)
  go_ret
  exact ⟨rfl, HB.out⟩
set_option maxRecDepth 100000 in
set_option maxHeartbeats 6400000 in
theorem pouchDeep_c (d n : Int) (h0 : ¬ d < 0) (h1 : ¬ 10 < d) (h2 : n < 0) (w : World) (L : Laid w) : Calls Tryd.prog 8 #[.int .i64 d, .int .i64 n] w fun e w' => e = .returned (.bool true) ∧ Below w.heap.size w w' := by
  have d0 : decide (d < 0) = false := decide_eq_false h0
  have d1 : decide (10 < d) = false := decide_eq_false h1
  have d2 : decide (n < 0) = true := decide_eq_true h2
  have HL := Lib.hid L
  have HB : Hid (Below w.heap.size w w) := Lib.hid (Below.refl _ _)
  clear L
  go_enter Tryd.func8, Tryd.ntmps8
  go_wp2_with (go_at_call 19; refine (begun_any _ HL.out).mono ?_; rintro e' w1 ⟨rfl, hb⟩; have HB := Lib.hid (below_on HB.out hb); clear hb)
  go_ret
  exact ⟨rfl, HB.out⟩
set_option maxRecDepth 100000 in
set_option maxHeartbeats 6400000 in
theorem pouchDeep_d (d n : Int) (h0 : ¬ d < 0) (h1 : ¬ 10 < d) (h2 : ¬ n < 0) (h3 : 6100 < n) (w : World) (L : Laid w) : Calls Tryd.prog 8 #[.int .i64 d, .int .i64 n] w fun e w' => e = .returned (.bool true) ∧ Below w.heap.size w w' := by
  have d0 : decide (d < 0) = false := decide_eq_false h0
  have d1 : decide (10 < d) = false := decide_eq_false h1
  have d2 : decide (n < 0) = false := decide_eq_false h2
  have d3 : decide (6100 < n) = true := decide_eq_true h3
  have HL := Lib.hid L
  have HB : Hid (Below w.heap.size w w) := Lib.hid (Below.refl _ _)
  clear L
  go_enter Tryd.func8, Tryd.ntmps8
  go_wp2_with (go_at_call 19; refine (begun_any _ HL.out).mono ?_; rintro e' w1 ⟨rfl, hb⟩; have HB := Lib.hid (below_on HB.out hb); clear hb)
  go_ret
  exact ⟨rfl, HB.out⟩
set_option maxRecDepth 100000 in
set_option maxHeartbeats 6400000 in
theorem pouchDeep_good (d n : Nat) (hd : d ≤ 10) (hn : n ≤ 6100) (w : World) (L : Laid w) : Calls Tryd.prog 8 #[.int .i64 (d : Int), .int .i64 (n : Int)] w fun e w' => e = .returned (.bool true) ∧ Below w.heap.size w w' := by
  have d0 : decide ((d : Int) < 0) = false := decide_eq_false (by omega)
  have d1 : decide ((10 : Int) < (d : Int)) = false := decide_eq_false (by omega)
  have d1n : decide (10 < d) = false := decide_eq_false (by omega)
  have d2 : decide ((n : Int) < 0) = false := decide_eq_false (by omega)
  have d3 : decide ((6100 : Int) < (n : Int)) = false := decide_eq_false (by omega)
  have d3n : decide (6100 < n) = false := decide_eq_false (by omega)
  have HL := Lib.hid L
  have HB : Hid (Below w.heap.size w w) := Lib.hid (Below.refl _ _)
  clear L
  go_enter Tryd.func8, Tryd.ntmps8
  go_wp2_with (go_at_call 19; refine (begun_any _ HL.out).mono ?_; rintro e' w1 ⟨rfl, hb⟩; have HB := Lib.hid (below_on HB.out hb); clear hb)
  have HV : Hid (DvS w w1.heap.size 0 2 0 ⟨#[120]⟩ none 0 0 (w1.alloc (.cells #[.int .i64 2, .int .i64 0, .string ⟨#[120]⟩, .slice none 0 0] 49))) := Lib.hid ⟨Box4.new _ _ _ _ _ _, flat_atO _ _ 2 0 ⟨#[120]⟩ (by decide) (by decide) (by decide), by simp, HB.out.size, below_alloc HB.out _⟩
  generalize (w1.alloc (.cells #[.int .i64 2, .int .i64 0, .string ⟨#[120]⟩, .slice none 0 0] 49)) = V at HV ⊢
  generalize w1.heap.size = B at HV ⊢
  clear HB
  go_loopw [7] (fun i wr => ∃ (k : Nat) (k1 n1 : Int) (s1 : ByteArray) (a1 : Option Addr) (m1 c1 : Nat), (k = 0 ∨ k + 1 ≤ d) ∧ i = .int .i64 ((k : Int) + 1) ∧ DvS w B k k1 n1 s1 a1 m1 c1 wr) (fun i _ => d - (intOf i).toNat)
  case atStart => exact ⟨0, 2, 0, _, none, 0, 0, Or.inl rfl, rfl, HV.out⟩
  case round =>
    obtain ⟨k, k1, n1, s1, a1, m1, c1, hk, rfl, hS⟩ := hrel
    clear HV
    have HS := Lib.hid hS
    obtain ⟨⟨p0, p1, p2, p3⟩, f0, f1, f2, f3⟩ := hS.1
    obtain ⟨⟨q0, q1, q2, q3⟩, g0, g1, g2, g3⟩ := hS.1.keep (below_alloc (Below.refl _ _) (.cells #[.int .i64 k1, .int .i64 n1, .string s1, .slice a1 m1 c1] 49))
    by_cases hlt : k + 1 < d
    · have e1 : decide ((k : Int) + 1 < (d : Int)) = true := decide_eq_true (by omega)
      clear hS
      go_wp2_with fail
      go_roundw
      case rel => exact ⟨k + 1, 3, 0, ⟨#[]⟩, _, 1, 1, Or.inr (by omega), by go_num, HS.out.step⟩
      case measure => simp [intOf]; omega
    · have e1 : decide ((k : Int) + 1 < (d : Int)) = false := decide_eq_false (by omega)
      have HD := Lib.hid (show k = d - 1 by omega)
      clear hS hlt hk
      go_wp2_with fail
      have HW : Hid (DwS wr.heap.size 0 (.slice none 0 0) wr (wr.alloc (.cells #[.int .i64 3, .int .i64 0, .string ⟨#[]⟩, .slice none 0 0] 49))) := Lib.hid ⟨⟨World.ownsRow_nil _ _ _ _, fun v hv => by simp [numVals] at hv⟩, Box4.new _ _ _ _ _ _, below_alloc (Below.refl _ _) _⟩
      generalize (wr.alloc (.cells #[.int .i64 3, .int .i64 0, .string ⟨#[]⟩, .slice none 0 0] 49)) = V2 at HW ⊢
      obtain ⟨B2, hB2⟩ : ∃ B2, Hid (wr.heap.size = B2) := ⟨_, Lib.hid rfl⟩
      rw [hB2.out] at HW ⊢
      clear p0 p1 p2 p3 f0 f1 f2 f3 q0 q1 q2 q3 g0 g1 g2 g3
      generalize wr = W0 at HS HW hB2 ⊢
      go_loopw [9] (fun i wq => ∃ (m : Nat) (va : Value), m ≤ n ∧ i = .int .i64 (m : Int) ∧ DwS B2 m va W0 wq) (fun i _ => n - (intOf i).toNat)
      case atStart => exact ⟨0, _, Nat.zero_le _, rfl, HW.out⟩
      case round =>
        obtain ⟨m, va, hm, rfl, hW⟩ := hrel
        clear HW
        obtain ⟨a, c, rfl, -⟩ := hW.value (by omega)
        have HS2 := Lib.hid hW
        obtain ⟨⟨x0, x1, x2, x3⟩, y0, y1, y2, y3⟩ := hW.2.1
        by_cases hmn : m < n
        · clear hW
          go_wp2_with (at_builtin; go_loud (refine wpList_append_far rfl _ _ 47 rfl (B2 + 1) 49 _ 4 56 tyVals _ (numVals m).length (cells4 (numVals m)) rfl (ownsRow_below HS2.out.1.1 (below_alloc (Below.refl _ _) _)) _ 1 1 [.int .i64 1, .int .i64 (m : Int), .string ⟨#[]⟩, .slice none 0 0] rfl rfl (rowAt_new4 _ _ _ _ _ _ _ rfl) (by simp [Value.oneCell']) (by rw [numVals_len]; unfold maxLen; omega) (by rw [numVals_len]; omega) ?c3 ?_; (case c3 => have := cell_old HS2.out.2.1.1.1; simp at this ⊢; omega); intro v' w' own' G; obtain ⟨a5, c5, rfl, _⟩ := ownsRow_row own'; have HPush := Lib.hid (DwS.push (HS2.out.keep (below_alloc (Below.refl _ _) _)) own' G); have HQ := Lib.hid ((HS2.out.keep (below_alloc (Below.refl _ _) (.cells #[.int .i64 1, .int .i64 (m : Int), .string ⟨#[]⟩, .slice none 0 0] 49))).2.1.belowB G.1 (by omega)); clear own' G; obtain ⟨⟨q0, q1, q2, q3⟩, g0, g1, g2, g3⟩ := HQ.out))
          exact ⟨⟨m + 1, _, by omega, by go_num, HPush.out⟩, by simp [intOf]; omega⟩
        · obtain rfl : m = n := by omega
          have hbel : Below W0.heap.size W0 wr := by rw [hB2.out]; exact hW.2.2
          have XV := Lib.hid (HS.out.1.keep hbel)
          have PV1 := Lib.hid (HS.out.2.1.keep hbel)
          have HBQ := Lib.hid (below_on HS.out.2.2.2.2 hbel)
          obtain ⟨a2, c2, e2, hpw⟩ := hW.value (by omega)
          simp only [Value.slice.injEq, true_and] at e2
          obtain ⟨rfl, rfl⟩ := e2
          have PW := Lib.hid hpw
          have XW := Lib.hid hW.2.1
          have hk := HD.out
          have hk9 : k < 10 := by omega
          have L1 := Lib.hid (nest_len ⟨k, hk9⟩)
          obtain ⟨b1, hb1⟩ : ∃ b, decide (k ≤ 5) = b := ⟨_, rfl⟩
          obtain ⟨b2, hb2⟩ : ∃ b, decide (m ≤ 5999) = b := ⟨_, rfl⟩
          have e6 : decide ((d : Int) ≤ 6) = b1 := by rw [← hb1]; simp only [decide_eq_decide]; omega
          have e7 : decide ((m : Int) ≤ 5999) = b2 := by rw [← hb2]; simp only [decide_eq_decide]; omega
          have N1 := nest_may ⟨k, hk9⟩
          simp only at N1
          rw [hb1] at N1
          have N2 := nums_may m
          rw [hb2] at N2
          have N3 := nums_put m hn
          obtain ⟨P1, hP1⟩ : ∃ P : ByteArray, (⟨(pPut (nest k)).toArray⟩ : ByteArray) = P := ⟨_, rfl⟩
          obtain ⟨P2, hP2⟩ : ∃ P : ByteArray, (⟨(pPut (.mk 3 0 ⟨#[]⟩ (nums m))).toArray⟩ : ByteArray) = P := ⟨_, rfl⟩
          have i1 : P1.toList.isEmpty = !b1 := by
            rw [Lib.toList_data, ← hP1]
            show (pPut (nest k)).isEmpty = _
            rw [Bool.eq_iff_iff, List.isEmpty_iff, N1.2, ← hb1]
            simp
          have i2 : P2.toList.isEmpty = !b2 := by
            rw [Lib.toList_data, ← hP2]
            show (pPut (.mk 3 0 ⟨#[]⟩ (nums m))).isEmpty = _
            rw [Bool.eq_iff_iff, List.isEmpty_iff, N3, ← hb2]
            simp
          have M1 := Lib.hid N1.1
          have M2 := Lib.hid N2
          have L2 : Hid ((pput (.mk 3 0 ⟨#[]⟩ (nums m))).length ≤ 140737488355328) := Lib.hid (by
            have h1 := nums_text m hn
            have h2 := wrapT_len (pbody (.mk 3 0 ⟨#[]⟩ (nums m))) (pend (.mk 3 0 ⟨#[]⟩ (nums m)))
            rw [← pput_wrap] at h2
            have h3 := nDigits_le 6 (pbody (.mk 3 0 ⟨#[]⟩ (nums m))).length (by show (pputL (nums m)).length < _; omega)
            rw [itoa_nat] at h2
            have h4 : (pbody (.mk 3 0 ⟨#[]⟩ (nums m))).length = (pputL (nums m)).length := rfl
            omega)
          have Q1 := Lib.hid hP1
          have Q2 := Lib.hid hP2
          clear hW hpw hk hb1 hb2 N1 N2 N3 hP1 hP2 hbel x0 x1 x2 x3 y0 y1 y2 y3 hmn
          obtain ⟨⟨x0, x1, x2, x3⟩, -⟩ := XV.out
          obtain ⟨⟨y0, y1, y2, y3⟩, -⟩ := XW.out
          go_wp2_with fail
          refine (may_pv PV1.out.pat).mono ?_
          rw [M1.out]
          rintro e' v1 ⟨rfl, hb⟩
          have PV1 := Lib.hid (PV1.out.keep hb); have PW := Lib.hid (PW.out.keep hb); have HBQ := Lib.hid (below_on HBQ.out hb); have XV := Lib.hid (XV.out.keep hb); have XW := Lib.hid (XW.out.keep hb); obtain ⟨⟨x0, x1, x2, x3⟩, -⟩ := XV.out; obtain ⟨⟨y0, y1, y2, y3⟩, -⟩ := XW.out; clear hb
          cases b1
          all_goals
            go_wp2_with fail
            refine (Put_pv PV1.out.pat (HL.out.keep HBQ.out).1 (fun _ => L1.out)).mono ?_
            rw [Q1.out]
            rintro e' v2 ⟨rfl, hb⟩
            have PV1 := Lib.hid (PV1.out.keep hb); have PW := Lib.hid (PW.out.keep hb); have HBQ := Lib.hid (below_on HBQ.out hb); have XV := Lib.hid (XV.out.keep hb); have XW := Lib.hid (XW.out.keep hb); obtain ⟨⟨x0, x1, x2, x3⟩, -⟩ := XV.out; obtain ⟨⟨y0, y1, y2, y3⟩, -⟩ := XW.out; clear hb
            go_wp2_with fail
            refine (may_pv PW.out.pat).mono ?_
            rw [M2.out]
            rintro e' v3 ⟨rfl, hb⟩
            have PV1 := Lib.hid (PV1.out.keep hb); have PW := Lib.hid (PW.out.keep hb); have HBQ := Lib.hid (below_on HBQ.out hb); have XV := Lib.hid (XV.out.keep hb); have XW := Lib.hid (XW.out.keep hb); obtain ⟨⟨x0, x1, x2, x3⟩, -⟩ := XV.out; obtain ⟨⟨y0, y1, y2, y3⟩, -⟩ := XW.out; clear hb
            cases b2
            all_goals
              go_wp2_with fail
              refine (Put_pv PW.out.pat (HL.out.keep HBQ.out).1 (fun _ => L2.out)).mono ?_
              rw [Q2.out]
              rintro e' v4 ⟨rfl, hb⟩
              have HBQ := Lib.hid (below_on HBQ.out hb)
              clear hb
              go_wp2_with fail
              go_ret
              exact ⟨rfl, HBQ.out⟩
theorem pouchDeep_walk (d n : Int) (w : World) (L : Laid w) : Calls Tryd.prog 8 #[.int .i64 d, .int .i64 n] w fun e w' => e = .returned (.bool true) ∧ Below w.heap.size w w' := by
  by_cases h0 : d < 0
  · exact pouchDeep_a d n h0 w L
  by_cases h1 : 10 < d
  · exact pouchDeep_b d n h0 h1 w L
  by_cases h2 : n < 0
  · exact pouchDeep_c d n h0 h1 h2 w L
  by_cases h3 : 6100 < n
  · exact pouchDeep_d d n h0 h1 h2 h3 w L
  obtain ⟨k, rfl⟩ := Int.eq_ofNat_of_zero_le (by omega : 0 ≤ d)
  obtain ⟨m, rfl⟩ := Int.eq_ofNat_of_zero_le (by omega : 0 ≤ n)
  exact pouchDeep_good k m (by omega) (by omega) w L
end Go.Proofs.YtchfphhelafbbaaDoor
