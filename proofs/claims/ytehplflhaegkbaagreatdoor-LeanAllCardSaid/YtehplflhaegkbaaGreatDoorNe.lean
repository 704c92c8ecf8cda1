/- Walks of lean.Weight, the document's Weight. Walk of lean.Pick. Walk of lean.Share. Walk of law14's begun. -/
import Derived.Test.YtehplflhaegkbaaGreatDoorN2
import Derived.Test.YtehplflhaegkbaaGreatDoorM3
import Derived.Test.YtehplflhaegkbaaGreatDoorRoA
import Derived.Test.YtehplflhaegkbaaGreatDoorRoB
import Derived.Maps.OwnOps
import Derived.Maps.OwnSet
import Derived.Maps.AppendAt
import Derived.Test.YtehplflhaegkbaaGreatDoorRoJ
import Derived.Test.YtehplflhaegkbaaGreatDoorN1
namespace Go.Proofs.YtehplflhaegkbaaGreatDoor
open Go.RowKit

/-- A node's weight for a key. -/
def wgt (n : Int) (l : List UInt8) : Int := if n < 1 ∨ 5 < n then -1 else rs (cmul (cmark l) (cpow (2, 1) (7 * n.toNat))).1
theorem wgt_out {n : Int} (l : List UInt8) (h : n < 1 ∨ 5 < n) : wgt n l = -1 := if_pos h
theorem wgt_in {n : Int} (l : List UInt8) (h : ¬ (n < 1 ∨ 5 < n)) : wgt n l = rs (cmul (cmark l) (cpow (2, 1) (7 * n.toNat))).1 := if_neg h
theorem wgt_bd (n : Int) (l : List UInt8) : -1 ≤ wgt n l ∧ wgt n l < 65521 := by
  unfold wgt
  split
  · decide
  · have := rs_bd (cmul (cmark l) (cpow (2, 1) (7 * n.toNat))).1; omega
theorem wgt_neg (n : Int) (l : List UInt8) : wgt n l = -1 ↔ n < 1 ∨ 5 < n := by
  unfold wgt
  split
  · rename_i h; simp [h]
  · rename_i h
    have := rs_bd (cmul (cmark l) (cpow (2, 1) (7 * n.toNat))).1
    constructor
    · intro e; omega
    · intro e; exact absurd e h
theorem turn_cv : Value.complex .f64 4611686018427387904 4607182418800017408 = cv (2, 1) := cv_bits (by decide) (by decide)
theorem pow_at (p : ZP) (n : Nat) (k : Int) (hk : k = (n : Int)) (w : World) (hn : n ≤ 9223372036854775807) :
    Calls Tryz.prog 18 #[cv p, .int .i64 k] w fun e w' => e = .returned (cv (cpow p n)) ∧ w = w' := by
  subst hk; exact pow_cv p n w hn
theorem rpow_at (p : ZP) (n : Nat) (k : Int) (hk : k = (n : Int)) (w : World) (hn : n ≤ 9223372036854775807) :
    Calls Tryz.prog 21 #[zv (norm p), .int .i64 k] w fun e w' => e = .returned (zv (norm (cpow p n))) ∧ Below w.heap.size w w' := by
  subst hk; exact rpow p n w hn
set_option maxRecDepth 100000 in
set_option maxHeartbeats 1600000 in
theorem weight_any (n : Int) (s : ByteArray) (w : World) (hs : s.size ≤ 9223372036854775807) :
    Calls Tryz.prog 10 #[.int .i64 n, .string s] w fun e w' => e = .returned (.int .i64 (wgt n s.data.toList)) ∧ Below w.heap.size w w' := by
  have HB : Hid (Below w.heap.size w w) := Lib.hid (Below.refl _ _)
  by_cases h1 : n < 1
  · have HW := Lib.hid (wgt_out s.data.toList (Or.inl h1))
    have d1 : decide (n < 1) = true := decide_eq_true h1
    go_enter Tryz.func10, Tryz.ntmps10
    go_wp2_with fail
    go_ret
    exact ⟨by rw [HW.out]; rfl, HB.out⟩
  have d1 : decide (n < 1) = false := decide_eq_false h1
  by_cases h2 : 5 < n
  · have HW := Lib.hid (wgt_out s.data.toList (Or.inr h2))
    have d2 : decide (5 < n) = true := decide_eq_true h2
    go_enter Tryz.func10, Tryz.ntmps10
    go_wp2_with fail
    go_ret
    exact ⟨by rw [HW.out]; rfl, HB.out⟩
  have d2 : decide (5 < n) = false := decide_eq_false h2
  have HW := Lib.hid (wgt_in s.data.toList (by omega : ¬ (n < 1 ∨ 5 < n)))
  have h7 : 7 * n = ((7 * n.toNat : Nat) : Int) := by omega
  have HP := Lib.hid (fun w => pow_at (2, 1) (7 * n.toNat) (7 * n) h7 w (by omega))
  obtain ⟨Q, hQ⟩ : ∃ Q, cpow (2, 1) (7 * n.toNat) = Q := ⟨_, rfl⟩
  rw [hQ] at HP HW
  have kc := run_bytes
  have HT := Lib.hid turn_cv
  obtain ⟨R, hR⟩ : ∃ R, rs (cmul (cmark s.data.toList) Q).1 = R := ⟨_, rfl⟩
  have hRb : 0 ≤ R ∧ R < 65521 := by rw [← hR]; exact rs_bd _
  have kv : ∀ w, (convert 35 3 (.float .f64 (fl R))).run Tryz.prog w = .ok (.int .i64 R) w := fun w => run_convert_float_int w _ _ _ _ _ _ (by rw [Tryz.underlying35]; rfl) Tryz.underlying3 (toIntVal_fl (by omega))
  have HV : Hid (∃ y, cv (cmul (cmark s.data.toList) Q) = .complex .f64 (fl R) y) := Lib.hid ⟨_, by rw [cv_eq, hR]⟩
  rw [hR] at HW
  clear hQ hR h7
  go_enter Tryz.func10, Tryz.ntmps10
  go_wp2_with (first | (go_at_call 17; refine (mark_bsl _ _ hs).mono ?_; rintro e' w1 ⟨rfl, hb⟩; have HB := Lib.hid (below_on HB.out hb); clear hb) | (go_at_call 18; rw [HT.out]; refine (HP.out _).mono ?_; rintro e' w' ⟨rfl, rfl⟩))
  obtain ⟨y, hy⟩ := HV.out
  refine (mul_cv _ _ _).mono ?_
  rw [hy]
  rintro e' w' ⟨rfl, rfl⟩
  clear hy HV
  go_wp2_with fail
  go_ret
  exact ⟨by rw [HW.out]; rfl, HB.out⟩
set_option maxRecDepth 100000 in
set_option maxHeartbeats 1600000 in
theorem rweight_any (n : Int) (s : ByteArray) (w : World) (hs : s.size ≤ 9223372036854775807) :
    Calls Tryz.prog 11 #[.int .i64 n, .string s] w fun e w' => e = .returned (.int .i64 (wgt n s.data.toList)) ∧ Below w.heap.size w w' := by
  have HB : Hid (Below w.heap.size w w) := Lib.hid (Below.refl _ _)
  by_cases h1 : n < 1
  · have HW := Lib.hid (wgt_out s.data.toList (Or.inl h1))
    have d1 : decide (n < 1) = true := decide_eq_true h1
    go_enter Tryz.func11, Tryz.ntmps11
    go_wp2_with fail
    go_ret
    exact ⟨by rw [HW.out]; rfl, HB.out⟩
  have d1 : decide (n < 1) = false := decide_eq_false h1
  by_cases h2 : 5 < n
  · have HW := Lib.hid (wgt_out s.data.toList (Or.inr h2))
    have d2 : decide (5 < n) = true := decide_eq_true h2
    go_enter Tryz.func11, Tryz.ntmps11
    go_wp2_with fail
    go_ret
    exact ⟨by rw [HW.out]; rfl, HB.out⟩
  have d2 : decide (5 < n) = false := decide_eq_false h2
  have HW := Lib.hid (wgt_in s.data.toList (by omega : ¬ (n < 1 ∨ 5 < n)))
  have h7 : 7 * n = ((7 * n.toNat : Nat) : Int) := by omega
  have HP : Hid (∀ w, Calls Tryz.prog 21 #[.agg #[.int .i64 2, .int .i64 1], .int .i64 (7 * n)] w fun e w' => e = .returned (zv (norm (cpow (2, 1) (7 * n.toNat)))) ∧ Below w.heap.size w w') := Lib.hid (fun w => rpow_at (2, 1) (7 * n.toNat) (7 * n) h7 w (by omega))
  obtain ⟨Q, hQ⟩ : ∃ Q, cpow (2, 1) (7 * n.toNat) = Q := ⟨_, rfl⟩
  rw [hQ] at HP HW
  obtain ⟨x, y, hxy⟩ : ∃ x y, norm (cmul (cmark s.data.toList) Q) = (x, y) := ⟨_, _, rfl⟩
  have HM : Hid (∀ w, Calls Tryz.prog 19 #[zv (norm (cmark s.data.toList)), zv (norm Q)] w fun e w' => e = .returned (.agg #[.int .i64 x, .int .i64 y]) ∧ Below w.heap.size w w') := Lib.hid (fun w => (rmul_norm (cmark s.data.toList) Q w).mono (by rintro e w' ⟨rfl, hb⟩; exact ⟨by rw [hxy], hb⟩))
  have HF : Hid (wgt n s.data.toList = x) := Lib.hid (by rw [HW.out, show rs (cmul (cmark s.data.toList) Q).1 = (norm (cmul (cmark s.data.toList) Q)).1 from rfl, hxy])
  clear hxy HW
  have hfd : ∀ w : World, (Instr.field 42 (.agg #[.int .i64 x, .int .i64 y]) 0).run Tryz.prog w = .ok (.int .i64 x) w := fun _ => by kernel_rfl
  clear hQ h7
  go_enter Tryz.func11, Tryz.ntmps11
  go_wp2_with (first | (go_at_call 20; refine (rmark _ _ hs).mono ?_; rintro e' w1 ⟨rfl, hb⟩; have HB := Lib.hid (below_on HB.out hb); clear hb) | (go_at_call 21; refine (HP.out _).mono ?_; rintro e' w1 ⟨rfl, hb⟩; have HB := Lib.hid (below_on HB.out hb); clear hb) | (go_at_call 19; refine (HM.out _).mono ?_; rintro e' w1 ⟨rfl, hb⟩; have HB := Lib.hid (below_on HB.out hb); clear hb))
  go_ret
  exact ⟨by rw [HF.out]; rfl, HB.out⟩
end Go.Proofs.YtehplflhaegkbaaGreatDoor
namespace Go.Proofs.YtehplflhaegkbaaGreatDoor
open Go.RowKit

/-- Is one to be asked rather than the best so far? -/
def better (l : List UInt8) (nw best n : Int) : Bool := !(n == nw) && (best == 0 || decide (wgt best l < wgt n l) || (wgt n l == wgt best l && decide (n < best)))
def pickStep (l : List UInt8) (nw best n : Int) : Int := if better l nw best n = true then n else best
/-- Who is asked. -/
def pick (l : List UInt8) (nw : Int) (zs : List Int) : Int := zs.foldl (pickStep l nw) 0
theorem pick_snoc (l : List UInt8) (nw : Int) (zs : List Int) (n : Int) : pick l nw (zs ++ [n]) = pickStep l nw (pick l nw zs) n := by unfold pick; rw [List.foldl_append]; rfl
theorem pick_take (l : List UInt8) (nw : Int) (zs : List Int) (k : Nat) (h : k < zs.length) : pick l nw (zs.take (k + 1)) = pickStep l nw (pick l nw (zs.take k)) (nthI zs k) := by
  rw [List.take_succ_eq_append_getElem h, pick_snoc]
  congr 1
  unfold nthI
  rw [List.getD, List.getElem?_eq_getElem h]; rfl
def rosW (e : Int) (a : Option Addr) (n c : Nat) (nw : Int) : Value := .agg #[.int .i64 e, .slice a n c, .int .i64 nw]
set_option maxRecDepth 100000 in
set_option maxHeartbeats 3200000 in
theorem pick_any (e : Int) (a : Option Addr) (c : Nat) (zs : List Int) (nw : Int) (s : ByteArray) (w : World) (hl : zs.length ≤ 9223372036854775807) (hz : IntsAt w a zs) (hs : s.size ≤ 9223372036854775807) :
    Calls Tryz.prog 9 #[.agg #[.int .i64 e, .slice a zs.length c, .int .i64 nw], .string s] w fun e' w' => e' = .returned (.int .i64 (pick s.data.toList nw zs)) ∧ Below w.heap.size w w' := by
  obtain ⟨l, hL⟩ : ∃ l, s.data.toList = l := ⟨_, rfl⟩
  have HWt : Hid (∀ n w, Calls Tryz.prog 10 #[.int .i64 n, .string s] w fun e w' => e = .returned (.int .i64 (wgt n l)) ∧ Below w.heap.size w w') := Lib.hid (fun n w => by rw [← hL]; exact weight_any n s w hs)
  rw [hL]
  have HZ := Lib.hid hz
  obtain ⟨y0, y1, y2, -⟩ := new3 w (.int .i64 e) (.slice a zs.length c) (.int .i64 nw) 24
  have HB : Hid (Below w.heap.size w (w.alloc (.cells #[.int .i64 e, .slice a zs.length c, .int .i64 nw] 24))) := Lib.hid (below_alloc (Below.refl _ _) _)
  clear hz hL
  go_enter Tryz.func9, Tryz.ntmps9
  go_wp2_with fail
  have Y2 := Lib.hid y2
  generalize w.alloc (.cells #[.int .i64 e, .slice a zs.length c, .int .i64 nw] 24) = V at HB Y2 ⊢
  clear y0 y1 y2
  go_loopw [5, 13] (fun b i wr => ∃ (k : Nat), k ≤ zs.length ∧ i = .int .i64 k ∧ b = .int .i64 (pick l nw (zs.take k)) ∧ Below V.heap.size V wr) (fun _ i _ => zs.length - (intOf i).toNat)
  case atStart => exact ⟨0, Nat.zero_le _, rfl, rfl, Below.refl _ _⟩
  case round =>
    obtain ⟨k, hk, rfl, rfl, hb⟩ := hrel
    have HBr := Lib.hid hb
    have x2 := cell_keep hb Y2.out
    by_cases hlt : k < zs.length
    · rcases (HZ.out.below (HB.out.trans (hb.mono HB.out.size)) (Nat.le_refl _)) with h | ⟨g, off, rfl, hg, hc⟩
      · exfalso; rw [h] at hlt; simp at hlt
      have hcell := hc k hlt
      have HT := Lib.hid (pick_take l nw zs k hlt)
      obtain ⟨b, hb0⟩ : ∃ b, pick l nw (zs.take k) = b := ⟨_, rfl⟩
      obtain ⟨n, hn⟩ : ∃ n, nthI zs k = n := ⟨_, rfl⟩
      rw [hb0, hn] at HT
      rw [hb0]
      rw [hn] at hcell
      clear hc hb hb0 hn
      by_cases q0 : n = nw
      · have e0 : (n == nw) = true := by rw [beq_iff_eq]; exact q0
        have HE := Lib.hid (show b = pick l nw (zs.take (k + 1)) by rw [HT.out]; unfold pickStep better; rw [e0]; rfl)
        clear q0
        go_wp2_with fail
        go_roundw
        case rel => exact ⟨k + 1, by omega, by go_num, by rw [HE.out], HBr.out⟩
        case measure => simp [intOf]; omega
      have e0 : (n == nw) = false := by rw [beq_eq_false_iff_ne]; exact q0
      obtain ⟨x, hx⟩ : ∃ x, wgt n l = x := ⟨_, rfl⟩
      obtain ⟨y, hy⟩ : ∃ y, wgt b l = y := ⟨_, rfl⟩
      have HN : Hid (∀ w, Calls Tryz.prog 10 #[.int .i64 n, .string s] w fun e w' => e = .returned (.int .i64 x) ∧ Below w.heap.size w w') := Lib.hid (fun w => by rw [← hx]; exact HWt.out n w)
      have HM : Hid (∀ w, Calls Tryz.prog 10 #[.int .i64 b, .string s] w fun e w' => e = .returned (.int .i64 y) ∧ Below w.heap.size w w') := Lib.hid (fun w => by rw [← hy]; exact HWt.out b w)
      have HE : Hid (pick l nw (zs.take (k + 1)) = if (b == 0 || decide (y < x) || (x == y && decide (n < b))) = true then n else b) := Lib.hid (by rw [HT.out]; unfold pickStep better; rw [e0, hx, hy]; rfl)
      clear q0 hx hy HT
      obtain ⟨t1, ht1⟩ : ∃ t, (b == 0) = t := ⟨_, rfl⟩
      obtain ⟨t2, ht2⟩ : ∃ t, decide (y < x) = t := ⟨_, rfl⟩
      obtain ⟨t3, ht3⟩ : ∃ t, (x == y) = t := ⟨_, rfl⟩
      obtain ⟨t4, ht4⟩ : ∃ t, decide (n < b) = t := ⟨_, rfl⟩
      rw [ht1, ht2, ht3, ht4] at HE
      cases t1
      · cases t2
        · cases t3
          · have HE2 := Lib.hid (show pick l nw (zs.take (k + 1)) = b from HE.out)
            clear HE
            go_wp2_with (go_at_call 10; (first | ((with_reducible refine (HN.out _).mono ?_)) | ((with_reducible refine (HM.out _).mono ?_))); rintro e' w1 ⟨rfl, hb⟩; have HBr := Lib.hid (below_on HBr.out hb); clear hb)
            go_roundw
            case rel => exact ⟨k + 1, by omega, by go_num, by rw [HE2.out], HBr.out⟩
            case measure => simp [intOf]; omega
          · cases t4
            · have HE2 := Lib.hid (show pick l nw (zs.take (k + 1)) = b from HE.out)
              clear HE
              go_wp2_with (go_at_call 10; (first | ((with_reducible refine (HN.out _).mono ?_)) | ((with_reducible refine (HM.out _).mono ?_))); rintro e' w1 ⟨rfl, hb⟩; have HBr := Lib.hid (below_on HBr.out hb); clear hb)
              go_roundw
              case rel => exact ⟨k + 1, by omega, by go_num, by rw [HE2.out], HBr.out⟩
              case measure => simp [intOf]; omega
            · have HE2 := Lib.hid (show pick l nw (zs.take (k + 1)) = n from HE.out)
              clear HE
              go_wp2_with (go_at_call 10; (first | ((with_reducible refine (HN.out _).mono ?_)) | ((with_reducible refine (HM.out _).mono ?_))); rintro e' w1 ⟨rfl, hb⟩; have HBr := Lib.hid (below_on HBr.out hb); clear hb)
              go_roundw
              case rel => exact ⟨k + 1, by omega, by go_num, by rw [HE2.out], HBr.out⟩
              case measure => simp [intOf]; omega
        · have HE2 := Lib.hid (show pick l nw (zs.take (k + 1)) = n by rw [HE.out]; simp)
          clear HE
          go_wp2_with (go_at_call 10; (first | ((with_reducible refine (HN.out _).mono ?_)) | ((with_reducible refine (HM.out _).mono ?_))); rintro e' w1 ⟨rfl, hb⟩; have HBr := Lib.hid (below_on HBr.out hb); clear hb)
          go_roundw
          case rel => exact ⟨k + 1, by omega, by go_num, by rw [HE2.out], HBr.out⟩
          case measure => simp [intOf]; omega
      · have HE2 := Lib.hid (show pick l nw (zs.take (k + 1)) = n by rw [HE.out]; simp)
        clear HE
        go_wp2_with (go_at_call 10; (first | ((with_reducible refine (HN.out _).mono ?_)) | ((with_reducible refine (HM.out _).mono ?_))); rintro e' w1 ⟨rfl, hb⟩; have HBr := Lib.hid (below_on HBr.out hb); clear hb)
        go_roundw
        case rel => exact ⟨k + 1, by omega, by go_num, by rw [HE2.out], HBr.out⟩
        case measure => simp [intOf]; omega
    · have hk2 : zs.take k = zs := List.take_of_length_le (by omega)
      have hke : k = zs.length := by omega
      have e1 : decide ((k : Int) < (zs.length : Int)) = false := decide_eq_false (by omega)
      rw [hk2]
      clear hke hk2 hb
      go_wp2_with fail
      go_ret
      exact ⟨rfl, HB.out.trans (HBr.out.mono HB.out.size)⟩
end Go.Proofs.YtehplflhaegkbaaGreatDoor
namespace Go.Proofs.YtehplflhaegkbaaGreatDoor
open Go.RowKit Go.Maps

theorem lawInt : Keyed Tryz.prog 3 := int_keyed Tryz.underlying3
theorem zeroI (w : World) : (zeroValue 3).run Tryz.prog w = .ok (.int .i64 0) w := by kernel_rfl
theorem pick_or (l : List UInt8) (nw : Int) (zs : List Int) (b : Int) : zs.foldl (pickStep l nw) b = b ∨ (zs.foldl (pickStep l nw) b ∈ zs ∧ zs.foldl (pickStep l nw) b ≠ nw) := by
  induction zs generalizing b with
  | nil => exact Or.inl rfl
  | cons z zs ih =>
    rw [List.foldl_cons]
    rcases ih (pickStep l nw b z) with h | h
    · rw [h]
      unfold pickStep
      by_cases hb : better l nw b z = true
      · right
        rw [if_pos hb]
        refine ⟨List.mem_cons_self, fun e => ?_⟩
        unfold better at hb
        rw [e] at hb
        simp at hb
      · left; rw [if_neg hb]
    · exact Or.inr ⟨List.mem_cons_of_mem _ h.1, h.2⟩
def fits (n : Int) : Prop := (Lit.int .i64 n).wf = true
theorem fits_of {n : Int} (h : -9223372036854775808 ≤ n ∧ n ≤ 9223372036854775807) : fits n := by
  have := wrap64_wf n
  rwa [show wrap64 n = n by unfold wrap64; omega] at this
theorem pick_fits (l : List UInt8) (nw : Int) (zs : List Int) (h : ∀ n ∈ zs, fits n) : fits (pick l nw zs) := by
  rcases pick_or l nw zs 0 with h1 | h1
  · unfold pick; rw [h1]; exact fits_of (by omega)
  · exact h _ h1.1
/-- How many keys one is asked for. -/
def cnt (nw : Int) (zs : List Int) (ks : List ByteArray) (n : Int) : Nat := (ks.filter fun s => pick s.data.toList nw zs == n).length
theorem cnt_le (nw : Int) (zs : List Int) (ks : List ByteArray) (n : Int) : cnt nw zs ks n ≤ ks.length := List.length_filter_le _ _
theorem cnt_snoc (nw : Int) (zs : List Int) (ks : List ByteArray) (s : ByteArray) (n : Int) : cnt nw zs (ks ++ [s]) n = cnt nw zs ks n + if pick s.data.toList nw zs = n then 1 else 0 := by
  unfold cnt
  rw [List.filter_append, List.length_append]
  by_cases h : pick s.data.toList nw zs = n <;> simp [h]
def CntAt (D : DataW Unit) (nw : Int) (zs : List Int) (ks : List ByteArray) : Prop := ∀ n, fits n → D.atKey (.int .i64 n) (.lit (.int .i64 0)) = .lit (.int .i64 ((cnt nw zs ks n : Nat) : Int))
theorem CntAt.nil (nw : Int) (zs : List Int) : CntAt (.map []) nw zs [] := fun _ _ => rfl
theorem CntAt.step {D : DataW Unit} {nw : Int} {zs : List Int} {ks : List ByteArray} {s : ByteArray} {p : Int} {m : Nat} (h : CntAt D nw zs ks) (hD : IsMap D) (hp : pick s.data.toList nw zs = p) (hm : cnt nw zs ks p = m) :
    CntAt (D.put (.int .i64 p) (.lit (.int .i64 ((m : Int) + 1)))) nw zs (ks ++ [s]) := by
  intro n hn
  rw [cnt_snoc, hp]
  by_cases e : p = n
  · subst e
    rw [atKey_put_same hD (show WideAt.IsKeyLit (.int .i64 p) from trivial), if_pos rfl, hm]
    rfl
  · rw [atKey_put_other (by intro h1; injection h1 with _ h2; exact e h2.symm), if_neg e, h n hn]
    rfl
theorem lit_inj {a b : Int} (h : (DataW.lit (.int .i64 a) : DataW Unit) = .lit (.int .i64 b)) : a = b := by
  injection h with h; injection h
theorem owns_below {w w' : World} {k e : TypeId} {b n : Nat} {D : DataW Unit} (h : w.ownsMap Tryz.prog k (plainElem Tryz.prog e) b n D) (hb : Below w.heap.size w w') : w'.ownsMap Tryz.prog k (plainElem Tryz.prog e) b n D :=
  h.kept (row := none) ⟨hb.os, hb.tape, hb.output, hb.size, fun i hi _ => hb.block i hi⟩ (by simp)
/-- One's share. -/
def sh (nw : Int) (zs : List Int) (ks : List ByteArray) (n : Int) : Int := if n = nw then 0 else ((cnt nw zs ks n : Nat) : Int)
def shares (nw : Int) (zs : List Int) (ks : List ByteArray) : List Int := zs.map (sh nw zs ks)
theorem shares_take (nw : Int) (zs : List Int) (ks : List ByteArray) (k : Nat) (h : k < zs.length) : (shares nw zs ks).take (k + 1) = (shares nw zs ks).take k ++ [sh nw zs ks (nthI zs k)] := by
  rw [List.take_succ_eq_append_getElem (by simpa [shares] using h)]
  congr 2
  unfold shares nthI
  rw [List.getElem_map, List.getD, List.getElem?_eq_getElem h]; rfl
theorem cell_far {w w' : World} {row : Nat} {a : Addr} {v : Value} (hg : w.grownBy w' (some row)) (h : w.cell? a = some v) (hne : a.block ≠ row) : w'.cell? a = some v := by
  rw [World.cell?_of_block (w := w) (hg.block a.block (cell_old h) (by simpa using hne))]; exact h
theorem ownI_snoc {w : World} {base : Nat} {v : Value} {m : Nat} {zs : List Int} {x : Int} (hm : zs.length = m) (h : w.ownsRow base 3 1 v (m + 1) (zs.map (.int .i64) ++ [.int .i64 x])) : OwnI w base v (zs ++ [x]) := by
  subst hm
  unfold OwnI
  rw [List.length_append, List.map_append]; exact h
theorem ownI_at {w : World} {base : Nat} {v : Value} {m : Nat} {zs : List Int} (h : OwnI w base v zs) (hm : zs.length = m) : w.ownsRow base 3 1 v m (zs.map (.int .i64)) := by
  subst hm; exact h
def ShR (w : World) (nw : Int) (zs : List Int) (ks : List ByteArray) (e' : Ending) (w' : World) : Prop := ∃ v, e' = .returned v ∧ OwnI w' w.heap.size v (shares nw zs ks) ∧ Below w.heap.size w w'
set_option maxRecDepth 100000 in
set_option maxHeartbeats 3200000 in
theorem share_any (e : Int) (a ka : Option Addr) (c kc : Nat) (zs : List Int) (ks : List ByteArray) (nw : Int) (w : World) (hl : zs.length ≤ 1000) (hz : IntsAt w a zs) (hf : ∀ n ∈ zs, fits n)
    (hkl : ks.length ≤ 1000) (hk : RowAt w ka (ks.map .string)) (hs : ∀ s ∈ ks, s.size ≤ 9223372036854775807) :
    Calls Tryz.prog 13 #[.agg #[.int .i64 e, .slice a zs.length c, .int .i64 nw], .slice ka ks.length kc] w (ShR w nw zs ks) := by
  have HK := Lib.hid hk
  have HZ := Lib.hid hz
  have HFit := Lib.hid hf
  have HSz := Lib.hid hs
  have hmm := @run_makeMap Tryz.prog
  obtain ⟨y0, y1, y2, -⟩ := new3 w (.int .i64 e) (.slice a zs.length c) (.int .i64 nw) 24
  have HB : Hid (Below w.heap.size w ((w.alloc (.cells #[.int .i64 e, .slice a zs.length c, .int .i64 nw] 24)).alloc (.map #[] 0))) := Lib.hid (below_alloc (below_alloc (Below.refl _ _) _) _)
  have HO : Hid (((w.alloc (.cells #[.int .i64 e, .slice a zs.length c, .int .i64 nw] 24)).alloc (.map #[] 0)).ownsMap Tryz.prog 3 (plainElem Tryz.prog 3) (w.heap.size + 1) 0 (.map [] : DataW Unit)) := Lib.hid (by
    have := World.ownsMap_made (H := Unit) (w.alloc (.cells #[.int .i64 e, .slice a zs.length c, .int .i64 nw] 24)) Tryz.prog 3 (plainElem Tryz.prog 3)
    rwa [World.size_alloc] at this)
  have Y0 := Lib.hid (cell_keep (below_alloc (Below.refl _ _) (.map #[] 0)) y0)
  have Y1 := Lib.hid (cell_keep (below_alloc (Below.refl _ _) (.map #[] 0)) y1)
  have Y2 := Lib.hid (cell_keep (below_alloc (Below.refl _ _) (.map #[] 0)) y2)
  clear hz hk hf hs y0 y1 y2
  go_enter Tryz.func13, Tryz.ntmps13
  go_wp2_with fail
  generalize (w.alloc (.cells #[.int .i64 e, .slice a zs.length c, .int .i64 nw] 24)).alloc (.map #[] 0) = V at HB HO Y0 Y1 Y2 ⊢
  clear hmm
  go_loopw [14] (fun i wr => ∃ (k : Nat) (D : DataW Unit), k ≤ ks.length ∧ i = .int .i64 k ∧ wr.ownsMap Tryz.prog 3 (plainElem Tryz.prog 3) (w.heap.size + 1) k D ∧ CntAt D nw zs (ks.take k) ∧
      wr.cell? ⟨w.heap.size, 0, none⟩ = some (.int .i64 e) ∧ wr.cell? ⟨w.heap.size, 1, none⟩ = some (.slice a zs.length c) ∧ wr.cell? ⟨w.heap.size, 2, none⟩ = some (.int .i64 nw) ∧ Below w.heap.size w wr) (fun i _ => ks.length - (intOf i).toNat)
  case atStart => exact ⟨0, _, Nat.zero_le _, rfl, HO.out, CntAt.nil _ _, Y0.out, Y1.out, Y2.out, HB.out⟩
  case round =>
    obtain ⟨k, D, hk, rfl, hown, hcnt, x0, x1, x2, hb⟩ := hrel
    clear HO Y0 Y1 Y2 HB
    have HO := Lib.hid hown
    have HC := Lib.hid hcnt
    have HB := Lib.hid hb
    by_cases hlt : k < ks.length
    · rcases (HK.out.below hb (Nat.le_refl _)) with h | ⟨g, off, rfl, hg, hc⟩
      · exfalso; have : ks = [] := by simpa using h
        rw [this] at hlt; simp at hlt
      obtain ⟨s, hsk⟩ : ∃ s, ks[k] = s := ⟨_, rfl⟩
      have hcell : wr.cell? ⟨g, off + k, none⟩ = some (.string s) := hc k _ (by rw [List.getElem?_map, List.getElem?_eq_getElem hlt, hsk]; rfl)
      have HT := Lib.hid (show ks.take (k + 1) = ks.take k ++ [s] by rw [List.take_succ_eq_append_getElem hlt, hsk])
      have hss : s.size ≤ 9223372036854775807 := HSz.out _ (by rw [← hsk]; exact List.getElem_mem hlt)
      obtain ⟨p, hp⟩ : ∃ p, pick s.data.toList nw zs = p := ⟨_, rfl⟩
      obtain ⟨m, hm⟩ : ∃ m, cnt nw zs (ks.take k) p = m := ⟨_, rfl⟩
      have hml : m ≤ 1000 := by have := cnt_le nw zs (ks.take k) p; rw [hm] at this; simp at this; omega
      have HPf : Hid (fits p) := Lib.hid (by rw [← hp]; exact pick_fits _ _ _ HFit.out)
      have HCs : Hid (CntAt (D.put (.int .i64 p) (.lit (.int .i64 ((m : Int) + 1)))) nw zs (ks.take (k + 1))) := Lib.hid (by rw [HT.out]; exact HC.out.step HO.out.isMap hp hm)
      have HL : Hid (D.atKey (.int .i64 p) (.lit (.int .i64 0)) = .lit (.int .i64 (m : Int))) := Lib.hid (by rw [HC.out p HPf.out, hm])
      have HPk : Hid (∀ w0 : World, Below w.heap.size w w0 → Calls Tryz.prog 9 #[.agg #[.int .i64 e, .slice a zs.length c, .int .i64 nw], .string s] w0 fun e' w' => e' = .returned (.int .i64 p) ∧ Below w0.heap.size w0 w') := Lib.hid (fun w0 h0 => by rw [← hp]; exact pick_any e a c zs nw s w0 (by omega) (HZ.out.below h0 (Nat.le_refl _)) hss)
      have q1 : IntKind.i64.wrap ((m : Int) + 1) = (m : Int) + 1 := IntWalk.i64_in _ (by omega)
      have hwf : (Lit.int .i64 ((m : Int) + 1)).wf = true := fits_of (by omega)
      clear hc hg hsk hp hm hown hcnt hb HC HT
      go_wp2_with (first
        | (at_lookup; refine wpList_lookup_own_int _ rfl _ _ 46 rfl 3 3 .i64 lawInt Tryz.underlying46 Tryz.underlying3 (zeroI _) (w.heap.size + 1) k D rfl HO2.out _ _ rfl (keyOf_int_mk Tryz.underlying3 HPf.out) ?_; intro c hat hwc; obtain rfl := lit_inj (hat.symm.trans HL.out); clear hat hwc)
        | (at_mapUpdate; refine wpList_mapUpdate_own _ rfl _ _ _ 46 rfl 3 3 lawInt Tryz.underlying46 _ (w.heap.size + 1) k _ rfl HO2.out (by unfold maxLen; omega) _ _ _ rfl rfl (keyOf_int_mk Tryz.underlying3 HPf.out) _ [] (plainElem_int Tryz.underlying3 hwf) ?_; intro w2 hown2 hg2; have HO3 := Lib.hid hown2; have z0 := cell_far hg2 z0 (by simp); have z1 := cell_far hg2 z1 (by simp); have z2 := cell_far hg2 z2 (by simp); have HB3 := Lib.hid (HB2.out.grown hg2 HB2.out.size (fun j hj => by cases hj; exact Nat.le_succ _)); clear hown2 hg2)
        | (go_at_call 9; refine (HPk.out _ HB.out).mono ?_; rintro e' w1 ⟨rfl, hb⟩; have z0 := cell_keep hb x0; have z1 := cell_keep hb x1; have z2 := cell_keep hb x2; have HB2 := Lib.hid (below_on HB.out hb); have HO2 := Lib.hid (owns_below HO.out hb); clear hb))
      go_roundw
      case rel => exact ⟨k + 1, _, by omega, by go_num, HO3.out, HCs.out, z0, z1, z2, HB3.out⟩
      case measure => simp [intOf]; omega
    · have hkk : ks.take k = ks := List.take_of_length_le (by omega)
      have hke : k = ks.length := by omega
      have e1 : decide ((k : Int) < (ks.length : Int)) = false := decide_eq_false (by omega)
      rw [hkk] at HC
      clear hke hkk hcnt hown hb
      go_wp2_with fail
      obtain ⟨W1, rfl⟩ : ∃ W1 : World, W1 = wr := ⟨_, rfl⟩
      go_loopw [8, 28] (fun v i wr => ∃ j : Nat, j ≤ zs.length ∧ i = .int .i64 j ∧ OwnI wr W1.heap.size v ((shares nw zs ks).take j) ∧ Below W1.heap.size W1 wr) (fun _ i _ => zs.length - (intOf i).toNat)
      case atStart => exact ⟨0, Nat.zero_le _, rfl, World.ownsRow_nil _ _ _ _, Below.refl _ _⟩
      case round =>
        obtain ⟨j, hj, rfl, hw, hb⟩ := hrel
        have HW := Lib.hid hw
        have HR := Lib.hid hb
        have z2 := cell_keep hb x2
        by_cases hjt : j < zs.length
        · rcases (HZ.out.below (HB.out.trans (hb.mono HB.out.size)) (Nat.le_refl _)) with h | ⟨g, off, rfl, hg, hc⟩
          · exfalso; rw [h] at hjt; simp at hjt
          have hcell := hc j hjt
          have hlen : ((shares nw zs ks).take j).length = j := by simp [shares]; omega
          have HT := Lib.hid (shares_take nw zs ks j hjt)
          have hnf : fits (nthI zs j) := HFit.out _ (by unfold nthI; rw [List.getD, List.getElem?_eq_getElem hjt]; exact List.getElem_mem hjt)
          obtain ⟨n, hn⟩ : ∃ n, nthI zs j = n := ⟨_, rfl⟩
          rw [hn] at hcell HT hnf
          have HN := Lib.hid hnf
          obtain ⟨pre, hpre⟩ : ∃ pre, (shares nw zs ks).take j = pre := ⟨_, rfl⟩
          rw [hpre] at HT HW hlen
          have HLen := Lib.hid hlen
          have HOw := Lib.hid (ownI_at HW.out hlen)
          clear hc hg hw hb hn hpre hnf hlen HW
          by_cases hq : n = nw
          · have e0 : (n == nw) = true := by rw [beq_iff_eq]; exact hq
            have HE := Lib.hid (show sh nw zs ks n = 0 from if_pos hq)
            clear hq
            go_wp2_with (at_builtin; refine wpList_append_any rfl _ _ 22 rfl W1.heap.size 3 _ 1 8 tyInts _ j (pre.map (.int .i64)) rfl (ownsRow_below HOw.out (below_alloc (Below.refl _ _) _)) _ 1 1 [.int .i64 0] rfl rfl (RowAt.new _ _ _) (by simp [Value.oneCell']) (by unfold maxLen; omega) (by omega) ?c3 ?_; (case c3 => have := HR.out.size; simp; omega); intro v' w' own' hb'; have HO2 := Lib.hid own'; have HR2 := Lib.hid ((below_alloc HR.out _).trans hb'); clear own' hb')
            go_roundw
            case rel => exact ⟨j + 1, by omega, by go_num, by rw [HT.out, HE.out]; exact ownI_snoc HLen.out HO2.out, HR2.out⟩
            case measure => simp [intOf]; omega
          · have e0 : (n == nw) = false := by rw [beq_eq_false_iff_ne]; exact hq
            have HE := Lib.hid (show sh nw zs ks n = ((cnt nw zs ks n : Nat) : Int) from if_neg hq)
            have HL : Hid (D.atKey (.int .i64 n) (.lit (.int .i64 0)) = .lit (.int .i64 ((cnt nw zs ks n : Nat) : Int))) := Lib.hid (HC.out n HN.out)
            have HM := Lib.hid (owns_below HO.out HR.out)
            obtain ⟨m, hm⟩ : ∃ m, cnt nw zs ks n = m := ⟨_, rfl⟩
            rw [hm] at HE HL
            clear hq hm
            go_wp2_with (first
              | (at_lookup; refine wpList_lookup_own_int _ rfl _ _ 46 rfl 3 3 .i64 lawInt Tryz.underlying46 Tryz.underlying3 (zeroI _) (w.heap.size + 1) k D rfl HM.out _ _ rfl (keyOf_int_mk Tryz.underlying3 HN.out) ?_; intro c hat hwc; obtain rfl := lit_inj (hat.symm.trans HL.out); clear hat hwc)
              | (at_builtin; refine wpList_append_any rfl _ _ 22 rfl W1.heap.size 3 _ 1 8 tyInts _ j (pre.map (.int .i64)) rfl (ownsRow_below HOw.out (below_alloc (Below.refl _ _) _)) _ 1 1 [.int .i64 (m : Int)] rfl rfl (RowAt.new _ _ _) (by simp [Value.oneCell']) (by unfold maxLen; omega) (by omega) ?c3 ?_; (case c3 => have := HR.out.size; simp; omega); intro v' w' own' hb'; have HO2 := Lib.hid own'; have HR2 := Lib.hid ((below_alloc HR.out _).trans hb'); clear own' hb'))
            go_roundw
            case rel => exact ⟨j + 1, by omega, by go_num, by rw [HT.out, HE.out]; exact ownI_snoc HLen.out HO2.out, HR2.out⟩
            case measure => simp [intOf]; omega
        · have hjj : (shares nw zs ks).take j = shares nw zs ks := List.take_of_length_le (by simp [shares]; omega)
          have e2 : decide ((j : Int) < (zs.length : Int)) = false := decide_eq_false (by omega)
          rw [hjj] at HW
          clear hjj hw hb
          go_wp2_with fail
          go_ret
          exact ⟨_, rfl, ownsRow_base HW.out HB.out.size, HB.out.trans (HR.out.mono HB.out.size)⟩
end Go.Proofs.YtehplflhaegkbaaGreatDoor
namespace Go.Proofs.YtehplflhaegkbaaGreatDoor
open Go.RowKit

theorem pick_keep (l : List UInt8) (nw : Int) (zs : List Int) (b : Int) (hb : b ≠ 0) (h0 : ∀ z ∈ zs, z ≠ 0) : zs.foldl (pickStep l nw) b ≠ 0 := by
  rcases pick_or l nw zs b with h | h
  · rw [h]; exact hb
  · exact h0 _ h.1
theorem pick_ne' (l : List UInt8) (nw : Int) (zs : List Int) (h0 : ∀ z ∈ zs, z ≠ 0) (x : Int) (hx : x ∈ zs) (hn : x ≠ nw) (b : Int) : zs.foldl (pickStep l nw) b ≠ 0 := by
  induction zs generalizing b with
  | nil => exact absurd hx (by simp)
  | cons z zs ih =>
    rw [List.foldl_cons]
    have h0' : ∀ y ∈ zs, y ≠ 0 := fun y hy => h0 y (List.mem_cons_of_mem _ hy)
    rcases List.mem_cons.1 hx with rfl | h
    · refine pick_keep l nw zs _ ?_ h0'
      unfold pickStep
      by_cases hb : b = 0
      · subst hb
        rw [if_pos (by unfold better; simp [hn])]
        exact h0 _ List.mem_cons_self
      · split
        · exact h0 _ List.mem_cons_self
        · exact hb
    · exact ih h0' h _
theorem pick_ne (l : List UInt8) (nw : Int) (zs : List Int) (h0 : ∀ z ∈ zs, z ≠ 0) (x : Int) (hx : x ∈ zs) (hn : x ≠ nw) : pick l nw zs ≠ 0 := pick_ne' l nw zs h0 x hx hn 0
theorem pick_in (l : List UInt8) (nw : Int) (zs : List Int) (h : pick l nw zs ≠ 0) : pick l nw zs ∈ zs ∧ pick l nw zs ≠ nw := (pick_or l nw zs 0).resolve_left h

set_option maxRecDepth 100000 in
theorem Begun9_any (w : World) : Calls Tryz.prog 15 #[] w fun e w' => e = .returned (.bool true) ∧ Below w.heap.size w w' := by
  go_enter Tryz.func15, Tryz.ntmps15
  go_wp2_with (go_at_call 23; refine (begun9_any _).mono ?_; rintro e' w1 ⟨rfl, hb⟩; have B1 := Lib.hid hb; clear hb)
  go_ret
  exact ⟨rfl, B1.out⟩

def z31 : List Int := [3, 1]
def pk14 : Int := pick [107] 0 z31
theorem pk14_or : pk14 = 1 ∨ pk14 = 3 := by
  have h := pick_in [107] 0 z31 (pick_ne [107] 0 z31 (by decide) 3 (by decide) (by decide))
  have h1 : pk14 ∈ z31 := h.1
  simp [z31] at h1
  omega
theorem ints31 (w : World) (t : TypeId) : IntsAt (w.alloc (.cells #[.int .i64 3, .int .i64 1] t)) (some ⟨w.heap.size, 0, none⟩) z31 := by
  refine Or.inr ⟨_, 0, rfl, by simp, fun j hj => ?_⟩
  have hj2 : j < 2 := hj
  have : j = 0 ∨ j = 1 := by omega
  rcases this with rfl | rfl <;> simp [z31, nthI]
theorem b14_pick (a : Option Addr) (c : Nat) (w : World) (hz : IntsAt w a z31) :
    Calls Tryz.prog 9 #[.agg #[.int .i64 1, .slice a 2 c, .int .i64 0], .string ⟨#[107]⟩] w fun e w' => e = .returned (.int .i64 pk14) ∧ Below w.heap.size w w' :=
  pick_any 1 a c z31 0 ⟨#[107]⟩ w (by decide) hz (by decide)
theorem b14_pick0 (w : World) :
    Calls Tryz.prog 9 #[.agg #[.int .i64 0, .slice none 0 0, .int .i64 0], .string ⟨#[107]⟩] w fun e w' => e = .returned (.int .i64 0) ∧ Below w.heap.size w w' :=
  pick_any 0 none 0 [] 0 ⟨#[107]⟩ w (by decide) (Or.inl rfl) (by decide)
theorem b14_w0 (w : World) :
    Calls Tryz.prog 10 #[.int .i64 0, .string ⟨#[107]⟩] w fun e w' => e = .returned (.int .i64 (-1)) ∧ Below w.heap.size w w' :=
  (weight_any 0 ⟨#[107]⟩ w (by decide)).mono fun _ _ h => ⟨h.1.trans (by rw [wgt_out _ (Or.inl (by decide))]), h.2⟩
def wt14 : Int := wgt 2 [107]
theorem wt14_bd : 0 ≤ wt14 := by
  have h := wgt_in (n := 2) [107] (by decide)
  unfold wt14
  rw [h]
  exact (rs_bd _).1
theorem b14_w2 (w : World) :
    Calls Tryz.prog 10 #[.int .i64 2, .string ⟨#[107]⟩] w fun e w' => e = .returned (.int .i64 wt14) ∧ Below w.heap.size w w' :=
  weight_any 2 ⟨#[107]⟩ w (by decide)
theorem b14_share (a : Option Addr) (c : Nat) (w : World) (hz : IntsAt w a z31) :
    Calls Tryz.prog 13 #[.agg #[.int .i64 1, .slice a 2 c, .int .i64 0], .slice none 0 0] w fun e w' => (∃ a' c', e = .returned (.slice a' 2 c')) ∧ Below w.heap.size w w' :=
  (share_any 1 a none c 0 z31 [] 0 w (by decide) hz (by intro n hn; simp [z31] at hn; exact fits_of (by omega)) (by decide) (Or.inl rfl) (by simp)).mono fun _ _ h => by
    obtain ⟨v, h1, h2, h3⟩ := h
    obtain ⟨a', c', h4, -, -⟩ := own_cap h2
    exact ⟨⟨a', c', by rw [h1, h4]; rfl⟩, h3⟩
set_option maxRecDepth 100000 in
set_option maxHeartbeats 3200000 in
theorem begun14_any (w : World) (L : Laid w) : Calls Tryz.prog 4 #[] w fun e w' => e = .returned (.bool true) ∧ Below w.heap.size w w' := by
  have HL := Lib.hid L
  have hi0 := Lib.hid (ints31 w 3)
  have hw2 := wt14_bd
  have hd2 : decide (wt14 < 0) = false := decide_eq_false (by omega)
  have hd3 : decide (0 ≤ wt14) = true := decide_eq_true hw2
  clear L
  go_enter Tryz.func4, Tryz.ntmps4
  go_wp2_with fail
  refine (b14_pick _ _ _ (hi0.out.alloc _)).mono ?_
  rintro e w1 ⟨rfl, hb⟩
  have r0 := cell_keep hb (a := ⟨w.heap.size + 1, 0, none⟩) (v := .int .i64 1) (by simp [go_sem, ])
  have r1 := cell_keep hb (a := ⟨w.heap.size + 1, 1, none⟩) (v := .slice (some ⟨w.heap.size, 0, none⟩) 2 2) (by simp [go_sem, ])
  have r2 := cell_keep hb (a := ⟨w.heap.size + 1, 2, none⟩) (v := .int .i64 0) (by simp [go_sem, ])
  have R0 := Lib.hid r0
  have R1 := Lib.hid r1
  have R2 := Lib.hid r2
  have Hx := Lib.hid ((hi0.out.alloc _).keep hb)
  have HB : Hid (Below w.heap.size w w1) := below_on (below_alloc (below_alloc (Below.refl _ _) _) _) hb
  clear hb hi0 r0 r1 r2
  go_wp2_with fail
  refine (Begun_any _ (HL.out.keep HB.out)).mono ?_
  rintro e w2 ⟨rfl, hb⟩
  replace HB := Lib.hid (below_on HB.out hb)
  have HS := Lib.hid hb
  clear hb
  go_wp2_with fail
  refine (Begun9_any _).mono ?_
  rintro e w3 ⟨rfl, hb⟩
  replace HB := Lib.hid (below_on HB.out hb)
  replace HS := Lib.hid (below_on HS.out hb)
  clear hb
  go_wp2_with fail
  refine (b14_w0 _).mono ?_
  rintro e w4 ⟨rfl, hb⟩
  replace HB := Lib.hid (below_on HB.out hb)
  replace HS := Lib.hid (below_on HS.out hb)
  clear hb
  go_wp2_with fail
  refine (b14_w2 _).mono ?_
  rintro e w5 ⟨rfl, hb⟩
  replace HB := Lib.hid (below_on HB.out hb)
  replace HS := Lib.hid (below_on HS.out hb)
  clear hb
  rcases pk14_or with hp | hp
  all_goals
    rw [hp]
    go_wp2_with fail
    refine (b14_pick0 _).mono ?_
    rintro e w6 ⟨rfl, hb⟩
    replace HB := Lib.hid (below_on HB.out hb)
    replace HS := Lib.hid (below_on HS.out hb)
    clear hb
    have r0 := cell_keep HS.out R0.out
    have r1 := cell_keep HS.out R1.out
    have r2 := cell_keep HS.out R2.out
    go_wp2_with fail
    refine (b14_share _ _ _ (Hx.out.keep HS.out)).mono ?_
    rintro e w7 ⟨⟨a', c', rfl⟩, hb⟩
    replace HB := Lib.hid (below_on HB.out hb)
    clear hb
    go_wp2_with fail
    go_ret
    exact ⟨rfl, HB.out⟩
end Go.Proofs.YtehplflhaegkbaaGreatDoor
