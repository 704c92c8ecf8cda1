/- MarkParts: the walk. -/
import Derived.Test.YtchfphhelafbbaaDoorBg
import Derived.Test.YtchfphhelafbbaaDoorCb
import Derived.Test.YtchfphhelafbbaaDoorLi
import Derived.Deep.RegionWith
namespace Go.Proofs.YtchfphhelafbbaaDoor
open Go.RowKit

def mks (w : World) (n : Nat) : Value := .slice (some ⟨w.heap.size, 0, none⟩) n n
def mkw (w : World) (n : Nat) : World := w.alloc (.cells (madeCells (Value.int .u8 0).cells n) 5)
theorem Tryd.infoU8b : ∃ i, Tryd.prog.info? 5 = some i ∧ i.zero = some (.int .u8 0) ∧ i.size = 1 ∧ i.bytes = 1 := by
  have h := Tryd.infoU8
  cases hi : Tryd.prog.info? 5 with
  | none => rw [hi] at h; simp at h
  | some i =>
    rw [hi] at h
    simp only [Option.map_some, Option.some.injEq, Prod.mk.injEq] at h
    exact ⟨i, rfl, h.1, h.2.1, h.2.2⟩
theorem run_mks (w : World) (n : Nat) (hn : n ≤ 16777216) (k : Int) (hk : k = (n : Int)) : (Instr.makeSlice 36 (.int .i64 k) (.int .i64 k)).run Tryd.prog w = .ok (mks w n) (mkw w n) := by
  subst hk
  obtain ⟨i, hi, hz, hs, hb⟩ := Tryd.infoU8b
  rw [run_makeSlice w 36 5 i (.int .u8 0) Tryd.underlying36 hi hz .i64 .i64 n n (by omega) (by omega) (by rw [hs]; omega) (by rw [hb]; omega) (by omega)]
  rw [hs, Int.toNat_natCast, Nat.mul_one]
  rfl
theorem mkw_size (w : World) (n : Nat) : (mkw w n).heap.size = w.heap.size + 1 := World.size_alloc _ _
theorem mkw_below (w : World) (n : Nat) : Below w.heap.size w (mkw w n) := below_alloc (Below.refl _ _) _
theorem made_bytes (n : Nat) : (madeCells (Value.int .u8 0).cells n).toList = Lib.byteCells (List.replicate n 0) := by
  have e : (Value.int .u8 0).cells = #[Value.int .u8 0] := rfl
  rw [e, toList_madeCells_one]
  unfold Lib.byteCells
  rw [List.map_replicate]
  rfl
theorem mkw_row (w : World) (n : Nat) : RowAt (mkw w n) (some ⟨w.heap.size, 0, none⟩) (Lib.byteCells (List.replicate n 0)) := by
  rcases Nat.eq_zero_or_pos n with rfl | hn
  · exact Or.inl rfl
  · refine Or.inr ⟨w.heap.size, 0, rfl, by rw [mkw_size]; omega, fun j u hu => ?_⟩
    unfold mkw
    rw [Nat.zero_add, World.cell?_alloc_new, ← Array.getElem?_toList, made_bytes, hu]
theorem mark_mk (w : World) (n : Nat) (W : World) (hn : n ≤ 16777216) (hb : Below (mkw w n).heap.size (mkw w n) W) :
    Calls Tryd.prog 27 #[mks w n] W fun e w' => e = .returned (cv (cmark (List.replicate n 0))) ∧ W = w' := by
  unfold mks
  have := mark_cv (some ⟨w.heap.size, 0, none⟩) n (List.replicate n 0) W (by simp; omega) ((mkw_row w n).keep hb)
  rwa [List.length_replicate] at this
set_option maxRecDepth 100000 in
set_option maxHeartbeats 6400000 in
theorem markParts_neg (a : Option Addr) (c : Nat) (ss : List ByteArray) (n : Int) (w : World) (hr : RowAt w a (ss.map .string)) (hs : ∀ s ∈ ss, s.size ≤ 9223372036854775807) (hl : ss.length ≤ 9223372036854775807) (hn : n < 0) (L : Laid w) : Calls Tryd.prog 10 #[.slice a ss.length c, .int .i64 (n : Int)] w fun e w' => e = .returned (.bool true) ∧ Below w.heap.size w w' := by
  have hn0 : decide (n < 0) = true := decide_eq_true hn
  have HL := Lib.hid L
  have HB : Hid (Below w.heap.size w w) := Lib.hid (Below.refl _ _)
  have hg := eqGuard_cv
  have hE := fun (p q : ZP) w => run_eq_cv 23 p q w
  have hNE := fun (p q : ZP) w => run_ne_cv 23 p q w
  have kc := run_bytes
  have HRW := Lib.hid hr
  have HS := Lib.hid hs
  have Hi := Lib.hid mark0_cv
  clear L hr hs
  go_enter Tryd.func10, Tryd.ntmps10
  go_wp2_with (go_at_call 19; refine (begun_any _ HL.out).mono ?_; rintro e' w1 ⟨rfl, hb⟩; have HB := Lib.hid (below_on HB.out hb); clear hb)
  have HB0 := HB
  go_loopw [6, 7, 8] (fun t m i wr => ∃ (k : Nat) (T : ByteArray), k ≤ 8 ∧ k ≤ ss.length ∧ i = .int .i64 k ∧ t = .string T ∧ T.size ≤ 30 * k ∧ m = cv (cmark T.data.toList) ∧ Below w.heap.size w wr) (fun _ _ i _ => 8 - (intOf i).toNat)
  case atStart => exact ⟨0, ⟨#[]⟩, by omega, by omega, rfl, rfl, by decide, Hi.out, HB0.out⟩
  case round =>
    obtain ⟨k, T, hk8, hkl, rfl, rfl, hT, rfl, hBr⟩ := hrel
    have HB := Lib.hid hBr
    clear HB0 hBr
    by_cases hlt : k < ss.length ∧ k < 8
    · obtain ⟨h1, h2⟩ := hlt
      obtain ⟨S, hS⟩ : ∃ S, ss[k] = S := ⟨_, rfl⟩
      have sS : S.size ≤ 9223372036854775807 := HS.out S (by rw [← hS]; exact List.getElem_mem h1)
      obtain ⟨A, hA⟩ : ∃ A, Hid (cutS S 30 = A) := ⟨_, Lib.hid rfl⟩
      have sA : A.size ≤ 30 := by rw [← hA.out, cutS_size]; omega
      obtain ⟨T2, hT2⟩ : ∃ T2 : ByteArray, (⟨(T.data.toList ++ A.data.toList).toArray⟩ : ByteArray) = T2 := ⟨_, rfl⟩
      have hcat := run_catS (P := Tryd.prog) T A (by omega)
      rw [hT2] at hcat
      have hT2l : T2.data.toList = T.data.toList ++ A.data.toList := by rw [← hT2]
      have sT2 : T2.size ≤ 30 * (k + 1) := by rw [size_list, hT2l, List.length_append, ← size_list, ← size_list]; omega
      have HM := Lib.hid (show con (cmark T.data.toList) A.data.toList = cmark T2.data.toList by rw [hT2l]; unfold cmark; rw [con_append])
      rcases HRW.out with h | ⟨b, off, rfl, hbs, hc⟩
      · exfalso
        have := congrArg List.length h
        rw [List.length_map, List.length_nil] at this
        omega
      have hcell : wr.cell? ⟨b, off + k, none⟩ = some (.string S) := by
        rw [HB.out.cell (p := ⟨b, off + k, none⟩) hbs]
        exact hc k _ (by rw [List.getElem?_map, List.getElem?_eq_getElem h1, hS]; rfl)
      clear hc hS hT2 hT2l
      go_wp2_with (first | (go_at_call 26; refine (cut_p S A 30 30 _ hA sS (by decide) rfl).mono ?_; rintro e' w' ⟨rfl, rfl⟩) | (go_at_call 29; refine (on_bsl _ _ _ (by omega)).mono ?_; rw [HM.out]; rintro e' w1 ⟨rfl, hb⟩; have HB2 := Lib.hid (below_on HB.out hb); clear hb))
      go_roundw
      case rel => exact ⟨k + 1, T2, by omega, by omega, by go_num, rfl, sT2, rfl, HB2.out⟩
      case measure => simp [intOf]; omega
    · have hstop : (ss.length ≤ k ∨ 8 ≤ k) := by omega
      have sT : T.size ≤ 240 := by omega
      have e1 : eqZ (cmark T.data.toList) (cmark T.data.toList) = true := eqZ_of rfl
      by_cases hk : k = ss.length
      · subst hk
        go_wp2_with (first | (go_at_call 28; refine (rmark _ _ (by omega)).mono ?_; rintro e' w1 ⟨rfl, hb⟩; have HB := Lib.hid (below_on HB.out hb); clear hb) | (go_at_call 22; refine (z_norm _ _).mono ?_; rintro e' w1 ⟨rfl, hb⟩; have HB := Lib.hid (below_on HB.out hb); clear hb)); go_ret; exact ⟨rfl, HB.out⟩
      · obtain rfl : k = 8 := by omega
        go_wp2_with (first | (go_at_call 28; refine (rmark _ _ (by omega)).mono ?_; rintro e' w1 ⟨rfl, hb⟩; have HB := Lib.hid (below_on HB.out hb); clear hb) | (go_at_call 22; refine (z_norm _ _).mono ?_; rintro e' w1 ⟨rfl, hb⟩; have HB := Lib.hid (below_on HB.out hb); clear hb)); go_ret; exact ⟨rfl, HB.out⟩
set_option maxRecDepth 100000 in
set_option maxHeartbeats 6400000 in
theorem markParts_big (a : Option Addr) (c : Nat) (ss : List ByteArray) (n : Int) (w : World) (hr : RowAt w a (ss.map .string)) (hs : ∀ s ∈ ss, s.size ≤ 9223372036854775807) (hl : ss.length ≤ 9223372036854775807) (hn : ¬ n < 0) (hb : 40 < n) (L : Laid w) : Calls Tryd.prog 10 #[.slice a ss.length c, .int .i64 (n : Int)] w fun e w' => e = .returned (.bool true) ∧ Below w.heap.size w w' := by
  have hn0 : decide (n < 0) = false := decide_eq_false hn
  have hn1 : decide (40 < n) = true := decide_eq_true hb
  have HL := Lib.hid L
  have HB : Hid (Below w.heap.size w w) := Lib.hid (Below.refl _ _)
  have hg := eqGuard_cv
  have hE := fun (p q : ZP) w => run_eq_cv 23 p q w
  have hNE := fun (p q : ZP) w => run_ne_cv 23 p q w
  have kc := run_bytes
  have HRW := Lib.hid hr
  have HS := Lib.hid hs
  have Hi := Lib.hid mark0_cv
  clear L hr hs
  go_enter Tryd.func10, Tryd.ntmps10
  go_wp2_with (go_at_call 19; refine (begun_any _ HL.out).mono ?_; rintro e' w1 ⟨rfl, hb⟩; have HB := Lib.hid (below_on HB.out hb); clear hb)
  have HB0 := HB
  go_loopw [6, 7, 8] (fun t m i wr => ∃ (k : Nat) (T : ByteArray), k ≤ 8 ∧ k ≤ ss.length ∧ i = .int .i64 k ∧ t = .string T ∧ T.size ≤ 30 * k ∧ m = cv (cmark T.data.toList) ∧ Below w.heap.size w wr) (fun _ _ i _ => 8 - (intOf i).toNat)
  case atStart => exact ⟨0, ⟨#[]⟩, by omega, by omega, rfl, rfl, by decide, Hi.out, HB0.out⟩
  case round =>
    obtain ⟨k, T, hk8, hkl, rfl, rfl, hT, rfl, hBr⟩ := hrel
    have HB := Lib.hid hBr
    clear HB0 hBr
    by_cases hlt : k < ss.length ∧ k < 8
    · obtain ⟨h1, h2⟩ := hlt
      obtain ⟨S, hS⟩ : ∃ S, ss[k] = S := ⟨_, rfl⟩
      have sS : S.size ≤ 9223372036854775807 := HS.out S (by rw [← hS]; exact List.getElem_mem h1)
      obtain ⟨A, hA⟩ : ∃ A, Hid (cutS S 30 = A) := ⟨_, Lib.hid rfl⟩
      have sA : A.size ≤ 30 := by rw [← hA.out, cutS_size]; omega
      obtain ⟨T2, hT2⟩ : ∃ T2 : ByteArray, (⟨(T.data.toList ++ A.data.toList).toArray⟩ : ByteArray) = T2 := ⟨_, rfl⟩
      have hcat := run_catS (P := Tryd.prog) T A (by omega)
      rw [hT2] at hcat
      have hT2l : T2.data.toList = T.data.toList ++ A.data.toList := by rw [← hT2]
      have sT2 : T2.size ≤ 30 * (k + 1) := by rw [size_list, hT2l, List.length_append, ← size_list, ← size_list]; omega
      have HM := Lib.hid (show con (cmark T.data.toList) A.data.toList = cmark T2.data.toList by rw [hT2l]; unfold cmark; rw [con_append])
      rcases HRW.out with h | ⟨b, off, rfl, hbs, hc⟩
      · exfalso
        have := congrArg List.length h
        rw [List.length_map, List.length_nil] at this
        omega
      have hcell : wr.cell? ⟨b, off + k, none⟩ = some (.string S) := by
        rw [HB.out.cell (p := ⟨b, off + k, none⟩) hbs]
        exact hc k _ (by rw [List.getElem?_map, List.getElem?_eq_getElem h1, hS]; rfl)
      clear hc hS hT2 hT2l
      go_wp2_with (first | (go_at_call 26; refine (cut_p S A 30 30 _ hA sS (by decide) rfl).mono ?_; rintro e' w' ⟨rfl, rfl⟩) | (go_at_call 29; refine (on_bsl _ _ _ (by omega)).mono ?_; rw [HM.out]; rintro e' w1 ⟨rfl, hb⟩; have HB2 := Lib.hid (below_on HB.out hb); clear hb))
      go_roundw
      case rel => exact ⟨k + 1, T2, by omega, by omega, by go_num, rfl, sT2, rfl, HB2.out⟩
      case measure => simp [intOf]; omega
    · have hstop : (ss.length ≤ k ∨ 8 ≤ k) := by omega
      have sT : T.size ≤ 240 := by omega
      have e1 : eqZ (cmark T.data.toList) (cmark T.data.toList) = true := eqZ_of rfl
      by_cases hk : k = ss.length
      · subst hk
        go_wp2_with (first | (go_at_call 28; refine (rmark _ _ (by omega)).mono ?_; rintro e' w1 ⟨rfl, hb⟩; have HB := Lib.hid (below_on HB.out hb); clear hb) | (go_at_call 22; refine (z_norm _ _).mono ?_; rintro e' w1 ⟨rfl, hb⟩; have HB := Lib.hid (below_on HB.out hb); clear hb)); go_ret; exact ⟨rfl, HB.out⟩
      · obtain rfl : k = 8 := by omega
        go_wp2_with (first | (go_at_call 28; refine (rmark _ _ (by omega)).mono ?_; rintro e' w1 ⟨rfl, hb⟩; have HB := Lib.hid (below_on HB.out hb); clear hb) | (go_at_call 22; refine (z_norm _ _).mono ?_; rintro e' w1 ⟨rfl, hb⟩; have HB := Lib.hid (below_on HB.out hb); clear hb)); go_ret; exact ⟨rfl, HB.out⟩
set_option maxRecDepth 100000 in
set_option maxHeartbeats 6400000 in
theorem markParts_good (a : Option Addr) (c : Nat) (ss : List ByteArray) (n : Nat) (w : World) (hr : RowAt w a (ss.map .string)) (hs : ∀ s ∈ ss, s.size ≤ 9223372036854775807) (hl : ss.length ≤ 9223372036854775807) (hn : n ≤ 40) (L : Laid w) : Calls Tryd.prog 10 #[.slice a ss.length c, .int .i64 (n : Int)] w fun e w' => e = .returned (.bool true) ∧ Below w.heap.size w w' := by
  have hn0 : decide ((n : Int) < 0) = false := decide_eq_false (by omega)
  have hn1 : decide ((40 : Int) < (n : Int)) = false := decide_eq_false (by omega)
  have hm1 := fun w => run_mks w n (by omega) (n : Int) rfl
  have hm2 := fun w => run_mks w (n + 1) (by omega) ((n : Int) + 1) (by omega)
  have hez : eqZ (cmark (List.replicate n 0)) (cmark (List.replicate (n + 1) 0)) = false := by
    cases h : eqZ (cmark (List.replicate n 0)) (cmark (List.replicate (n + 1) 0)) with
    | false => rfl
    | true => exact absurd (same_iff.2 (eqZ_iff.1 h)) (cmark_zeros ⟨n, by omega⟩)
  have hwr : IntKind.i64.wrap ((n : Int) + 1) = (n : Int) + 1 := IntWalk.i64_in _ (by omega)
  have HL := Lib.hid L
  have HB : Hid (Below w.heap.size w w) := Lib.hid (Below.refl _ _)
  have hg := eqGuard_cv
  have hE := fun (p q : ZP) w => run_eq_cv 23 p q w
  have hNE := fun (p q : ZP) w => run_ne_cv 23 p q w
  have kc := run_bytes
  have HRW := Lib.hid hr
  have HS := Lib.hid hs
  have Hi := Lib.hid mark0_cv
  clear L hr hs
  go_enter Tryd.func10, Tryd.ntmps10
  go_wp2_with (go_at_call 19; refine (begun_any _ HL.out).mono ?_; rintro e' w1 ⟨rfl, hb⟩; have HB := Lib.hid (below_on HB.out hb); clear hb)
  have HB0 := HB
  go_loopw [6, 7, 8] (fun t m i wr => ∃ (k : Nat) (T : ByteArray), k ≤ 8 ∧ k ≤ ss.length ∧ i = .int .i64 k ∧ t = .string T ∧ T.size ≤ 30 * k ∧ m = cv (cmark T.data.toList) ∧ Below w.heap.size w wr) (fun _ _ i _ => 8 - (intOf i).toNat)
  case atStart => exact ⟨0, ⟨#[]⟩, by omega, by omega, rfl, rfl, by decide, Hi.out, HB0.out⟩
  case round =>
    obtain ⟨k, T, hk8, hkl, rfl, rfl, hT, rfl, hBr⟩ := hrel
    have HB := Lib.hid hBr
    clear HB0 hBr
    by_cases hlt : k < ss.length ∧ k < 8
    · obtain ⟨h1, h2⟩ := hlt
      obtain ⟨S, hS⟩ : ∃ S, ss[k] = S := ⟨_, rfl⟩
      have sS : S.size ≤ 9223372036854775807 := HS.out S (by rw [← hS]; exact List.getElem_mem h1)
      obtain ⟨A, hA⟩ : ∃ A, Hid (cutS S 30 = A) := ⟨_, Lib.hid rfl⟩
      have sA : A.size ≤ 30 := by rw [← hA.out, cutS_size]; omega
      obtain ⟨T2, hT2⟩ : ∃ T2 : ByteArray, (⟨(T.data.toList ++ A.data.toList).toArray⟩ : ByteArray) = T2 := ⟨_, rfl⟩
      have hcat := run_catS (P := Tryd.prog) T A (by omega)
      rw [hT2] at hcat
      have hT2l : T2.data.toList = T.data.toList ++ A.data.toList := by rw [← hT2]
      have sT2 : T2.size ≤ 30 * (k + 1) := by rw [size_list, hT2l, List.length_append, ← size_list, ← size_list]; omega
      have HM := Lib.hid (show con (cmark T.data.toList) A.data.toList = cmark T2.data.toList by rw [hT2l]; unfold cmark; rw [con_append])
      rcases HRW.out with h | ⟨b, off, rfl, hbs, hc⟩
      · exfalso
        have := congrArg List.length h
        rw [List.length_map, List.length_nil] at this
        omega
      have hcell : wr.cell? ⟨b, off + k, none⟩ = some (.string S) := by
        rw [HB.out.cell (p := ⟨b, off + k, none⟩) hbs]
        exact hc k _ (by rw [List.getElem?_map, List.getElem?_eq_getElem h1, hS]; rfl)
      clear hc hS hT2 hT2l
      go_wp2_with (first | (go_at_call 26; refine (cut_p S A 30 30 _ hA sS (by decide) rfl).mono ?_; rintro e' w' ⟨rfl, rfl⟩) | (go_at_call 29; refine (on_bsl _ _ _ (by omega)).mono ?_; rw [HM.out]; rintro e' w1 ⟨rfl, hb⟩; have HB2 := Lib.hid (below_on HB.out hb); clear hb))
      go_roundw
      case rel => exact ⟨k + 1, T2, by omega, by omega, by go_num, rfl, sT2, rfl, HB2.out⟩
      case measure => simp [intOf]; omega
    · have hstop : (ss.length ≤ k ∨ 8 ≤ k) := by omega
      have sT : T.size ≤ 240 := by omega
      have e1 : eqZ (cmark T.data.toList) (cmark T.data.toList) = true := eqZ_of rfl
      by_cases hk : k = ss.length
      · subst hk
        go_wp2_with fail
        go_region_with (go_at_call 27; (first | ((with_reducible refine (mark_mk _ n _ (by omega) (by first | exact Below.refl _ _ | exact mkw_below _ _)).mono ?_)) | ((with_reducible refine (mark_mk _ (n + 1) _ (by omega) (by first | exact Below.refl _ _ | exact mkw_below _ _)).mono ?_))); rintro e' w' ⟨rfl, rfl⟩)
        all_goals first
          | (have HB := Lib.hid (below_on (below_on (below_on HB.out (Below.refl _ _).drew) (mkw_below _ n)) (mkw_below _ (n + 1))); generalize mkw (mkw wr.drew n) (n + 1) = V at HB ⊢; go_wp2_with (first | (go_at_call 28; refine (rmark _ _ (by omega)).mono ?_; rintro e' w1 ⟨rfl, hb⟩; have HB := Lib.hid (below_on HB.out hb); clear hb) | (go_at_call 22; refine (z_norm _ _).mono ?_; rintro e' w1 ⟨rfl, hb⟩; have HB := Lib.hid (below_on HB.out hb); clear hb)); go_ret; exact ⟨rfl, HB.out⟩)
          | (have HB := Lib.hid (below_on (below_on (below_on HB.out (Below.refl _ _).drew) (mkw_below _ (n + 1))) (mkw_below _ n)); generalize mkw (mkw wr.drew (n + 1)) n = V at HB ⊢; go_wp2_with (first | (go_at_call 28; refine (rmark _ _ (by omega)).mono ?_; rintro e' w1 ⟨rfl, hb⟩; have HB := Lib.hid (below_on HB.out hb); clear hb) | (go_at_call 22; refine (z_norm _ _).mono ?_; rintro e' w1 ⟨rfl, hb⟩; have HB := Lib.hid (below_on HB.out hb); clear hb)); go_ret; exact ⟨rfl, HB.out⟩)
        
      · obtain rfl : k = 8 := by omega
        go_wp2_with fail
        go_region_with (go_at_call 27; (first | ((with_reducible refine (mark_mk _ n _ (by omega) (by first | exact Below.refl _ _ | exact mkw_below _ _)).mono ?_)) | ((with_reducible refine (mark_mk _ (n + 1) _ (by omega) (by first | exact Below.refl _ _ | exact mkw_below _ _)).mono ?_))); rintro e' w' ⟨rfl, rfl⟩)
        all_goals first
          | (have HB := Lib.hid (below_on (below_on (below_on HB.out (Below.refl _ _).drew) (mkw_below _ n)) (mkw_below _ (n + 1))); generalize mkw (mkw wr.drew n) (n + 1) = V at HB ⊢; go_wp2_with (first | (go_at_call 28; refine (rmark _ _ (by omega)).mono ?_; rintro e' w1 ⟨rfl, hb⟩; have HB := Lib.hid (below_on HB.out hb); clear hb) | (go_at_call 22; refine (z_norm _ _).mono ?_; rintro e' w1 ⟨rfl, hb⟩; have HB := Lib.hid (below_on HB.out hb); clear hb)); go_ret; exact ⟨rfl, HB.out⟩)
          | (have HB := Lib.hid (below_on (below_on (below_on HB.out (Below.refl _ _).drew) (mkw_below _ (n + 1))) (mkw_below _ n)); generalize mkw (mkw wr.drew (n + 1)) n = V at HB ⊢; go_wp2_with (first | (go_at_call 28; refine (rmark _ _ (by omega)).mono ?_; rintro e' w1 ⟨rfl, hb⟩; have HB := Lib.hid (below_on HB.out hb); clear hb) | (go_at_call 22; refine (z_norm _ _).mono ?_; rintro e' w1 ⟨rfl, hb⟩; have HB := Lib.hid (below_on HB.out hb); clear hb)); go_ret; exact ⟨rfl, HB.out⟩)
        
theorem markParts_walk (a : Option Addr) (c : Nat) (ss : List ByteArray) (n : Int) (w : World) (hr : RowAt w a (ss.map .string)) (hs : ∀ s ∈ ss, s.size ≤ 9223372036854775807) (hl : ss.length ≤ 9223372036854775807) (L : Laid w) : Calls Tryd.prog 10 #[.slice a ss.length c, .int .i64 n] w fun e w' => e = .returned (.bool true) ∧ Below w.heap.size w w' := by
  by_cases hn : n < 0
  · exact markParts_neg a c ss n w hr hs hl hn L
  by_cases hb : 40 < n
  · exact markParts_big a c ss n w hr hs hl hn hb L
  obtain ⟨k, rfl⟩ := Int.eq_ofNat_of_zero_le (by omega : 0 ≤ n)
  exact markParts_good a c ss k w hr hs hl (by omega) L
end Go.Proofs.YtchfphhelafbbaaDoor
