/- Walk of the document's Read. -/
import Derived.Test.YtchfphhelafbbaaDoorGm
namespace Go.Proofs.YtchfphhelafbbaaDoor
open Go.RowKit

theorem Box2.put {B B' : Nat} {u v : Value} {W : World} (h : Box2 B u v W) (hne : B ≠ B') (i : Nat) (x : Value) : Box2 B u v (W.setCell ⟨B', i, none⟩ x) := by
  obtain ⟨h0, h1, f0, f1⟩ := h
  exact ⟨by rw [World.cell?_setCell_other _ _ _ _ (by intro e; simp only [Addr.mk.injEq] at e; omega)]; exact h0, by rw [World.cell?_setCell_other _ _ _ _ (by intro e; simp only [Addr.mk.injEq] at e; omega)]; exact h1, by simp [f0], by simp [f1]⟩
set_option maxRecDepth 100000 in
set_option maxHeartbeats 6400000 in
theorem rread (s : ByteArray) (w : World) (_hs : s.size ≤ 9223372036854775807) :
    Calls Tryd.prog 52 #[.string s] w fun e w' => e = .returned (rrV (readZ s.data.toList)) ∧ Below w.heap.size w w' := by
  by_cases h8 : s.size = 8
  · have h8' : ((s.size : Int) != 8) = false := by simp; omega
    have hl8 : s.data.toList.length = 8 := by simpa using h8
    have H8 := Lib.hid h8
    have HL8 := Lib.hid hl8
    have hx : Box2 (w.heap.size + 1) (.int .i64 ((0 : Nat) : Int)) (.int .i64 ((0 : Nat) : Int)) ((w.alloc (.cells #[.int .i64 0, .int .i64 0] 29)).alloc (.cells #[.int .i64 0, .int .i64 0] 94)) := by
      refine ⟨?_, ?_, ?_, ?_⟩ <;> simp [go_sem]
    have hr : Box2 w.heap.size (.int .i64 0) (.int .i64 0) ((w.alloc (.cells #[.int .i64 0, .int .i64 0] 29)).alloc (.cells #[.int .i64 0, .int .i64 0] 94)) := by
      refine ⟨?_, ?_, ?_, ?_⟩ <;> simp [go_sem]
    have HX := Lib.hid hx
    have HRS := Lib.hid hr
    clear h8 hl8 hx hr
    go_enter Tryd.func52, Tryd.ntmps52
    go_wp2_with fail
    have HL : Hid (Below w.heap.size w ((w.alloc (.cells #[.int .i64 0, .int .i64 0] 29)).alloc (.cells #[.int .i64 0, .int .i64 0] 94))) := Lib.hid (below_alloc (below_alloc (Below.refl _ _) _) _)
    generalize ((w.alloc (.cells #[.int .i64 0, .int .i64 0] 29)).alloc (.cells #[.int .i64 0, .int .i64 0] 94)) = V at HX HRS HL ⊢
    go_loopw [5] (fun i wr => ∃ k a b : Nat, k ≤ 8 ∧ i = .int .i64 k ∧ RdI s.data.toList k a b ∧ Box2 (w.heap.size + 1) (.int .i64 (a : Int)) (.int .i64 (b : Int)) wr ∧ Below w.heap.size w wr ∧ Box2 w.heap.size (.int .i64 0) (.int .i64 0) wr) (fun i _ => 8 - (intOf i).toNat)
    case atStart => exact ⟨0, 0, 0, by omega, rfl, rdI_zero _, HX.out, HL.out, HRS.out⟩
    case round =>
      obtain ⟨k, a, b, hk, rfl, hI, hB, hL, hR⟩ := hrel
      have HI := Lib.hid hI
      have HB := Lib.hid hB
      have ha : a < 65536 := hI.2.2.2.1
      have hb : b < 65536 := hI.2.2.2.2
      obtain ⟨x0, x1, f0, f1⟩ := hB
      have HL1 := Lib.hid hL
      have HR := Lib.hid hR
      obtain ⟨r0, r1, r2, r3⟩ := hR
      clear HX HL HRS hI hL
      by_cases hlt : k < 8
      · have hks : k < s.size := by have := H8.out; omega
        have hkl : k < s.data.toList.length := by have := HL8.out; omega
        have q0 : (k : Int) < (s.size : Int) := by omega
        obtain ⟨n, hn⟩ : ∃ n, (s[k]).toNat = n := ⟨_, rfl⟩
        have hn2 : (s.data.toList[k]).toNat = n := hn
        have HN2 := Lib.hid hn2
        have hn256 : n < 256 := by rw [← hn]; exact (s[k]).toNat_lt
        have q2 : IntKind.i64.wrap (n : Int) = (n : Int) := IntWalk.i64_in _ (by omega)
        clear hn2
        by_cases hd : 48 ≤ n ∧ n ≤ 57
        · obtain ⟨d1, d2⟩ := hd
          have HV := Lib.hid (show hval s.data.toList[k] = n - 48 by unfold hval; rw [HN2.out, if_pos (by omega)])
          have HO := Lib.hid (show okc s.data.toList[k] = true by unfold okc; rw [HN2.out, decide_eq_true ⟨d1, d2⟩]; rfl)
          have e1 : decide ((48 : Int) ≤ (n : Int)) = true := decide_eq_true (by omega)
          have e2 : decide ((n : Int) ≤ 57) = true := decide_eq_true (by omega)
          by_cases hk4 : k < 4
          · have k4 : (k : Int) / 4 = 0 := by omega
            have HT := Lib.hid (show (a : Int) * 16 + ((n : Int) - 48) = ((a * 16 + (n - 48) : Nat) : Int) by omega)
            go_wp2_with fail
            go_roundw
            case rel => exact ⟨k + 1, _, b, by omega, by go_num, rdI_lo HI.out hkl hk4 HO.out, by rw [HV.out, ← HT.out]; exact HB.out.lo _, HL1.out.setCell (by exact Nat.le_succ _) _, HR.out.put (by omega) _ _⟩
            case measure => simp [intOf]; omega
          · have k4 : (k : Int) / 4 = 1 := by omega
            have HT := Lib.hid (show (b : Int) * 16 + ((n : Int) - 48) = ((b * 16 + (n - 48) : Nat) : Int) by omega)
            go_wp2_with fail
            go_roundw
            case rel => exact ⟨k + 1, a, _, by omega, by go_num, rdI_hi HI.out hkl (by omega) hlt HO.out, by rw [HV.out, ← HT.out]; exact HB.out.hi _, HL1.out.setCell (by exact Nat.le_succ _) _, HR.out.put (by omega) _ _⟩
            case measure => simp [intOf]; omega
        by_cases hd2 : 97 ≤ n ∧ n ≤ 102
        · obtain ⟨d1, d2⟩ := hd2
          have HV := Lib.hid (show hval s.data.toList[k] = n - 87 by unfold hval; rw [HN2.out, if_neg (by omega)])
          have HO := Lib.hid (show okc s.data.toList[k] = true by unfold okc; rw [HN2.out, decide_eq_true (And.intro d1 d2)]; simp)
          have e1 : decide ((48 : Int) ≤ (n : Int)) = true := decide_eq_true (by omega)
          have e2 : decide ((n : Int) ≤ 57) = false := decide_eq_false (by omega)
          have e3 : decide ((97 : Int) ≤ (n : Int)) = true := decide_eq_true (by omega)
          have e4 : decide ((n : Int) ≤ 102) = true := decide_eq_true (by omega)
          clear hd
          by_cases hk4 : k < 4
          · have k4 : (k : Int) / 4 = 0 := by omega
            have HT := Lib.hid (show (a : Int) * 16 + ((n : Int) - 87) = ((a * 16 + (n - 87) : Nat) : Int) by omega)
            go_wp2_with fail
            go_roundw
            case rel => exact ⟨k + 1, _, b, by omega, by go_num, rdI_lo HI.out hkl hk4 HO.out, by rw [HV.out, ← HT.out]; exact HB.out.lo _, HL1.out.setCell (by exact Nat.le_succ _) _, HR.out.put (by omega) _ _⟩
            case measure => simp [intOf]; omega
          · have k4 : (k : Int) / 4 = 1 := by omega
            have HT := Lib.hid (show (b : Int) * 16 + ((n : Int) - 87) = ((b * 16 + (n - 87) : Nat) : Int) by omega)
            go_wp2_with fail
            go_roundw
            case rel => exact ⟨k + 1, a, _, by omega, by go_num, rdI_hi HI.out hkl (by omega) hlt HO.out, by rw [HV.out, ← HT.out]; exact HB.out.hi _, HL1.out.setCell (by exact Nat.le_succ _) _, HR.out.put (by omega) _ _⟩
            case measure => simp [intOf]; omega
        · have HO := Lib.hid (show readZ s.data.toList = none from readZ_bad hkl (by
            unfold okc; rw [HN2.out, decide_eq_false hd, decide_eq_false hd2]; rfl))
          by_cases h1 : 48 ≤ n
          · have e1 : decide ((48 : Int) ≤ (n : Int)) = true := decide_eq_true (by omega)
            have e2 : decide ((n : Int) ≤ 57) = false := decide_eq_false (by omega)
            by_cases h2 : 97 ≤ n
            · have e3 : decide ((97 : Int) ≤ (n : Int)) = true := decide_eq_true (by omega)
              have e4 : decide ((n : Int) ≤ 102) = false := decide_eq_false (by omega)
              clear hd hd2
              go_wp2_with fail
              obtain ⟨y0, y1⟩ := set_two (.int .i64 0) (.int .i64 0) r0 r1
              refine bodyPost_ret (v := .tuple #[.agg #[.int .i64 0, .int .i64 0], .bool false]) (by simp [results, Tryd.results52, go_sem, y0, y1]) rfl ⟨by rw [HO.out]; rfl, ?_⟩
              exact below_set2 HL1.out (Nat.le_refl _) _ _
            · have e3 : decide ((97 : Int) ≤ (n : Int)) = false := decide_eq_false (by omega)
              clear hd hd2
              go_wp2_with fail
              obtain ⟨y0, y1⟩ := set_two (.int .i64 0) (.int .i64 0) r0 r1
              refine bodyPost_ret (v := .tuple #[.agg #[.int .i64 0, .int .i64 0], .bool false]) (by simp [results, Tryd.results52, go_sem, y0, y1]) rfl ⟨by rw [HO.out]; rfl, ?_⟩
              exact below_set2 HL1.out (Nat.le_refl _) _ _
          · have e1 : decide ((48 : Int) ≤ (n : Int)) = false := decide_eq_false (by omega)
            have e3 : decide ((97 : Int) ≤ (n : Int)) = false := decide_eq_false (by omega)
            clear hd hd2
            go_wp2_with fail
            obtain ⟨y0, y1⟩ := set_two (.int .i64 0) (.int .i64 0) r0 r1
            refine bodyPost_ret (v := .tuple #[.agg #[.int .i64 0, .int .i64 0], .bool false]) (by simp [results, Tryd.results52, go_sem, y0, y1]) rfl ⟨by rw [HO.out]; rfl, ?_⟩
            exact below_set2 HL1.out (Nat.le_refl _) _ _
      · obtain rfl : k = 8 := by omega
        have hks : ¬ (8 : Nat) < s.size := by have := H8.out; omega
        by_cases hm : a < 65521
        · have e1 : decide ((65521 : Int) ≤ (a : Int)) = false := decide_eq_false (by omega)
          by_cases hm2 : b < 65521
          · have e2 : decide ((65521 : Int) ≤ (b : Int)) = false := decide_eq_false (by omega)
            have HO := Lib.hid (readZ_yes HL8.out HI.out hm hm2)
            clear hm hm2
            go_wp2_with fail
            obtain ⟨y0, y1⟩ := set_two (.int .i64 (a : Int)) (.int .i64 (b : Int)) r0 r1
            refine bodyPost_ret (v := .tuple #[.agg #[.int .i64 (a : Int), .int .i64 (b : Int)], .bool true]) (by simp [results, Tryd.results52, go_sem, y0, y1]) rfl ⟨by rw [HO.out]; rfl, ?_⟩
            exact below_set2 HL1.out (Nat.le_refl _) _ _
          · have e2 : decide ((65521 : Int) ≤ (b : Int)) = true := decide_eq_true (by omega)
            have HO := Lib.hid (readZ_big HL8.out HI.out (by omega))
            clear hm hm2
            go_wp2_with fail
            obtain ⟨y0, y1⟩ := set_two (.int .i64 0) (.int .i64 0) r0 r1
            refine bodyPost_ret (v := .tuple #[.agg #[.int .i64 0, .int .i64 0], .bool false]) (by simp [results, Tryd.results52, go_sem, y0, y1]) rfl ⟨by rw [HO.out]; rfl, ?_⟩
            exact below_set2 HL1.out (Nat.le_refl _) _ _
        · have e1 : decide ((65521 : Int) ≤ (a : Int)) = true := decide_eq_true (by omega)
          have HO := Lib.hid (readZ_big HL8.out HI.out (by omega))
          clear hm
          go_wp2_with fail
          obtain ⟨y0, y1⟩ := set_two (.int .i64 0) (.int .i64 0) r0 r1
          refine bodyPost_ret (v := .tuple #[.agg #[.int .i64 0, .int .i64 0], .bool false]) (by simp [results, Tryd.results52, go_sem, y0, y1]) rfl ⟨by rw [HO.out]; rfl, ?_⟩
          exact below_set2 HL1.out (Nat.le_refl _) _ _
  · have h8' : ((s.size : Int) != 8) = true := by simp; omega
    have HO := Lib.hid (readZ_len (l := s.data.toList) (by simpa using h8))
    clear h8
    go_enter Tryd.func52, Tryd.ntmps52
    go_wp2_with fail
    refine bodyPost_ret (v := .tuple #[.agg #[.int .i64 0, .int .i64 0], .bool false]) (by simp [results, Tryd.results52, go_sem]) rfl ⟨by rw [HO.out]; rfl, ?_⟩
    exact below_alloc (Below.refl _ _) _
end Go.Proofs.YtchfphhelafbbaaDoor
