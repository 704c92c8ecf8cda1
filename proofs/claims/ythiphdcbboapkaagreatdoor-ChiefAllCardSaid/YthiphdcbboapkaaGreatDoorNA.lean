/- Walks of journal.Leaf, marked, Turn. Walk of journal.Turn. -/
import Derived.Test.YthiphdcbboapkaaGreatDoorN9
import Derived.Test.YthiphdcbboapkaaGreatDoorN7
import Derived.Deep.RegionHeld3
import Derived.Deep.QuietTactic
import Derived.BigQuiet
namespace Go.Proofs.YthiphdcbboapkaaGreatDoor
open Go.RowKit

def leafB (s : ByteArray) : ByteArray := ⟨(leafL s.data.toList).toArray⟩
theorem leafB_list (s : ByteArray) : (leafB s).data.toList = leafL s.data.toList := by simp [leafB]
theorem leafB_size {s : ByteArray} (h : s.size ≤ 400000) : (leafB s).size = s.size + (Lib.decDigits s.size).length + 10 := by
  rw [size_list, leafB_list, leafL_len (by rw [← size_list]; exact h), ← size_list]
set_option maxRecDepth 100000 in
set_option maxHeartbeats 1600000 in
theorem leaf_any (s : ByteArray) (w : World) (L : Laid w) (hs : s.size ≤ 9223372036854775807) : Calls Tryz.prog 51 #[.string s] w fun e w' => e = .returned (.string (leafB s)) ∧ Below w.heap.size w w' := by
  by_cases hb : s.size ≤ 400000
  · have q0 : decide ((400000 : Int) < (s.size : Int)) = false := decide_eq_false (by omega)
    have kc := run_bytes
    have HM := Lib.hid (mark_bsl w s (by omega))
    obtain ⟨T, hT⟩ : ∃ T : ByteArray, (⟨(textL (cmark s.data.toList)).toArray⟩ : ByteArray) = T := ⟨_, rfl⟩
    obtain ⟨U, hU⟩ : ∃ U : ByteArray, (⟨(pPut (.mk 2 0 s [])).toArray⟩ : ByteArray) = U := ⟨_, rfl⟩
    have hpl : (pPut (.mk 2 0 s [])).length ≤ 400020 := by
      rw [pPut_str (by omega), wrapT_eq]
      have := digits_le (m := s.data.toList.length) (by rw [← size_list]; omega)
      have h2 := digits_le (m := s.size) (by omega)
      have := size_list s
      simp; omega
    have hcat : ∀ w, (Op.stringOp .add T U).run Tryz.prog w = .ok (.string (leafB s)) w := fun w => by
      rw [← hT, ← hU, run_cat _ _ (by rw [textL_len]; omega)]
      unfold leafB
      rw [leafL_eq (by rw [← size_list]; exact hb), pPut_str (by omega)]
    have HT := Lib.hid hT
    have HU := Lib.hid hU
    have HL := Lib.hid L
    have HPL : Hid (pmay (.mk 2 0 s []) = true → (pput (.mk 2 0 s [])).length ≤ 140737488355328) := Lib.hid (fun _ => by
      have h1 : pPut (.mk 2 0 s []) = pput (.mk 2 0 s []) := by
        rw [pPut_eq, if_pos ⟨pmay_str s, by show s.data.toList.length < _; rw [← size_list]; omega⟩]
      rw [← h1]; omega)
    clear hT hU L hpl
    go_enter Tryz.func51, Tryz.ntmps51
    go_wp2_with fail
    refine HM.out.mono ?_
    rintro e w1 ⟨rfl, hb1⟩
    have HB1 := Lib.hid hb1
    clear hb1
    go_wp2_with fail
    refine (text_cv _ _).mono ?_
    rintro e w2 ⟨rfl, hb2⟩
    have HB2 := Lib.hid (below_on HB1.out hb2)
    clear hb2
    have ht : (⟨(hex4 (rs (cmark s.data.toList).1).toNat ++ hex4 (rs (cmark s.data.toList).2).toNat).toArray⟩ : ByteArray) = T := HT.out
    rw [ht]
    clear ht
    go_wp2_with fail
    refine (Put_pv (flat_atO (fun _ => True) w2 2 0 s (by decide) (by decide) (by omega)).pat (HL.out.keep HB2.out).1 HPL.out).mono ?_
    rintro e w3 ⟨rfl, hb3⟩
    have HB3 := Lib.hid (below_on HB2.out hb3)
    clear hb3
    rw [HU.out]
    go_wp2_with fail
    go_ret
    exact ⟨rfl, HB3.out⟩
  · have q0 : decide ((400000 : Int) < (s.size : Int)) = true := decide_eq_true (by omega)
    have HE : Hid (leafB s = ⟨#[]⟩) := Lib.hid (by unfold leafB leafL; rw [if_pos (by rw [← size_list]; omega)])
    clear L
    go_enter Tryz.func51, Tryz.ntmps51
    go_wp2_with fail
    go_ret
    exact ⟨by rw [HE.out]; rfl, Below.refl _ _⟩
theorem mkd_eq (s : ByteArray) (k : Nat) (hk : k = min s.size 8) : mkd s.data.toList = (readZ (catB (s.extract 0 k) ((⟨#[48, 48, 48, 48, 48, 48, 48, 48]⟩ : ByteArray).extract k 8)).data.toList).isSome := by
  subst hk
  unfold mkd
  rw [catB_list, Lib.extract_data, Lib.extract_data, List.drop_zero]
  have e : (⟨#[48, 48, 48, 48, 48, 48, 48, 48]⟩ : ByteArray).data.toList = List.replicate 8 48 := rfl
  rw [e, ← size_list, Nat.sub_zero]
  congr 3
  · rcases Nat.le_total s.size 8 with h | h
    · rw [Nat.min_eq_left h, List.take_of_length_le (by rw [← size_list]; omega), List.take_of_length_le (by rw [← size_list]; omega)]
    · rw [Nat.min_eq_right h]
  · rw [List.take_of_length_le (by simp)]
set_option maxRecDepth 100000 in
theorem marked_any (s : ByteArray) (w : World) (hs : s.size ≤ 9223372036854775807) : Calls Tryz.prog 80 #[.string s] w fun e w' => e = .returned (.bool (mkd s.data.toList)) ∧ Below w.heap.size w w' := by
  obtain ⟨k, hk⟩ : ∃ k, min s.size 8 = k := ⟨_, rfl⟩
  have hmin : min (s.size : Int) 8 = (k : Int) := by omega
  obtain ⟨P, hP⟩ : ∃ P, s.extract 0 k = P := ⟨_, rfl⟩
  have sP : P.size = k := by rw [← hP, ByteArray.size_extract]; omega
  have hsl : ∀ w, (Instr.slice 9 (.string s) none (some (.int .i64 (k : Int))) none).run Tryz.prog w = .ok (.string P) w := fun w => by rw [← hP]; exact run_cutS s k (by omega) (by omega) w
  obtain ⟨F, hF⟩ : ∃ F, (⟨#[48, 48, 48, 48, 48, 48, 48, 48]⟩ : ByteArray).extract k 8 = F := ⟨_, rfl⟩
  have sF : F.size = 8 - k := by rw [← hF, ByteArray.size_extract]; have : (⟨#[48, 48, 48, 48, 48, 48, 48, 48]⟩ : ByteArray).size = 8 := rfl; omega
  have hsl2 : ∀ w, (Instr.slice 9 (.string ⟨#[48, 48, 48, 48, 48, 48, 48, 48]⟩) (some (.int .i64 (k : Int))) none none).run Tryz.prog w = .ok (.string F) w := fun w => by
    rw [run_slice_string_l w _ _ Tryz.underlying9 _ _ (by omega) (by show (k : Int) ≤ 8; omega), ← hF]; rfl
  obtain ⟨C, hC⟩ : ∃ C, catB P F = C := ⟨_, rfl⟩
  have sC : C.size = 8 := by rw [← hC, catB_size]; omega
  have hcat : ∀ w, (Op.stringOp .add P F).run Tryz.prog w = .ok (.string C) w := fun w => by rw [run_catS P F (by omega), ← hC]; rfl
  have HK := Lib.hid (mkd_eq s k hk.symm)
  rw [hP, hF, hC] at HK
  have HR := Lib.hid (fun w => read_any C w (by omega))
  obtain ⟨r, hr⟩ : ∃ r, readZ C.data.toList = r := ⟨_, rfl⟩
  rw [hr] at HK HR
  clear hr hC hF hP hk
  cases r with
  | none =>
    have HR2 : Hid (∀ w, Calls Tryz.prog 94 #[.string C] w fun e w' => e = .returned (.tuple #[cv (0, 0), .bool false]) ∧ Below w.heap.size w w') := HR
    clear HR
    go_enter Tryz.func80, Tryz.ntmps80
    go_wp2_with (go_at_call 94; refine (HR2.out _).mono ?_; rintro e' w1 ⟨rfl, hb⟩; have HB := Lib.hid hb; clear hb)
    go_ret
    exact ⟨by rw [HK.out]; rfl, HB.out⟩
  | some p =>
    have HR2 : Hid (∀ w, Calls Tryz.prog 94 #[.string C] w fun e w' => e = .returned (.tuple #[cv p, .bool true]) ∧ Below w.heap.size w w') := HR
    clear HR
    go_enter Tryz.func80, Tryz.ntmps80
    go_wp2_with (go_at_call 94; refine (HR2.out _).mono ?_; rintro e' w1 ⟨rfl, hb⟩; have HB := Lib.hid hb; clear hb)
    go_ret
    exact ⟨by rw [HK.out]; rfl, HB.out⟩
end Go.Proofs.YthiphdcbboapkaaGreatDoor
namespace Go.Proofs.YthiphdcbboapkaaGreatDoor
open Go.RowKit

def TurnR (w : World) (s : ByteArray) (e : Ending) (w' : World) : Prop := e = .returned (.tuple #[.string (turnS s).1, .int .i64 (turnS s).2.1, .int .i64 (turnS s).2.2]) ∧ Below w.heap.size w w'
set_option maxRecDepth 100000 in
set_option maxHeartbeats 3200000 in
theorem turn_any (s : ByteArray) (w : World) (L : Laid w) (hs : s.size ≤ 140737488355328) : Calls Tryz.prog 53 #[.string s] w (TurnR w s) := by
  have HM := Lib.hid (marked_any s w (by omega))
  have HL := Lib.hid L
  obtain ⟨b, hb⟩ : ∃ b, mkd s.data.toList = b := ⟨_, rfl⟩
  rw [hb] at HM
  have HB := Lib.hid hb
  clear L hb
  cases b with
  | false =>
    have HE : Hid (turnS s = (⟨#[]⟩, 0, 3)) := Lib.hid (by unfold turnS; rw [if_pos HB.out])
    go_enter Tryz.func53, Tryz.ntmps53
    go_wp2_with (go_at_call 80; refine HM.out.mono ?_; rintro e' w1 ⟨rfl, hb⟩; have HB1 := Lib.hid hb; clear hb)
    go_ret3
    exact ⟨by rw [HE.out]; rfl, HB1.out⟩
  | true =>
    by_cases h8 : s.size < 8
    · have q0 : decide ((s.size : Int) < 8) = true := decide_eq_true (by omega)
      have HE : Hid (turnS s = (⟨#[]⟩, 0, 2)) := Lib.hid (by unfold turnS; rw [if_neg (by rw [HB.out]; simp), if_pos h8])
      go_enter Tryz.func53, Tryz.ntmps53
      go_wp2_with (go_at_call 80; refine HM.out.mono ?_; rintro e' w1 ⟨rfl, hb⟩; have HB1 := Lib.hid hb; clear hb)
      go_ret3
      exact ⟨by rw [HE.out]; rfl, HB1.out⟩
    · have q0 : decide ((s.size : Int) < 8) = false := decide_eq_false (by omega)
      obtain ⟨R, hR⟩ : ∃ R, s.extract 8 s.size = R := ⟨_, rfl⟩
      have sR : R.size ≤ 140737488355328 := by rw [← hR, ByteArray.size_extract]; omega
      have hsl : ∀ w, (Instr.slice 9 (.string s) (some (.int .i64 8)) none none).run Tryz.prog w = .ok (.string R) w := fun w => by
        rw [run_slice_string_l w _ _ Tryz.underlying9 _ _ (by omega) (by omega), ← hR]; rfl
      obtain ⟨⟨k, m, t, l⟩, hpv⟩ : ∃ x, (pGet R).1 = x := ⟨_, rfl⟩
      obtain ⟨n, hn⟩ : ∃ n, (pGet R).2.1 = n := ⟨_, rfl⟩
      obtain ⟨er, her⟩ : ∃ er, (pGet R).2.2 = er := ⟨_, rfl⟩
      have hgt : pGet R = (.mk k m t l, n, er) := by rw [← hpv, ← hn, ← her]
      have hbd := pGet_bd R
      rw [hn, her] at hbd
      have HG : Hid (∀ W, Laid W → Calls Tryz.prog 81 #[.string R] W (GetR W (.mk k m t l, n, er))) := Lib.hid (fun W hL => by rw [← hgt]; exact Get_any R W hL sR)
      have HE : Hid (turnS s = if er = 2 then (⟨#[]⟩, 0, 2) else if er ≠ 0 ∨ k ≠ 2 ∨ leafL t.data.toList ≠ s.data.toList.take (8 + n) then (⟨#[]⟩, 0, 3) else (t, 8 + n, 0)) := Lib.hid (by
        unfold turnS; rw [if_neg (by rw [HB.out]; simp), if_neg h8, hR, her, hgt])
      have hRs : R.size + 8 = s.size := by rw [← hR, ByteArray.size_extract]; omega
      have HR := Lib.hid hR
      clear hR hpv hn her hgt
      go_enter Tryz.func53, Tryz.ntmps53
      go_wp2_with (go_at_call 80; refine HM.out.mono ?_; rintro e' w1 ⟨rfl, hb⟩; have HB1 := Lib.hid hb; clear hb)
      refine (HG.out _ (HL.out.keep HB1.out)).mono ?_
      rintro e w2 ⟨v, hp, rfl, hb⟩
      have HF := Lib.hid hp
      obtain ⟨k', m', t', a', l', c', rfl⟩ := hp.form
      have hkk : k' = k ∧ m' = m ∧ t' = t := by
        have := hp.pat
        cases this
        exact ⟨rfl, rfl, rfl⟩
      obtain ⟨rfl, rfl, rfl⟩ := hkk
      have HB2 := Lib.hid (below_on HB1.out hb)
      clear hb hp
      by_cases e2 : er = 2
      · have HE2 : Hid (turnS s = (⟨#[]⟩, 0, 2)) := Lib.hid (by rw [HE.out, if_pos e2])
        have q1 : ((er : Int) == 2) = true := by simp; omega
        have HQ := Lib.hid e2
        clear e2
        go_wp2_with fail
        go_ret3
        exact ⟨by rw [HE2.out, HQ.out]; rfl, below_alloc HB2.out _⟩
      · have HE3 : Hid (turnS s = if er ≠ 0 ∨ k' ≠ 2 ∨ leafL t'.data.toList ≠ s.data.toList.take (8 + n) then (⟨#[]⟩, 0, 3) else (t', 8 + n, 0)) := Lib.hid (by rw [HE.out, if_neg e2])
        have q1 : ((er : Int) == 2) = false := by simp; omega
        clear HE
        by_cases e0 : er = 0
        · have q2 : ((er : Int) != 0) = false := by simp; omega
          have HQ := Lib.hid e0
          clear e0 e2
          by_cases ek : k' = 2
          · have q3 : (k' != 2) = false := by simpa using ek
            have hn : n ≤ R.size := hbd.2
            have ht9 : t'.size ≤ 9223372036854775807 := by
              have := HF.out.pat
              cases this
              assumption
            obtain ⟨X, hX⟩ : ∃ X, s.extract 0 (8 + n) = X := ⟨_, rfl⟩
            have hsl2 : ∀ w, (Instr.slice 9 (.string s) none (some (.int .i64 (8 + (n : Int)))) none).run Tryz.prog w = .ok (.string X) w := fun w => by
              have := run_cutS s (8 + n) (by omega) (by omega) w
              rw [Int.natCast_add] at this
              rw [← hX]; exact this
            obtain ⟨Y, hY⟩ : ∃ Y, leafB t' = Y := ⟨_, rfl⟩
            have HLf : Hid (∀ W, Laid W → Calls Tryz.prog 51 #[.string t'] W fun e w' => e = .returned (.string Y) ∧ Below W.heap.size W w') := Lib.hid (fun W hL => by rw [← hY]; exact leaf_any t' W hL ht9)
            have HE4 : Hid (turnS s = if X = Y then (t', 8 + n, 0) else (⟨#[]⟩, 0, 3)) := Lib.hid (by
              rw [HE3.out]
              have e1 : (leafL t'.data.toList ≠ s.data.toList.take (8 + n)) ↔ ¬ X = Y := by
                rw [← hX, ← hY]
                constructor
                · intro h e; exact h (by rw [← leafB_list, ← e, Lib.extract_data, List.drop_zero, Nat.sub_zero])
                · intro h e; exact h (ba_ext (by rw [leafB_list, e, Lib.extract_data, List.drop_zero, Nat.sub_zero]))
              by_cases q : X = Y
              · rw [if_neg (fun h => h.elim (fun h => h HQ.out) (fun h => h.elim (fun h => h ek) (fun h => e1.1 h q))), if_pos q]
              · rw [if_pos (Or.inr (Or.inr (e1.2 q))), if_neg q])
            have eX2 : s.extract 0 ((8 + (n : Int)).toNat) = X := by rw [← hX]; congr 1
            have h83 : IntKind.i64.wrap (8 + (n : Int)) = 8 + (n : Int) := IntWalk.i64_in _ (by omega)
            have h81 : (0 : Int) ≤ 8 + (n : Int) := by omega
            have h82 : 8 + (n : Int) ≤ (s.size : Int) := by omega
            clear HE3 hY ek
            obtain ⟨bb, hbb⟩ : ∃ b, (Y.toList != X.toList) = b := ⟨_, rfl⟩
            have hbb2 : (Y.toList == X.toList) = !bb := by rw [← hbb]; simp [bne]
            have HBB : Hid (bb = !decide (X = Y)) := Lib.hid (by rw [← hbb, bne, str_eqL]; congr 1; simp [eq_comm])
            go_wp2_with fail
            have HX := Lib.hid (Box4.new w2 (.int .i64 k') (.int .i64 m') (.string t') (.slice a' l' c') 102)
            have HB3 := Lib.hid (below_alloc HB2.out (.cells #[.int .i64 k', .int .i64 m', .string t', .slice a' l' c'] 102))
            generalize w2.alloc (.cells #[.int .i64 k', .int .i64 m', .string t', .slice a' l' c'] 102) = V at HX HB3 ⊢
            generalize w2.heap.size = x at HX ⊢
            have y0 := HX.out.1.1
            have y2 := HX.out.1.2.2.1
            go_cut [25] (fun v wx => v = .bool bb ∧ Below V.heap.size V wx)
            case first =>
              go_region_with (go_at_call 51; refine (HLf.out _ (HL.out.keep HB3.out.drew)).mono ?_; rintro e' w4 ⟨rfl, hb4⟩; have HB4 := Lib.hid hb4; clear hb4)
              all_goals
                go_wp2_with fail
                go_meet
                exact ⟨rfl, (Below.refl V.heap.size V).drew.trans HB4.out⟩
            case rest =>
              obtain ⟨rfl, hb5⟩ := hcut
              have HB5 := Lib.hid (below_on HB3.out hb5)
              have HX5 := Lib.hid (HX.out.keep hb5)
              clear hb5 y0 y2
              cases bb
              · have hxy : X = Y := by have := HBB.out; simpa using this
                have HE5 : Hid (turnS s = (t', 8 + n, 0)) := Lib.hid (by rw [HE4.out, if_pos hxy])
                clear hxy hbb hbb2
                have y2 := HX5.out.1.2.2.1
                go_wp2_with fail
                go_ret3
                exact ⟨by rw [HE5.out]; rfl, HB5.out⟩
              · have hxy : ¬ X = Y := by have := HBB.out; simpa using this
                have HE5 : Hid (turnS s = (⟨#[]⟩, 0, 3)) := Lib.hid (by rw [HE4.out, if_neg hxy])
                clear hxy hbb hbb2
                go_wp2_with fail
                go_ret3
                exact ⟨by rw [HE5.out]; rfl, HB5.out⟩
          · have q3 : (k' != 2) = true := by simpa using ek
            have HE4 : Hid (turnS s = (⟨#[]⟩, 0, 3)) := Lib.hid (by rw [HE3.out, if_pos (Or.inr (Or.inl ek))])
            clear HE3 ek
            go_wp2_with fail
            have HX := Lib.hid (Box4.new w2 (.int .i64 k') (.int .i64 m') (.string t') (.slice a' l' c') 102)
            have HB3 := Lib.hid (below_alloc HB2.out (.cells #[.int .i64 k', .int .i64 m', .string t', .slice a' l' c'] 102))
            generalize w2.alloc (.cells #[.int .i64 k', .int .i64 m', .string t', .slice a' l' c'] 102) = V at HX HB3 ⊢
            have y0 := HX.out.1.1
            go_quiet (fail)
            go_wp2_with fail
            go_ret3
            exact ⟨by rw [HE4.out]; rfl, below_drewN HB3.out _⟩
        · have q2 : ((er : Int) != 0) = true := by simp; omega
          have HE4 : Hid (turnS s = (⟨#[]⟩, 0, 3)) := Lib.hid (by rw [HE3.out, if_pos (Or.inl e0)])
          clear HE3 e0 e2
          go_wp2_with fail
          have HX := Lib.hid (Box4.new w2 (.int .i64 k') (.int .i64 m') (.string t') (.slice a' l' c') 102)
          have HB3 := Lib.hid (below_alloc HB2.out (.cells #[.int .i64 k', .int .i64 m', .string t', .slice a' l' c'] 102))
          generalize w2.alloc (.cells #[.int .i64 k', .int .i64 m', .string t', .slice a' l' c'] 102) = V at HX HB3 ⊢
          go_quiet (fail)
          go_wp2_with fail
          go_ret3
          exact ⟨by rw [HE4.out]; rfl, below_drewN HB3.out _⟩
end Go.Proofs.YthiphdcbboapkaaGreatDoor
