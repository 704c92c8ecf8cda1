/- PouchMany: the walk. -/
import Derived.Test.YthbbfdlacclccaaDoorTg
namespace Go.Proofs.YthbbfdlacclccaaDoor
open Go.RowKit

/-- Four cells in a row. -/
def CellS (b o : Nat) (c0 c1 c2 c3 : Value) (U : World) : Prop := U.cell? ⟨b, o, none⟩ = some c0 ∧ U.cell? ⟨b, o + 1, none⟩ = some c1 ∧ U.cell? ⟨b, o + 2, none⟩ = some c2 ∧ U.cell? ⟨b, o + 3, none⟩ = some c3
theorem CellS.keep {b o : Nat} {c0 c1 c2 c3 : Value} {U U' : World} (h : CellS b o c0 c1 c2 c3 U) (hb : Below U.heap.size U U') : CellS b o c0 c1 c2 c3 U' := ⟨cell_keep hb h.1, cell_keep hb h.2.1, cell_keep hb h.2.2.1, cell_keep hb h.2.2.2⟩
def strSize : Value → Nat | .string s => s.size | _ => 0
set_option maxRecDepth 100000 in
set_option maxHeartbeats 6400000 in
theorem pouchMany_walk {w : World} {a : Option Addr} {l : List PV} (c : Nat) (hT : TreesAt w a l) (hl : l.length ≤ 9223372036854775807) (hl2 : ∀ x ∈ l, fits x ∧ pbulk x ≤ 1048576) (L : Laid w) :
    Calls Tryd.prog 3 #[.slice a l.length c] w fun e w' => e = .returned (.bool true) ∧ Below w.heap.size w w' := by
  have HL := Lib.hid L
  have HT := Lib.hid hT
  have H2 := Lib.hid hl2
  clear hT hl2 L
  go_enter Tryd.func3, Tryd.ntmps3
  go_upto_region 4 with (go_at_call 5; refine (begun_any _ HL.out).mono ?_; rintro e' w1 ⟨rfl, hb⟩; have HB := Lib.hid hb; clear hb)
  have HLV := Lib.hid (HL.out.keep HB.out)
  have HTV := Lib.hid (HT.out.keep HB.out)
  have HI0 := Lib.hid (InS.start w1)
  clear HL HT
  generalize w1 = V at HB HLV HTV HI0 ⊢
  go_wp2_with fail
  go_loopw [4, 5, 6] (fun tv iv i wr => ∃ (j : Nat) (S : ByteArray), j ≤ l.length ∧ j ≤ 8 ∧ tv = .string S ∧ i = .int .i64 (j : Int) ∧ S.data.toList = ptexts (l.take j) ∧ InS V (good (l.take j)) iv wr) (fun _ _ i _ => l.length - (intOf i).toNat)
  case atStart => exact ⟨0, ⟨#[]⟩, Nat.zero_le _, by omega, rfl, rfl, by rw [List.take_zero]; rfl, by rw [List.take_zero]; exact HI0.out⟩
  case round =>
    obtain ⟨j, S, hj, hj8, rfl, rfl, hS, hI⟩ := hrel
    have HS := Lib.hid hS
    have HI := Lib.hid hI
    have hSz : S.size ≤ 536870912 := by
      have h1 := ptexts_len (l := l.take j) (fun x hx => H2.out x (List.mem_of_mem_take hx))
      rw [List.length_take] at h1
      rw [size_list, hS]
      have : min j l.length ≤ 8 := by omega
      have := Nat.mul_le_mul_right 67108864 this
      omega
    clear HI0 hS hI
    by_cases hgo : j < l.length ∧ j < 8
    · obtain ⟨hlt, h8⟩ := hgo
      have d1 : decide ((j : Int) < (l.length : Int)) = true := decide_eq_true (by omega)
      have d2 : decide ((j : Int) < 8) = true := decide_eq_true (by omega)
      have d2n : decide (j < 8) = true := decide_eq_true (by omega)
      obtain ⟨vs, hr, hv⟩ := HTV.out
      rcases hr with h | ⟨b, off, rfl, hbs, hc⟩
      · omega
      have hx := hv j l[j] (List.getElem?_eq_getElem hlt)
      obtain ⟨hfx, hbx⟩ := H2.out l[j] (List.getElem_mem hlt)
      have HTk := Lib.hid (show l.take (j + 1) = l.take j ++ [l[j]] from List.take_succ_eq_append_getElem hlt)
      obtain ⟨x, hxe⟩ : ∃ x, l[j] = x := ⟨_, rfl⟩
      rw [hxe] at hx hfx hbx HTk
      obtain ⟨k1, n1, s1, a1, m1, c1, hvj⟩ := hx.form
      have hVr : Below V.heap.size V wr := by obtain ⟨us, h1, h2, h3, h4⟩ := HI.out; exact h4
      have HC0 : Hid (CellS b (off + j * 4) (.int .i64 k1) (.int .i64 n1) (.string s1) (.slice a1 m1 c1) wr) := Lib.hid (((hc j hlt).below hVr hbs).of hvj)
      rw [hvj] at hx
      have HX := Lib.hid hx
      have HBk := Lib.hid (fun W hb => back_any hx W hb hbx)
      obtain ⟨P, hP⟩ : ∃ P : ByteArray, (⟨(pPut x).toArray⟩ : ByteArray) = P := ⟨_, rfl⟩
      have hPl : P.data.toList = pPut x := by rw [← hP]
      have hsm := pPut_small hfx hbx
      have sP : P.size ≤ 67108864 := by rw [size_list, hPl]; exact hsm.2
      have HLen : Hid (pmay x = true → (pput x).length ≤ 140737488355328) := Lib.hid (fun _ => by omega)
      have HPe := Lib.hid hP
      have HPl := Lib.hid hPl
      have HVr := Lib.hid hVr
      obtain ⟨av, cv', rfl⟩ := HI.out.slice
      obtain ⟨y0, y1, y2, y3⟩ := HC0.out
      obtain ⟨T2, hT2⟩ : ∃ T2 : ByteArray, (⟨(S.data.toList ++ P.data.toList).toArray⟩ : ByteArray) = T2 := ⟨_, rfl⟩
      have hcat := run_catS (P := Tryd.prog) S P (by omega)
      rw [hT2] at hcat
      have HT2 := Lib.hid (show T2.data.toList = ptexts (l.take j) ++ pPut x by rw [← hT2]; show S.data.toList ++ P.data.toList = _; rw [HS.out, hPl])
      clear hxe hc hv hvj hx hfx hbx hsm hP hVr hPl hT2
      by_cases hne : pPut x = []
      · have he : P.toList.isEmpty = true := by rw [Lib.toList_data, HPl.out, hne]; rfl
        have HG := Lib.hid (show good (l.take (j + 1)) = good (l.take j) by rw [HTk.out, good_snoc, if_pos hne])
        have HS2 := Lib.hid (show S.data.toList = ptexts (l.take (j + 1)) by rw [HTk.out, ptexts_snoc, hne, List.append_nil]; exact HS.out)
        clear hne
        go_wp2_with (first | (go_at_call 7; refine (HBk.out _ HVr.out).mono ?_; rintro e' w2 ⟨v2, rfl, hp, hb⟩; obtain ⟨k2, n2, s2, a2, m2, c2, rfl⟩ := hp.form; have HI2 := Lib.hid (HI.out.keep hb); have HB2 := Lib.hid (below_on HVr.out hb); have P2 := Lib.hid hp.pat; clear hp hb) | (go_at_call 6; refine (Put_pv P2.out (HLV.out.keep HB2.out).1 HLen.out).mono ?_; rw [HPe.out]; rintro e' w3 ⟨rfl, hb⟩; have HI3 := Lib.hid (HI2.out.keep hb); clear hb))
        exact ⟨⟨j + 1, S, by omega, by omega, rfl, by go_num, HS2.out, by rw [HG.out]; exact HI3.out⟩, by simp [intOf]; omega⟩
      · have he : P.toList.isEmpty = false := by rw [Lib.toList_data, HPl.out, List.isEmpty_eq_false_iff]; exact hne
        have HG := Lib.hid (show good (l.take (j + 1)) = good (l.take j) ++ [x] by rw [HTk.out, good_snoc, if_neg hne])
        have HS2 := Lib.hid (show T2.data.toList = ptexts (l.take (j + 1)) by rw [HTk.out, ptexts_snoc]; exact HT2.out)
        have HGl : Hid ((good (l.take j)).length ≤ 8) := Lib.hid (by
          have h1 : (good (l.take j)).length ≤ (l.take j).length := List.length_filter_le _ _
          rw [List.length_take] at h1
          omega)
        clear hne
        go_upto_region 12 with (first | (go_at_call 7; refine (HBk.out _ HVr.out).mono ?_; rintro e' w2 ⟨v2, rfl, hp, hb⟩; obtain ⟨k2, n2, s2, a2, m2, c2, rfl⟩ := hp.form; have HI2 := Lib.hid (HI.out.keep hb); have HC2 := Lib.hid (HC0.out.keep hb); have HB2 := Lib.hid (below_on HVr.out hb); have P2 := Lib.hid hp.pat; clear hp hb) | (go_at_call 6; refine (Put_pv P2.out (HLV.out.keep HB2.out).1 HLen.out).mono ?_; rw [HPe.out]; rintro e' w3 ⟨rfl, hb⟩; have HI3 := Lib.hid (HI2.out.keep hb); have HC3 := Lib.hid (HC2.out.keep hb); have HB3 := Lib.hid (below_on HB2.out hb); clear hb y0 y1 y2 y3))
        obtain ⟨y0, y1, y2, y3⟩ := HC3.out
        obtain ⟨us, i1, i2, i3, i4⟩ := HI3.out.keep (below_alloc (Below.refl _ _) (.cells #[.int .i64 k1, .int .i64 n1, .string s1, .slice a1 m1 c1] 30))
        have I1 := Lib.hid i1.1
        have IF := Lib.hid i1.2
        have I2 := Lib.hid i2
        have I3 := Lib.hid i3
        have I4 := Lib.hid i4
        have hus : us.length ≤ 8 := by rw [i2]; exact HGl.out
        have hVw := HB3.out.size
        obtain ⟨gl, hgl⟩ : ∃ gl, (good (l.take j)).length = gl := ⟨_, rfl⟩
        rw [hgl] at I1 I2 ⊢
        have HGL := Lib.hid hgl
        clear i1 i2 i3 i4 hgl
        go_wp2_with (at_builtin; go_loud (refine wpList_append_any rfl _ _ 22 rfl V.heap.size 30 _ 4 56 tyRefs _ us.length (cells4 us) rfl I1.out _ 1 1 [.int .i64 k1, .int .i64 n1, .string s1, .slice a1 m1 c1] rfl rfl (rowAt_new4 _ _ _ _ _ _ _ rfl) (by simp [Value.oneCell']) (by unfold maxLen; omega) (by omega) (by simp; omega) ?_; intro v' w' own' hb'; obtain ⟨a5, c5, rfl, _⟩ := ownsRow_row own'; have HPush := Lib.hid (InS.push (xs := good (l.take j)) ⟨I1.out, IF.out⟩ (I2.out.trans HGL.out.symm) I3.out I4.out HX.out own' hb'); clear own' hb'))
        exact ⟨⟨j + 1, T2, by omega, by omega, rfl, by go_num, HS2.out, by rw [HG.out]; exact HPush.out⟩, by simp [intOf]; omega⟩
    · obtain ⟨xs, hxs⟩ : ∃ xs, good (l.take j) = xs := ⟨_, rfl⟩
      have hgood : ∀ x ∈ xs, fits x ∧ pPut x ≠ [] ∧ pbulk x ≤ 1048576 := fun x hx => by
        rw [← hxs] at hx
        unfold good at hx
        obtain ⟨h1, h2⟩ := List.mem_filter.1 hx
        exact ⟨(H2.out x (List.mem_of_mem_take h1)).1, by intro q; rw [q] at h2; simp at h2, (H2.out x (List.mem_of_mem_take h1)).2⟩
      have hS2 : S.data.toList = ptexts xs := by rw [HS.out, ← hxs, ptexts_good]
      rw [hxs] at HI
      have hx20 : xs.length ≤ 9223372036854775807 := by
        rw [← hxs]
        have h1 : (good (l.take j)).length ≤ (l.take j).length := List.length_filter_le _ _
        rw [List.length_take] at h1
        omega
      obtain ⟨av, cv', rfl⟩ := HI.out.slice
      obtain ⟨-, hTr⟩ := HI.out.trees
      have hVr : Below V.heap.size V wr := by obtain ⟨us, h1, h2, h3, h4⟩ := HI.out; exact h4
      have HTr := Lib.hid hTr
      have HG := Lib.hid hgood
      have HSx := Lib.hid hS2
      have HBW := Lib.hid (below_on HB.out hVr)
      have HLw := Lib.hid (HLV.out.keep hVr)
      clear hgood hS2 hTr hVr hxs HI HS HTV HLV H2 HB
      obtain ⟨d1, d2, hd1, hd2, hd⟩ : ∃ d1 d2, decide ((j : Int) < (l.length : Int)) = d1 ∧ decide ((j : Int) < 8) = d2 ∧ (d1 && d2) = false := ⟨_, _, rfl, rfl, by
        rw [← Bool.not_eq_true, Bool.and_eq_true, decide_eq_true_iff, decide_eq_true_iff]
        intro q
        exact hgo ⟨by omega, by omega⟩⟩
      have hd1n : decide (j < l.length) = d1 := by rw [← hd1]; congr 1; rw [eq_iff_iff]; omega
      have hd2n : decide (j < 8) = d2 := by rw [← hd2]; congr 1; rw [eq_iff_iff]; omega
      clear hgo

      cases d1
      · skip
        go_upto_region 14 with fail
        generalize wr = V2 at HTr HBW HLw ⊢
        go_loopw [4, 8] (fun tv i wr => ∃ (m : Nat) (Q : ByteArray), m ≤ xs.length ∧ tv = .string Q ∧ i = .int .i64 (m : Int) ∧ Q.size ≤ 536870912 ∧ Q.data.toList = ptexts (xs.drop m) ∧ Below V2.heap.size V2 wr) (fun _ i _ => xs.length - (intOf i).toNat)
        case atStart => exact ⟨0, S, Nat.zero_le _, rfl, rfl, hSz, HSx.out, Below.refl _ _⟩
        case round =>
          obtain ⟨m, Q, hm, rfl, rfl, hQs, hQ, hB⟩ := hrel
          have HB2 := Lib.hid hB
          have HQ := Lib.hid hQ
          clear hB hQ
          by_cases hlt : m < xs.length
          · have e1 : decide ((m : Int) < (xs.length : Int)) = true := decide_eq_true (by omega)
            obtain ⟨ws, hr, hv⟩ := HTr.out
            rcases hr with h | ⟨b, off, rfl, hbs, hc⟩
            · omega
            obtain ⟨hfx, hnx, hbk⟩ := HG.out xs[m] (List.getElem_mem hlt)
            have hx := hv m xs[m] (List.getElem?_eq_getElem hlt)
            have hdr : xs.drop m = xs[m] :: xs.drop (m + 1) := drop_cons hlt
            obtain ⟨k2, n2, s2, a2, m2, c2, hvm⟩ := hx.form
            have hC : CellS b (off + m * 4) (.int .i64 k2) (.int .i64 n2) (.string s2) (.slice a2 m2 c2) wr := ((hc m hlt).below HB2.out hbs).of hvm
            rw [hvm] at hx
            have hQ := HQ.out
            obtain ⟨x, hxe⟩ : ∃ x, xs[m] = x := ⟨_, rfl⟩
            rw [hdr, hxe] at hQ
            rw [hxe] at hfx hnx hx hbk
            obtain ⟨g1, g2, g3⟩ := pGet_next hfx hnx hQ
            obtain ⟨n, hn⟩ : ∃ n, (pPut x).length = n := ⟨_, rfl⟩
            rw [hn] at g1 g2 g3
            have HGt := Lib.hid (Get_any Q wr (HLw.out.keep HB2.out) (by omega))
            rw [g1] at HGt
            have G3 := Lib.hid g3
            have HX := Lib.hid (hx.keep HB2.out)
            have HC := Lib.hid hC
            have hn2 : (n : Int) ≤ (Q.size : Int) := by omega
            clear hc hv hx hfx hnx hdr hvm hQ hxe g1 g3 hn hC
            go_upto_region 17 with (go_at_call 8; refine HGt.out.mono ?_; rintro e' w5 ⟨v3, hp, rfl, hb⟩; obtain ⟨k3, n3, s3, a3, m3, c3, rfl⟩ := hp.form; have B5 := Lib.hid (below_alloc (below_on HB2.out hb) (.cells #[.int .i64 k3, .int .i64 n3, .string s3, .slice a3 m3 c3] 27)); have C5 := Lib.hid ((HC.out.keep hb).keep (below_alloc (Below.refl _ _) (.cells #[.int .i64 k3, .int .i64 n3, .string s3, .slice a3 m3 c3] 27))); have Y5 := Lib.hid ((Box4.new w5 (.int .i64 k3) (.int .i64 n3) (.string s3) (.slice a3 m3 c3) 27).1); have P5 := Lib.hid (hp.pat.keep (below_alloc (Below.refl _ _) (.cells #[.int .i64 k3, .int .i64 n3, .string s3, .slice a3 m3 c3] 27))); have X5 := Lib.hid ((HX.out.keep hb).keep (below_alloc (Below.refl _ _) (.cells #[.int .i64 k3, .int .i64 n3, .string s3, .slice a3 m3 c3] 27))); clear hp hb)
            generalize w5.alloc (.cells #[.int .i64 k3, .int .i64 n3, .string s3, .slice a3 m3 c3] 27) = V5 at B5 C5 Y5 P5 X5 ⊢
            generalize w5.heap.size = q at Y5 ⊢
            have hD : Below V5.heap.size V5 V5.drew := Below.drew (Below.refl _ _)
            have B6 := Lib.hid (below_on B5.out hD)
            have C6 := Lib.hid (C5.out.keep hD)
            have Y6 : Hid (BoxS q (.int .i64 k3) (.int .i64 n3) (.string s3) (.slice a3 m3 c3) V5.drew) := Lib.hid (BoxS.keep Y5.out hD)
            have P6 := Lib.hid (P5.out.keep hD)
            have X6 := Lib.hid (X5.out.keep hD)
            clear hD B5 C5 Y5 P5 X5
            refine wp_region_held_drew (S := fun U => CellS b (off + m * 4) (.int .i64 k2) (.int .i64 n2) (.string s2) (.slice a2 m2 c2) U ∧ BoxS q (.int .i64 k3) (.int .i64 n3) (.string s3) (.slice a3 m3 c3) U) (by kernel_rfl) ⟨C6.out, Y6.out⟩ (fun hHeld => ?_)
            generalize V5.drew = wd at B6 C6 Y6 P6 X6 hHeld ⊢
            refine wpAnyH_take (i := 0) (v := ?_) rfl (by kernel_rfl) (by kernel_rfl) (by kernel_rfl) (fun _ _ _ h => h) (Or.inl ⟨by kernel_rfl, ?_⟩) (by assumption) ?_
            rotate_left
            · intro w hSw
              obtain ⟨⟨hT0, hT1, hT2, hT3⟩, hS0, hS1, hS2, hS3⟩ := hSw
              go_simp
              all_goals with_reducible rfl
            simp only [Act.put, List.getElem_toArray, List.getElem_cons_zero, List.getElem_cons_succ, List.setIfInBounds_toArray, List.set_cons_zero, List.set_cons_succ]
            refine wpAnyH_take (i := 1) (v := ?_) rfl (by kernel_rfl) (by kernel_rfl) (by kernel_rfl) (fun _ _ _ h => h) (Or.inl ⟨by kernel_rfl, ?_⟩) (by assumption) ?_
            rotate_left
            · intro w hSw
              obtain ⟨⟨hT0, hT1, hT2, hT3⟩, hS0, hS1, hS2, hS3⟩ := hSw
              go_simp
              all_goals with_reducible rfl
            simp only [Act.put, List.getElem_toArray, List.getElem_cons_zero, List.getElem_cons_succ, List.setIfInBounds_toArray, List.set_cons_zero, List.set_cons_succ]
            refine wpAnyH_take (i := 2) (v := ?_) rfl (by kernel_rfl) (by kernel_rfl) (by kernel_rfl) (fun _ _ _ h => h) (Or.inl ⟨by kernel_rfl, ?_⟩) (by assumption) ?_
            rotate_left
            · intro w hSw
              obtain ⟨⟨hT0, hT1, hT2, hT3⟩, hS0, hS1, hS2, hS3⟩ := hSw
              go_simp
              all_goals with_reducible rfl
            simp only [Act.put, List.getElem_toArray, List.getElem_cons_zero, List.getElem_cons_succ, List.setIfInBounds_toArray, List.set_cons_zero, List.set_cons_succ]
            refine wpAnyH_take (i := 3) (v := ?_) rfl (by kernel_rfl) (by kernel_rfl) (by kernel_rfl) (fun _ _ _ h => h) (Or.inl ⟨by kernel_rfl, ?_⟩) (by assumption) ?_
            rotate_left
            · intro w hSw
              obtain ⟨⟨hT0, hT1, hT2, hT3⟩, hS0, hS1, hS2, hS3⟩ := hSw
              go_simp
              all_goals with_reducible rfl
            simp only [Act.put, List.getElem_toArray, List.getElem_cons_zero, List.getElem_cons_succ, List.setIfInBounds_toArray, List.set_cons_zero, List.set_cons_succ]
            refine wpAnyH_take (i := 5) (v := ?_) rfl (by kernel_rfl) (by kernel_rfl) (by kernel_rfl) (fun _ _ _ h => h) (Or.inl ⟨by kernel_rfl, ?_⟩) (by assumption) ?_
            rotate_left
            · intro w hSw
              obtain ⟨⟨hT0, hT1, hT2, hT3⟩, hS0, hS1, hS2, hS3⟩ := hSw
              go_simp
              all_goals with_reducible rfl
            simp only [Act.put, List.getElem_toArray, List.getElem_cons_zero, List.getElem_cons_succ, List.setIfInBounds_toArray, List.set_cons_zero, List.set_cons_succ]
            refine wpAnyH_take (i := 6) (v := ?_) rfl (by kernel_rfl) (by kernel_rfl) (by kernel_rfl) (fun _ _ _ h => h) (Or.inl ⟨by kernel_rfl, ?_⟩) (by assumption) ?_
            rotate_left
            · intro w hSw
              obtain ⟨⟨hT0, hT1, hT2, hT3⟩, hS0, hS1, hS2, hS3⟩ := hSw
              go_simp
              all_goals with_reducible rfl
            simp only [Act.put, List.getElem_toArray, List.getElem_cons_zero, List.getElem_cons_succ, List.setIfInBounds_toArray, List.set_cons_zero, List.set_cons_succ]
            refine wpAnyH_take (i := 7) (v := ?_) rfl (by kernel_rfl) (by kernel_rfl) (by kernel_rfl) (fun _ _ _ h => h) (Or.inl ⟨by kernel_rfl, ?_⟩) (by assumption) ?_
            rotate_left
            · intro w hSw
              obtain ⟨⟨hT0, hT1, hT2, hT3⟩, hS0, hS1, hS2, hS3⟩ := hSw
              go_simp
              all_goals with_reducible rfl
            simp only [Act.put, List.getElem_toArray, List.getElem_cons_zero, List.getElem_cons_succ, List.setIfInBounds_toArray, List.set_cons_zero, List.set_cons_succ]
            refine wpAnyH_take (i := 8) (v := ?_) rfl (by kernel_rfl) (by kernel_rfl) (by kernel_rfl) (fun _ _ _ h => h) (Or.inl ⟨by kernel_rfl, ?_⟩) (by assumption) ?_
            rotate_left
            · intro w hSw
              obtain ⟨⟨hT0, hT1, hT2, hT3⟩, hS0, hS1, hS2, hS3⟩ := hSw
              go_simp
              all_goals with_reducible rfl
            simp only [Act.put, List.getElem_toArray, List.getElem_cons_zero, List.getElem_cons_succ, List.setIfInBounds_toArray, List.set_cons_zero, List.set_cons_succ]
            refine wpAnyH_ready (rs := [4]) (by kernel_rfl) (by simp) ?_
            refine AllReadyH.cons rfl (fun K hK => ?_) AllReadyH.nil
            go_simp
            go_at_call 10
            refine (of_any P6.out _ (Below.refl _ _) hbk).mono ?_
            rintro e' w7 ⟨v7, rfl, hp, hb⟩
            obtain ⟨k7, n7, s7, a7, m7, c7, rfl⟩ := hp.form
            have B7 := Lib.hid (below_on B6.out hb)
            have C7 := Lib.hid (C6.out.keep hb)
            have Y7 := Lib.hid (Y6.out.keep hb)
            have X7 := Lib.hid (X6.out.keep hb)
            have P7 := Lib.hid hp.pat
            clear hp hb
            refine hK.out _ _ ⟨C7.out, Y7.out⟩ (fun hHeld => ?_)
            clear hK K
            try simp only [Act.put, List.setIfInBounds_toArray, List.set_cons_zero, List.set_cons_succ]
            refine wpAnyH_ready (rs := [9]) (by kernel_rfl) (by simp) ?_
            refine AllReadyH.cons rfl (fun K hK => ?_) AllReadyH.nil
            go_simp
            go_at_call 9
            refine (req_same P7.out _ w7 X7.out (Below.refl _ _)).mono ?_
            rintro e' w8 ⟨rfl, hb⟩
            have B8 := Lib.hid (below_on B7.out hb)
            have C8 := Lib.hid (C7.out.keep hb)
            have Y8 := Lib.hid (Y7.out.keep hb)
            clear hb
            refine hK.out _ _ ⟨C8.out, Y8.out⟩ (fun hHeld => ?_)
            clear hK K
            try simp only [Act.put, List.setIfInBounds_toArray, List.set_cons_zero, List.set_cons_succ]
            refine wpAnyH_take (i := 10) (v := ?_) rfl (by kernel_rfl) (by kernel_rfl) (by kernel_rfl) (fun _ _ _ h => h) (Or.inl ⟨by kernel_rfl, ?_⟩) (by assumption) ?_
            rotate_left
            · intro w hSw
              obtain ⟨⟨hT0, hT1, hT2, hT3⟩, hS0, hS1, hS2, hS3⟩ := hSw
              go_simp
              all_goals with_reducible rfl
            simp only [Act.put, List.getElem_toArray, List.getElem_cons_zero, List.getElem_cons_succ, List.setIfInBounds_toArray, List.set_cons_zero, List.set_cons_succ]
            refine wpAnyH_take (i := 11) (v := ?_) rfl (by kernel_rfl) (by kernel_rfl) (by kernel_rfl) (fun _ _ _ h => h) (Or.inl ⟨by kernel_rfl, ?_⟩) (by assumption) ?_
            rotate_left
            · intro w hSw
              obtain ⟨⟨hT0, hT1, hT2, hT3⟩, hS0, hS1, hS2, hS3⟩ := hSw
              go_simp
              all_goals with_reducible rfl
            simp only [Act.put, List.getElem_toArray, List.getElem_cons_zero, List.getElem_cons_succ, List.setIfInBounds_toArray, List.set_cons_zero, List.set_cons_succ]
            refine wpAnyH_done (by kernel_rfl) ?_ _
            go_wp2_with fail
            exact ⟨⟨m + 1, _, by omega, rfl, by go_num, by rw [ByteArray.size_extract]; omega, G3.out, B8.out⟩, by simp [intOf]; omega⟩
          · have e1 : decide ((m : Int) < (xs.length : Int)) = false := decide_eq_false (by omega)
            have he : Q.toList.isEmpty = true := by
              rw [Lib.toList_data, HQ.out, List.drop_of_length_le (by omega)]
              rfl
            go_wp2_with fail
            go_ret
            exact ⟨rfl, HBW.out.trans (HB2.out.mono HBW.out.size)⟩
      · have hd2f : d2 = false := by simpa using hd
        subst hd2f
        go_upto_region 14 with fail
        generalize wr = V2 at HTr HBW HLw ⊢
        go_loopw [4, 8] (fun tv i wr => ∃ (m : Nat) (Q : ByteArray), m ≤ xs.length ∧ tv = .string Q ∧ i = .int .i64 (m : Int) ∧ Q.size ≤ 536870912 ∧ Q.data.toList = ptexts (xs.drop m) ∧ Below V2.heap.size V2 wr) (fun _ i _ => xs.length - (intOf i).toNat)
        case atStart => exact ⟨0, S, Nat.zero_le _, rfl, rfl, hSz, HSx.out, Below.refl _ _⟩
        case round =>
          obtain ⟨m, Q, hm, rfl, rfl, hQs, hQ, hB⟩ := hrel
          have HB2 := Lib.hid hB
          have HQ := Lib.hid hQ
          clear hB hQ
          by_cases hlt : m < xs.length
          · have e1 : decide ((m : Int) < (xs.length : Int)) = true := decide_eq_true (by omega)
            obtain ⟨ws, hr, hv⟩ := HTr.out
            rcases hr with h | ⟨b, off, rfl, hbs, hc⟩
            · omega
            obtain ⟨hfx, hnx, hbk⟩ := HG.out xs[m] (List.getElem_mem hlt)
            have hx := hv m xs[m] (List.getElem?_eq_getElem hlt)
            have hdr : xs.drop m = xs[m] :: xs.drop (m + 1) := drop_cons hlt
            obtain ⟨k2, n2, s2, a2, m2, c2, hvm⟩ := hx.form
            have hC : CellS b (off + m * 4) (.int .i64 k2) (.int .i64 n2) (.string s2) (.slice a2 m2 c2) wr := ((hc m hlt).below HB2.out hbs).of hvm
            rw [hvm] at hx
            have hQ := HQ.out
            obtain ⟨x, hxe⟩ : ∃ x, xs[m] = x := ⟨_, rfl⟩
            rw [hdr, hxe] at hQ
            rw [hxe] at hfx hnx hx hbk
            obtain ⟨g1, g2, g3⟩ := pGet_next hfx hnx hQ
            obtain ⟨n, hn⟩ : ∃ n, (pPut x).length = n := ⟨_, rfl⟩
            rw [hn] at g1 g2 g3
            have HGt := Lib.hid (Get_any Q wr (HLw.out.keep HB2.out) (by omega))
            rw [g1] at HGt
            have G3 := Lib.hid g3
            have HX := Lib.hid (hx.keep HB2.out)
            have HC := Lib.hid hC
            have hn2 : (n : Int) ≤ (Q.size : Int) := by omega
            clear hc hv hx hfx hnx hdr hvm hQ hxe g1 g3 hn hC
            go_upto_region 17 with (go_at_call 8; refine HGt.out.mono ?_; rintro e' w5 ⟨v3, hp, rfl, hb⟩; obtain ⟨k3, n3, s3, a3, m3, c3, rfl⟩ := hp.form; have B5 := Lib.hid (below_alloc (below_on HB2.out hb) (.cells #[.int .i64 k3, .int .i64 n3, .string s3, .slice a3 m3 c3] 27)); have C5 := Lib.hid ((HC.out.keep hb).keep (below_alloc (Below.refl _ _) (.cells #[.int .i64 k3, .int .i64 n3, .string s3, .slice a3 m3 c3] 27))); have Y5 := Lib.hid ((Box4.new w5 (.int .i64 k3) (.int .i64 n3) (.string s3) (.slice a3 m3 c3) 27).1); have P5 := Lib.hid (hp.pat.keep (below_alloc (Below.refl _ _) (.cells #[.int .i64 k3, .int .i64 n3, .string s3, .slice a3 m3 c3] 27))); have X5 := Lib.hid ((HX.out.keep hb).keep (below_alloc (Below.refl _ _) (.cells #[.int .i64 k3, .int .i64 n3, .string s3, .slice a3 m3 c3] 27))); clear hp hb)
            generalize w5.alloc (.cells #[.int .i64 k3, .int .i64 n3, .string s3, .slice a3 m3 c3] 27) = V5 at B5 C5 Y5 P5 X5 ⊢
            generalize w5.heap.size = q at Y5 ⊢
            have hD : Below V5.heap.size V5 V5.drew := Below.drew (Below.refl _ _)
            have B6 := Lib.hid (below_on B5.out hD)
            have C6 := Lib.hid (C5.out.keep hD)
            have Y6 : Hid (BoxS q (.int .i64 k3) (.int .i64 n3) (.string s3) (.slice a3 m3 c3) V5.drew) := Lib.hid (BoxS.keep Y5.out hD)
            have P6 := Lib.hid (P5.out.keep hD)
            have X6 := Lib.hid (X5.out.keep hD)
            clear hD B5 C5 Y5 P5 X5
            refine wp_region_held_drew (S := fun U => CellS b (off + m * 4) (.int .i64 k2) (.int .i64 n2) (.string s2) (.slice a2 m2 c2) U ∧ BoxS q (.int .i64 k3) (.int .i64 n3) (.string s3) (.slice a3 m3 c3) U) (by kernel_rfl) ⟨C6.out, Y6.out⟩ (fun hHeld => ?_)
            generalize V5.drew = wd at B6 C6 Y6 P6 X6 hHeld ⊢
            refine wpAnyH_take (i := 0) (v := ?_) rfl (by kernel_rfl) (by kernel_rfl) (by kernel_rfl) (fun _ _ _ h => h) (Or.inl ⟨by kernel_rfl, ?_⟩) (by assumption) ?_
            rotate_left
            · intro w hSw
              obtain ⟨⟨hT0, hT1, hT2, hT3⟩, hS0, hS1, hS2, hS3⟩ := hSw
              go_simp
              all_goals with_reducible rfl
            simp only [Act.put, List.getElem_toArray, List.getElem_cons_zero, List.getElem_cons_succ, List.setIfInBounds_toArray, List.set_cons_zero, List.set_cons_succ]
            refine wpAnyH_take (i := 1) (v := ?_) rfl (by kernel_rfl) (by kernel_rfl) (by kernel_rfl) (fun _ _ _ h => h) (Or.inl ⟨by kernel_rfl, ?_⟩) (by assumption) ?_
            rotate_left
            · intro w hSw
              obtain ⟨⟨hT0, hT1, hT2, hT3⟩, hS0, hS1, hS2, hS3⟩ := hSw
              go_simp
              all_goals with_reducible rfl
            simp only [Act.put, List.getElem_toArray, List.getElem_cons_zero, List.getElem_cons_succ, List.setIfInBounds_toArray, List.set_cons_zero, List.set_cons_succ]
            refine wpAnyH_take (i := 2) (v := ?_) rfl (by kernel_rfl) (by kernel_rfl) (by kernel_rfl) (fun _ _ _ h => h) (Or.inl ⟨by kernel_rfl, ?_⟩) (by assumption) ?_
            rotate_left
            · intro w hSw
              obtain ⟨⟨hT0, hT1, hT2, hT3⟩, hS0, hS1, hS2, hS3⟩ := hSw
              go_simp
              all_goals with_reducible rfl
            simp only [Act.put, List.getElem_toArray, List.getElem_cons_zero, List.getElem_cons_succ, List.setIfInBounds_toArray, List.set_cons_zero, List.set_cons_succ]
            refine wpAnyH_take (i := 3) (v := ?_) rfl (by kernel_rfl) (by kernel_rfl) (by kernel_rfl) (fun _ _ _ h => h) (Or.inl ⟨by kernel_rfl, ?_⟩) (by assumption) ?_
            rotate_left
            · intro w hSw
              obtain ⟨⟨hT0, hT1, hT2, hT3⟩, hS0, hS1, hS2, hS3⟩ := hSw
              go_simp
              all_goals with_reducible rfl
            simp only [Act.put, List.getElem_toArray, List.getElem_cons_zero, List.getElem_cons_succ, List.setIfInBounds_toArray, List.set_cons_zero, List.set_cons_succ]
            refine wpAnyH_take (i := 5) (v := ?_) rfl (by kernel_rfl) (by kernel_rfl) (by kernel_rfl) (fun _ _ _ h => h) (Or.inl ⟨by kernel_rfl, ?_⟩) (by assumption) ?_
            rotate_left
            · intro w hSw
              obtain ⟨⟨hT0, hT1, hT2, hT3⟩, hS0, hS1, hS2, hS3⟩ := hSw
              go_simp
              all_goals with_reducible rfl
            simp only [Act.put, List.getElem_toArray, List.getElem_cons_zero, List.getElem_cons_succ, List.setIfInBounds_toArray, List.set_cons_zero, List.set_cons_succ]
            refine wpAnyH_take (i := 6) (v := ?_) rfl (by kernel_rfl) (by kernel_rfl) (by kernel_rfl) (fun _ _ _ h => h) (Or.inl ⟨by kernel_rfl, ?_⟩) (by assumption) ?_
            rotate_left
            · intro w hSw
              obtain ⟨⟨hT0, hT1, hT2, hT3⟩, hS0, hS1, hS2, hS3⟩ := hSw
              go_simp
              all_goals with_reducible rfl
            simp only [Act.put, List.getElem_toArray, List.getElem_cons_zero, List.getElem_cons_succ, List.setIfInBounds_toArray, List.set_cons_zero, List.set_cons_succ]
            refine wpAnyH_take (i := 7) (v := ?_) rfl (by kernel_rfl) (by kernel_rfl) (by kernel_rfl) (fun _ _ _ h => h) (Or.inl ⟨by kernel_rfl, ?_⟩) (by assumption) ?_
            rotate_left
            · intro w hSw
              obtain ⟨⟨hT0, hT1, hT2, hT3⟩, hS0, hS1, hS2, hS3⟩ := hSw
              go_simp
              all_goals with_reducible rfl
            simp only [Act.put, List.getElem_toArray, List.getElem_cons_zero, List.getElem_cons_succ, List.setIfInBounds_toArray, List.set_cons_zero, List.set_cons_succ]
            refine wpAnyH_take (i := 8) (v := ?_) rfl (by kernel_rfl) (by kernel_rfl) (by kernel_rfl) (fun _ _ _ h => h) (Or.inl ⟨by kernel_rfl, ?_⟩) (by assumption) ?_
            rotate_left
            · intro w hSw
              obtain ⟨⟨hT0, hT1, hT2, hT3⟩, hS0, hS1, hS2, hS3⟩ := hSw
              go_simp
              all_goals with_reducible rfl
            simp only [Act.put, List.getElem_toArray, List.getElem_cons_zero, List.getElem_cons_succ, List.setIfInBounds_toArray, List.set_cons_zero, List.set_cons_succ]
            refine wpAnyH_ready (rs := [4]) (by kernel_rfl) (by simp) ?_
            refine AllReadyH.cons rfl (fun K hK => ?_) AllReadyH.nil
            go_simp
            go_at_call 10
            refine (of_any P6.out _ (Below.refl _ _) hbk).mono ?_
            rintro e' w7 ⟨v7, rfl, hp, hb⟩
            obtain ⟨k7, n7, s7, a7, m7, c7, rfl⟩ := hp.form
            have B7 := Lib.hid (below_on B6.out hb)
            have C7 := Lib.hid (C6.out.keep hb)
            have Y7 := Lib.hid (Y6.out.keep hb)
            have X7 := Lib.hid (X6.out.keep hb)
            have P7 := Lib.hid hp.pat
            clear hp hb
            refine hK.out _ _ ⟨C7.out, Y7.out⟩ (fun hHeld => ?_)
            clear hK K
            try simp only [Act.put, List.setIfInBounds_toArray, List.set_cons_zero, List.set_cons_succ]
            refine wpAnyH_ready (rs := [9]) (by kernel_rfl) (by simp) ?_
            refine AllReadyH.cons rfl (fun K hK => ?_) AllReadyH.nil
            go_simp
            go_at_call 9
            refine (req_same P7.out _ w7 X7.out (Below.refl _ _)).mono ?_
            rintro e' w8 ⟨rfl, hb⟩
            have B8 := Lib.hid (below_on B7.out hb)
            have C8 := Lib.hid (C7.out.keep hb)
            have Y8 := Lib.hid (Y7.out.keep hb)
            clear hb
            refine hK.out _ _ ⟨C8.out, Y8.out⟩ (fun hHeld => ?_)
            clear hK K
            try simp only [Act.put, List.setIfInBounds_toArray, List.set_cons_zero, List.set_cons_succ]
            refine wpAnyH_take (i := 10) (v := ?_) rfl (by kernel_rfl) (by kernel_rfl) (by kernel_rfl) (fun _ _ _ h => h) (Or.inl ⟨by kernel_rfl, ?_⟩) (by assumption) ?_
            rotate_left
            · intro w hSw
              obtain ⟨⟨hT0, hT1, hT2, hT3⟩, hS0, hS1, hS2, hS3⟩ := hSw
              go_simp
              all_goals with_reducible rfl
            simp only [Act.put, List.getElem_toArray, List.getElem_cons_zero, List.getElem_cons_succ, List.setIfInBounds_toArray, List.set_cons_zero, List.set_cons_succ]
            refine wpAnyH_take (i := 11) (v := ?_) rfl (by kernel_rfl) (by kernel_rfl) (by kernel_rfl) (fun _ _ _ h => h) (Or.inl ⟨by kernel_rfl, ?_⟩) (by assumption) ?_
            rotate_left
            · intro w hSw
              obtain ⟨⟨hT0, hT1, hT2, hT3⟩, hS0, hS1, hS2, hS3⟩ := hSw
              go_simp
              all_goals with_reducible rfl
            simp only [Act.put, List.getElem_toArray, List.getElem_cons_zero, List.getElem_cons_succ, List.setIfInBounds_toArray, List.set_cons_zero, List.set_cons_succ]
            refine wpAnyH_done (by kernel_rfl) ?_ _
            go_wp2_with fail
            exact ⟨⟨m + 1, _, by omega, rfl, by go_num, by rw [ByteArray.size_extract]; omega, G3.out, B8.out⟩, by simp [intOf]; omega⟩
          · have e1 : decide ((m : Int) < (xs.length : Int)) = false := decide_eq_false (by omega)
            have he : Q.toList.isEmpty = true := by
              rw [Lib.toList_data, HQ.out, List.drop_of_length_le (by omega)]
              rfl
            go_wp2_with fail
            go_ret
            exact ⟨rfl, HBW.out.trans (HB2.out.mono HBW.out.size)⟩
end Go.Proofs.YthbbfdlacclccaaDoor
