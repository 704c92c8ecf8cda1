/- Walk of law1's begun. Walk of law1's Begun. -/
import Derived.Test.YthbbfdlacclccaaDoorM9
namespace Go.Proofs.YthbbfdlacclccaaDoor
open Go.RowKit

def bgW (w : World) : World := (w.alloc (.cells #[.int .i64 1, .int .i64 (-5), .string ⟨#[]⟩, .slice none 0 0, .int .i64 2, .int .i64 0, .string ⟨#[97, 98]⟩, .slice none 0 0] 27)).alloc (.cells #[.int .i64 3, .int .i64 0, .string ⟨#[]⟩, .slice (some ⟨w.heap.size, 0, none⟩) 2 2] 27)
def bgA (w : World) : Value := .agg #[.int .i64 3, .int .i64 0, .string ⟨#[]⟩, .slice (some ⟨w.heap.size, 0, none⟩) 2 2]
theorem bg_pat (w : World) : PAt (bgW w) bgV (bgA w) := by
  have c : ∀ i : Nat, (bgW w).cell? ⟨w.heap.size, i, none⟩ = #[Value.int .i64 1, .int .i64 (-5), .string ⟨#[]⟩, .slice none 0 0, .int .i64 2, .int .i64 0, .string ⟨#[97, 98]⟩, .slice none 0 0][i]? := fun i => by
    unfold bgW
    rw [World.cell?_alloc_lt _ _ _ (by simp)]; exact World.cell?_alloc_new w _ _ _
  refine .mk 3 0 ⟨#[]⟩ [.mk 1 (-5) ⟨#[]⟩ [], .mk 2 0 ⟨#[97, 98]⟩ []] _ 2 (fun j => if j = 0 then .agg #[.int .i64 1, .int .i64 (-5), .string ⟨#[]⟩, .slice none 0 0] else .agg #[.int .i64 2, .int .i64 0, .string ⟨#[97, 98]⟩, .slice none 0 0]) (by decide) (by decide) (by decide) (by decide) ?_ ?_
  · refine Or.inr ⟨w.heap.size, 0, rfl, by simp only [bgW, World.size_alloc]; omega, fun j hj => ?_⟩
    have : j = 0 ∨ j = 1 := by simp at hj; omega
    rcases this with rfl | rfl
    · exact ⟨_, _, _, _, rfl, c 0, c 1, c 2, c 3⟩
    · exact ⟨_, _, _, _, rfl, c 4, c 5, c 6, c 7⟩
  · intro j x hx
    rcases j with _ | _ | j
    · simp at hx; subst hx
      exact (flat_atO (fun _ => True) _ 1 (-5) ⟨#[]⟩ (by decide) (by decide) (by decide)).pat
    · simp at hx; subst hx
      exact (flat_atO (fun _ => True) _ 2 0 ⟨#[97, 98]⟩ (by decide) (by decide) (by decide)).pat
    · simp at hx
theorem mark_nil (w : World) : Calls Tryd.prog 17 #[.slice none 0 0] w fun e w' => e = .returned (cv (cmark [])) ∧ w = w' := mark_cv none 0 [] w (by decide) (Or.inl rfl)
theorem mark_zero (w : World) (b : Nat) (h : w.cell? ⟨b, 0, none⟩ = some (.int .u8 0)) : Calls Tryd.prog 17 #[.slice (some ⟨b, 0, none⟩) 1 1] w fun e w' => e = .returned (cv (cmark [0])) ∧ w = w' :=
  mark_cv (some ⟨b, 0, none⟩) 1 [0] w (by decide) (Or.inr ⟨b, 0, rfl, cell_old h, fun j u hu => by
    rcases j with _ | j
    · simp [Lib.byteCells] at hu; subst hu; exact h
    · simp [Lib.byteCells] at hu⟩)
theorem text_7255 (w : World) : Calls Tryd.prog 16 #[.complex .f64 4619567317775286272 4643176031446892544] w fun e w' => e = .returned (.string ⟨#[48, 48, 48, 55, 48, 48, 102, 102]⟩) ∧ Below w.heap.size w w' := by
  rw [k7255]
  refine (text_cv (7, 255) w).mono ?_
  rintro e w' ⟨rfl, hb⟩
  refine ⟨?_, hb⟩
  rw [show hex4 (rs ((7 : Int), (255 : Int)).1).toNat ++ hex4 (rs ((7 : Int), (255 : Int)).2).toNat = [48, 48, 48, 55, 48, 48, 102, 102] from bg_hex]
theorem read_7255 (w : World) : Calls Tryd.prog 15 #[.string ⟨#[48, 48, 48, 55, 48, 48, 102, 102]⟩] w fun e w' => e = .returned (.tuple #[cv (7, 255), .bool true]) ∧ Below w.heap.size w w' := by
  have := read_any ⟨#[48, 48, 48, 55, 48, 48, 102, 102]⟩ w (by decide)
  rw [show readZ (⟨#[48, 48, 48, 55, 48, 48, 102, 102]⟩ : ByteArray).data.toList = some (7, 255) from bg_read] at this
  exact this
theorem below_all {a b c : World} (h : Below a.heap.size a b) (hb : Below b.heap.size b c) : Below a.heap.size a c := below_on h hb
theorem get_g1 (w : World) (L : Laid w) : Calls Tryd.prog 8 #[.string ⟨(bgT.data.toList ++ [122]).toArray⟩] w fun e w' => ∃ x c0 c1 c2 c3, peq x bgV = true ∧ PAt w' x (.agg #[c0, c1, c2, c3]) ∧ e = .returned (.tuple #[.agg #[c0, c1, c2, c3], .int .i64 14, .int .i64 0]) ∧ Below w.heap.size w w' := by
  refine (Get_any _ w L (by decide +kernel)).mono ?_
  rintro e w' ⟨v, hp, rfl, hb⟩
  obtain ⟨k, n, s, a, m, c, rfl⟩ := hp.form
  have h2 := bg_get1
  rw [Prod.ext_iff] at h2
  exact ⟨_, .int .i64 k, .int .i64 n, .string s, .slice a m c, bg_get2, hp.pat, by rw [h2.1, h2.2]; rfl, hb⟩
theorem get_g3 (w : World) (L : Laid w) : Calls Tryd.prog 8 #[.string ⟨#[49, 48, 58, 50]⟩] w fun e w' => ∃ k n s a m c, e = .returned (.tuple #[.agg #[.int .i64 k, .int .i64 n, .string s, .slice a m c], .int .i64 0, .int .i64 2]) ∧ Below w.heap.size w w' := by
  refine (Get_any _ w L (by decide +kernel)).mono ?_
  rintro e w' ⟨v, hp, rfl, hb⟩
  obtain ⟨k, n, s, a, m, c, rfl⟩ := hp.form
  have h2 := bg_get3
  rw [Prod.ext_iff] at h2
  exact ⟨k, n, s, a, m, c, by rw [h2.1, h2.2]; rfl, hb⟩
theorem get_g4 (w : World) (L : Laid w) : Calls Tryd.prog 8 #[.string ⟨#[120]⟩] w fun e w' => ∃ k n s a m c, e = .returned (.tuple #[.agg #[.int .i64 k, .int .i64 n, .string s, .slice a m c], .int .i64 0, .int .i64 1]) ∧ Below w.heap.size w w' := by
  refine (Get_any _ w L (by decide +kernel)).mono ?_
  rintro e w' ⟨v, hp, rfl, hb⟩
  obtain ⟨k, n, s, a, m, c, rfl⟩ := hp.form
  have h2 := bg_get4
  rw [Prod.ext_iff] at h2
  exact ⟨k, n, s, a, m, c, by rw [h2.1, h2.2]; rfl, hb⟩
set_option maxRecDepth 100000 in
set_option maxHeartbeats 6400000 in
theorem begun_any (w : World) (L : Laid w) : Calls Tryd.prog 5 #[] w fun e w' => e = .returned (.bool true) ∧ Below w.heap.size w w' := by
  have H23 := Lib.hid k23
  have HV := Lib.hid (bg_pat w)
  have BV : Hid (Below w.heap.size w (bgW w)) := Lib.hid (below_alloc (below_alloc (Below.refl _ _) _) _)
  obtain ⟨T, hT⟩ : ∃ T, bgT = T := ⟨_, rfl⟩
  have hz : T.size = 14 := by rw [← hT]; rfl
  have htl : T.data.toList.length = 14 := by rw [← hT]; rfl
  have hcat : ∀ w, (Op.stringOp .add T ⟨#[122]⟩).run Tryd.prog w = .ok (.string ⟨(T.data.toList ++ [122]).toArray⟩) w := fun w => run_cat (P := Tryd.prog) T.data.toList [122] (by simp [htl]) w
  have hsl : ∀ w, (Instr.slice 9 (.string T) none (some (.int .i64 4)) none).run Tryd.prog w = .ok (.string ⟨#[49, 48, 58, 50]⟩) w := fun w => by
    rw [run_slice_string_h w _ _ Tryd.underlying9 _ _ (by omega) (by omega), ← hT]; rfl
  have HP := Lib.hid (Put_pv HV.out (L.keep BV.out).1 fun _ => bg_len)
  rw [bg_put, show (⟨bgT.data.toList.toArray⟩ : ByteArray) = T from hT ▸ rfl] at HP
  have HG1 : Hid (∀ W, Laid W → Calls Tryd.prog 8 #[.string ⟨(T.data.toList ++ [122]).toArray⟩] W fun e w' => ∃ x c0 c1 c2 c3, peq x bgV = true ∧ PAt w' x (.agg #[c0, c1, c2, c3]) ∧ e = .returned (.tuple #[.agg #[c0, c1, c2, c3], .int .i64 14, .int .i64 0]) ∧ Below W.heap.size W w') := Lib.hid (by rw [← hT]; exact get_g1)
  have hT14 : (T.toList == [49, 48, 58, 50, 58, 45, 53, 35, 50, 58, 97, 98, 44, 93]) = true := by rw [← hT]; decide +kernel
  have YV : Hid (Box4 (w.heap.size + 1) (.int .i64 3) (.int .i64 0) (.string ⟨#[]⟩) (.slice (some ⟨w.heap.size, 0, none⟩) 2 2) (bgW w)) := Lib.hid (by
    have := Box4.new (w.alloc (.cells #[.int .i64 1, .int .i64 (-5), .string ⟨#[]⟩, .slice none 0 0, .int .i64 2, .int .i64 0, .string ⟨#[97, 98]⟩, .slice none 0 0] 27)) (.int .i64 3) (.int .i64 0) (.string ⟨#[]⟩) (.slice (some ⟨w.heap.size, 0, none⟩) 2 2) 27
    simpa [bgW] using this)
  have hg := eqGuard_cv
  have q1 : ∀ w, (binOp .eql 42 (cv (cmul (2, 3) (4, 5))) (.complex .f64 4679236989180968960 4626885667169763328)).run Tryd.prog w = .ok (.bool true) w := fun w => by rw [k655, run_eq_cv, eqZ_of bg_n1]
  have q2 : ∀ w, (binOp .eql 42 (cv (cmark [])) (.complex .f64 0 4607182418800017408)).run Tryd.prog w = .ok (.bool true) w := fun w => by rw [mark0_cv, run_eq_cv, eqZ_of (p := cmark []) (q := (0, 1)) rfl]
  have q3 : ∀ w, (binOp .eql 42 (cv (cmark [0])) (.complex .f64 4679237401497829376 4613937818241073152)).run Tryd.prog w = .ok (.bool true) w := fun w => by rw [k653, run_eq_cv, eqZ_of bg_n2]
  have q4 : ∀ w, (binOp .eql 42 (cv (7, 255)) (.complex .f64 4619567317775286272 4643176031446892544)).run Tryd.prog w = .ok (.bool true) w := fun w => by rw [k7255, run_eq_cv, eqZ_of (p := (7, 255)) (q := (7, 255)) rfl]
  have HL := Lib.hid L
  clear hT htl L
  go_enter Tryd.func5, Tryd.ntmps5
  go_wp2_with (go_at_call 14; rw [H23.out, show Value.complex .f64 4616189618054758400 4617315517961601024 = cv (4, 5) from cv_bits (by decide) (by decide)]; refine (mul_cv _ _ _).mono ?_; rintro e' w' ⟨rfl, rfl⟩)
  refine HP.out.mono ?_
  rintro e' w1 ⟨rfl, hb⟩
  have B1 := Lib.hid (below_on BV.out hb)
  have HV1 := Lib.hid (HV.out.keep hb)
  have Y1 := Lib.hid (YV.out.keep hb)
  clear hb HV YV BV HP
  go_wp2_with fail
  refine (HG1.out w1 (HL.out.keep B1.out)).mono ?_
  rintro e' w2 ⟨x, c0, c1, c2, c3, hpq, hp, rfl, hb⟩
  have bal : Below w2.heap.size w2 (w2.alloc (.cells #[c0, c1, c2, c3] 27)) := below_alloc (Below.refl _ _) _
  have B2 := Lib.hid (below_on (below_on B1.out hb) bal)
  have HV2 := Lib.hid ((HV1.out.keep hb).keep bal)
  have Y2 := Lib.hid ((Y1.out.keep hb).keep bal)
  have HX2 := Lib.hid (hp.keep bal)
  have Z2 := Lib.hid (Box4.new w2 c0 c1 c2 c3 27)
  have HPQ := Lib.hid hpq
  obtain ⟨k, n, s, a, m, c, e⟩ := hp.form
  simp only [Value.agg.injEq, Array.mk.injEq, List.cons.injEq, and_true] at e
  obtain ⟨rfl, rfl, rfl, rfl⟩ := e
  clear hb B1 HV1 Y1 hp hpq bal HG1
  go_wp2_with fail
  generalize (w2.alloc (.cells #[.int .i64 k, .int .i64 n, .string s, .slice a m c] 27)) = W2 at B2 HV2 Y2 HX2 Z2 ⊢
  refine (get_g3 W2 (HL.out.keep B2.out)).mono ?_
  rintro e' w3 ⟨k3, n3, s3, a3, m3, c3, rfl, hb⟩
  have bal : Below w3.heap.size w3 (w3.alloc (.cells #[.int .i64 k3, .int .i64 n3, .string s3, .slice a3 m3 c3] 27)) := below_alloc (Below.refl _ _) _
  have B3 := Lib.hid (below_on (below_on B2.out hb) bal)
  have HV3 := Lib.hid ((HV2.out.keep hb).keep bal)
  have Y3 := Lib.hid ((Y2.out.keep hb).keep bal)
  have HX3 := Lib.hid ((HX2.out.keep hb).keep bal)
  have Z3 := Lib.hid ((Z2.out.keep hb).keep bal)
  clear hb B2 HV2 Y2 HX2 Z2 bal
  go_wp2_with fail
  generalize (w3.alloc (.cells #[.int .i64 k3, .int .i64 n3, .string s3, .slice a3 m3 c3] 27)) = W3 at B3 HV3 Y3 HX3 Z3 ⊢
  refine (get_g4 W3 (HL.out.keep B3.out)).mono ?_
  rintro e' w4 ⟨k4, n4, s4, a4, m4, c4, rfl, hb⟩
  have bal : Below w4.heap.size w4 (w4.alloc (.cells #[.int .i64 k4, .int .i64 n4, .string s4, .slice a4 m4 c4] 27)) := below_alloc (Below.refl _ _) _
  have B4 := Lib.hid (below_on (below_on B3.out hb) bal)
  have HV4 := Lib.hid ((HV3.out.keep hb).keep bal)
  have Y4 := Lib.hid ((Y3.out.keep hb).keep bal)
  have HX4 := Lib.hid ((HX3.out.keep hb).keep bal)
  have Z4 := Lib.hid ((Z3.out.keep hb).keep bal)
  clear hb B3 HV3 Y3 HX3 Z3 bal
  go_wp2_with fail
  generalize (w4.alloc (.cells #[.int .i64 k4, .int .i64 n4, .string s4, .slice a4 m4 c4] 27)) = W4 at B4 HV4 Y4 HX4 Z4 ⊢
  refine (text_7255 W4).mono ?_
  rintro e' w5 ⟨rfl, hb⟩
  have B5 := Lib.hid (below_on B4.out hb)
  have HV5 := Lib.hid (HV4.out.keep hb)
  have Y5 := Lib.hid (Y4.out.keep hb)
  have HX5 := Lib.hid (HX4.out.keep hb)
  have Z5 := Lib.hid (Z4.out.keep hb)
  clear hb B4 HV4 Y4 HX4 Z4
  go_wp2_with fail
  refine (read_7255 w5).mono ?_
  rintro e' w6 ⟨rfl, hb⟩
  have B6 := Lib.hid (below_on B5.out hb)
  have HV6 := Lib.hid (HV5.out.keep hb)
  have Y6 := Lib.hid (Y5.out.keep hb)
  have HX6 := Lib.hid (HX5.out.keep hb)
  have Z6 := Lib.hid (Z5.out.keep hb)
  clear hb B5 HV5 Y5 HX5 Z5
  go_wp2_with fail
  refine (mark_nil w6).mono ?_
  rintro e' w' ⟨rfl, rfl⟩
  go_wp2_with fail
  refine (mark_zero _ w6.heap.size (World.cell?_alloc_new w6 _ _ 0)).mono ?_
  rintro e' w' ⟨rfl, rfl⟩
  go_wp2_with fail
  have bal : Below w6.heap.size w6 (w6.alloc (.cells #[.int .u8 0] 5)) := below_alloc (Below.refl _ _) _
  refine (text_7255 _).mono ?_
  rintro e' w7 ⟨rfl, hb⟩
  have hb := below_on bal hb
  have B7 := Lib.hid (below_on B6.out hb)
  have HV7 := Lib.hid (HV6.out.keep hb)
  have HX7 := Lib.hid (HX6.out.keep hb)
  obtain ⟨⟨y0, y1, y2, y3⟩, -⟩ := Y6.out.keep hb
  obtain ⟨⟨z0, z1, z2, z3⟩, -⟩ := Z6.out.keep hb
  clear hb B6 HV6 HX6 Y6 Z6 bal
  go_wp2_with fail
  refine (eq_pv HX7.out bgV (bgA w) w7 HV7.out (Below.refl _ _)).mono ?_
  rw [HPQ.out]
  rintro e' w8 ⟨rfl, hb⟩
  have B8 := Lib.hid (below_on B7.out hb)
  clear hb
  go_wp2_with fail
  go_ret
  exact ⟨rfl, B8.out⟩
end Go.Proofs.YthbbfdlacclccaaDoor
namespace Go.Proofs.YthbbfdlacclccaaDoor
open Go.RowKit

end Go.Proofs.YthbbfdlacclccaaDoor
