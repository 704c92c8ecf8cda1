/- MarkText: the walk. -/
import Derived.Test.YtchfphhelafbbaaDoorBg
import Derived.Test.YtchfphhelafbbaaDoorCb
import Derived.Test.YtchfphhelafbbaaDoorLh
namespace Go.Proofs.YtchfphhelafbbaaDoor
open Go.RowKit

theorem box2_new (w : World) (u v : Value) (t : TypeId) : Box2 w.heap.size u v (w.alloc (.cells #[u, v] t)) := by
  refine ⟨?_, ?_, ?_, ?_⟩ <;> simp [go_sem]
theorem hexd_ok {d : Nat} (h : d < 16) : okc (hexd d) = true ∧ hval (hexd d) = d := by
  have : ∀ d : Fin 16, okc (hexd d.val) = true ∧ hval (hexd d.val) = d.val := by decide +kernel
  exact this ⟨d, h⟩
theorem readZ_text (x y : Nat) (hx : x < 65521) (hy : y < 65521) : readZ (hex4 x ++ hex4 y) = some ((x : Int), (y : Int)) := by
  have key : ∀ n : Nat, n < 65536 → (hex4 n).all okc = true ∧ hexN (hex4 n) = n := fun n hn => by
    have h1 := hexd_ok (d := n / 4096 % 16) (by omega)
    have h2 := hexd_ok (d := n / 256 % 16) (by omega)
    have h3 := hexd_ok (d := n / 16 % 16) (by omega)
    have h4 := hexd_ok (d := n % 16) (by omega)
    refine ⟨?_, ?_⟩
    · unfold hex4; simp only [List.all_cons, List.all_nil, h1.1, h2.1, h3.1, h4.1, Bool.and_true]
    · unfold hex4 hexN
      simp only [List.foldl_cons, List.foldl_nil, h1.2, h2.2, h3.2, h4.2]
      omega
  have kx := key x (by omega)
  have ky := key y (by omega)
  have e1 : (hex4 x ++ hex4 y).take 4 = hex4 x := rfl
  have e2 : (hex4 x ++ hex4 y).drop 4 = hex4 y := rfl
  unfold readZ
  rw [e1, e2, if_pos ⟨rfl, by rw [List.all_append, kx.1, ky.1]; rfl, by rw [kx.2]; exact hx, by rw [ky.2]; exact hy⟩, kx.2, ky.2]
theorem slice_to (s : ByteArray) (j : Nat) (h : j ≤ s.size) (w : World) : (Instr.slice 9 (.string s) none (some (.int .i64 (j : Int))) none).run Tryd.prog w = .ok (.string (s.extract 0 j)) w := by
  rw [run_slice_string_h w _ _ Tryd.underlying9 _ _ (by omega) (by omega)]; simp
set_option maxRecDepth 100000 in
set_option maxHeartbeats 6400000 in
theorem markText_neg (a b : Int) (s : ByteArray) (n : Int) (hn : n < 0) (x : UInt8) (hs : s.size ≤ 9223372036854775807) (w : World) (L : Laid w) : Calls Tryd.prog 7 #[.int .i64 a, .int .i64 b, .string s, .int .i64 n, .int .u8 (x.toNat : Int)] w fun e w' => e = .returned (.bool true) ∧ Below w.heap.size w w' := by
  obtain ⟨A, hA⟩ : ∃ A, Hid (cutS s 10 = A) := ⟨_, Lib.hid rfl⟩
  have sA : A.size ≤ 10 := by rw [← hA.out, cutS_size]; omega
  have nb := norm_bd (a, b)
  obtain ⟨p, hp⟩ := Int.eq_ofNat_of_zero_le nb.1
  obtain ⟨q, hq⟩ := Int.eq_ofNat_of_zero_le nb.2.2.1
  have hp1 : p < 65521 := by omega
  have hq1 : q < 65521 := by omega
  have rp : rs (p : Int) = (p : Int) := rs_of (by omega) (by omega)
  have rq : rs (q : Int) = (q : Int) := rs_of (by omega) (by omega)
  have hnP : norm ((p : Int), (q : Int)) = ((p : Int), (q : Int)) := by unfold norm; rw [rp, rq]
  obtain ⟨T, hT⟩ : ∃ T : ByteArray, (⟨(hex4 p ++ hex4 q).toArray⟩ : ByteArray) = T := ⟨_, rfl⟩
  have hTl : T.data.toList = hex4 p ++ hex4 q := by rw [← hT]
  have sT : T.size = 8 := by rw [size_list, hTl]; rfl
  have HP : Hid (∀ w, Calls Tryd.prog 23 #[.int .i64 a, .int .i64 b] w fun e w' => e = .returned (.agg #[.int .i64 (p : Int), .int .i64 (q : Int)]) ∧ Below w.heap.size w w') := Lib.hid (fun w => by
    have := pair_any a b w
    rw [show norm (a, b) = ((p : Int), (q : Int)) from Prod.ext hp hq] at this
    exact this)
  have HZ : Hid (∀ w, Calls Tryd.prog 22 #[.agg #[.int .i64 (p : Int), .int .i64 (q : Int)]] w fun e w' => e = .returned (cv ((p : Int), (q : Int))) ∧ Below w.heap.size w w') := Lib.hid (fun w => by
    have := z_norm ((p : Int), (q : Int)) w
    rw [hnP] at this
    exact this)
  have HT : Hid (∀ w, Calls Tryd.prog 30 #[cv ((p : Int), (q : Int))] w fun e w' => e = .returned (.string T) ∧ Below w.heap.size w w') := Lib.hid (fun w => by
    have := text_cv ((p : Int), (q : Int)) w
    rw [show rs ((p : Int), (q : Int)).1 = (p : Int) from rp, show rs ((p : Int), (q : Int)).2 = (q : Int) from rq, Int.toNat_natCast, Int.toNat_natCast, hT] at this
    exact this)
  have HR : Hid (∀ w, Calls Tryd.prog 31 #[.string T] w fun e w' => e = .returned (.tuple #[cv ((p : Int), (q : Int)), .bool true]) ∧ Below w.heap.size w w') := Lib.hid (fun w => by
    have := read_any T w (by omega)
    rw [hTl, readZ_text p q hp1 hq1] at this
    exact this)
  have HQ : Hid (∀ w, Calls Tryd.prog 32 #[.agg #[.int .i64 (p : Int), .int .i64 (q : Int)]] w fun e w' => e = .returned (.string T) ∧ Below w.heap.size w w') := Lib.hid (fun w => by
    have := rtext p q w (by omega) (by omega)
    rw [hT] at this
    exact this)
  have e1 : eqZ ((p : Int), (q : Int)) ((p : Int), (q : Int)) = true := eqZ_of rfl
  have HX : ∀ w1, Hid (Box2 w1 (.int .i64 (p : Int)) (.int .i64 (q : Int)) w → True) := fun _ => Lib.hid fun _ => trivial
  have hn0 : decide (n < 0) = true := decide_eq_true hn
  have HL := Lib.hid L
  have HB : Hid (Below w.heap.size w w) := Lib.hid (Below.refl _ _)
  have hg := eqGuard_cv
  have hE := fun (p q : ZP) w => run_eq_cv 23 p q w
  have hNE := fun (p q : ZP) w => run_ne_cv 23 p q w
  have kc := run_bytes'
  clear HX nb hp hq rp rq hnP hT L
  go_enter Tryd.func7, Tryd.ntmps7
  go_wp2_with (first | (go_at_call 19; refine (begun_any _ HL.out).mono ?_; rintro e' w1 ⟨rfl, hb⟩; have HB := Lib.hid (below_on HB.out hb); clear hb) | (go_at_call 23; refine (HP.out _).mono ?_; rintro e' w1 ⟨rfl, hb⟩; have HB := Lib.hid (below_on HB.out hb); clear hb))
  have X1 := Lib.hid (box2_new w1 (.int .i64 (p : Int)) (.int .i64 (q : Int)) 29)
  have HB2 := Lib.hid (below_alloc HB.out (.cells #[.int .i64 (p : Int), .int .i64 (q : Int)] 29))
  generalize w1.alloc (.cells #[.int .i64 (p : Int), .int .i64 (q : Int)] 29) = V at X1 HB2 ⊢
  generalize w1.heap.size = g at X1 HB2 ⊢
  clear HB
  obtain ⟨x0, x1, -, -⟩ := X1.out
  go_wp2_with ((go_at_call 22; refine (HZ.out _).mono ?_; rintro e' w2 ⟨rfl, hb⟩; have X2 := Lib.hid (X1.out.keep hb); have HB3 := Lib.hid (below_on HB2.out hb); clear hb))
  go_wp2_with (first | (go_at_call 30; refine (HT.out _).mono ?_; rintro e' w3 ⟨rfl, hb⟩; have X3 := Lib.hid (X2.out.keep hb); have HB4 := Lib.hid (below_on HB3.out hb); clear hb) | (go_at_call 31; refine (HR.out _).mono ?_; rintro e' w4 ⟨rfl, hb⟩; have X4 := Lib.hid (X3.out.keep hb); have HB5 := Lib.hid (below_on HB4.out hb); obtain ⟨x0, x1, -, -⟩ := X3.out.keep hb; clear hb) | (go_at_call 26; refine (cut_p s A 10 10 _ hA hs (by decide) rfl).mono ?_; rintro e' w' ⟨rfl, rfl⟩))
  go_wp2_with (first | (go_at_call 32; refine (HQ.out _).mono ?_; rintro e' w5 ⟨rfl, hb⟩; have HB5 := Lib.hid (below_on HB5.out hb); have X4 := Lib.hid (X4.out.keep hb); obtain ⟨x0, x1, -, -⟩ := X4.out; clear hb) | (go_at_call 22; refine (HZ.out _).mono ?_; rintro e' w5 ⟨rfl, hb⟩; have HB5 := Lib.hid (below_on HB5.out hb); have X4 := Lib.hid (X4.out.keep hb); obtain ⟨x0, x1, -, -⟩ := X4.out; clear hb) | (go_at_call 33; refine (reads_any A _ (by omega)).mono ?_; rintro e' w5 ⟨rfl, hb⟩; have HB5 := Lib.hid (below_on HB5.out hb); have X4 := Lib.hid (X4.out.keep hb); obtain ⟨x0, x1, -, -⟩ := X4.out; clear hb))
  go_ret
  exact ⟨rfl, HB5.out⟩
set_option maxRecDepth 100000 in
set_option maxHeartbeats 6400000 in
theorem markText_good (a b : Int) (s : ByteArray) (m : Nat) (x : UInt8) (hs : s.size ≤ 9223372036854775807) (w : World) (L : Laid w) : Calls Tryd.prog 7 #[.int .i64 a, .int .i64 b, .string s, .int .i64 (m : Int), .int .u8 (x.toNat : Int)] w fun e w' => e = .returned (.bool true) ∧ Below w.heap.size w w' := by
  obtain ⟨A, hA⟩ : ∃ A, Hid (cutS s 10 = A) := ⟨_, Lib.hid rfl⟩
  have sA : A.size ≤ 10 := by rw [← hA.out, cutS_size]; omega
  have nb := norm_bd (a, b)
  obtain ⟨p, hp⟩ := Int.eq_ofNat_of_zero_le nb.1
  obtain ⟨q, hq⟩ := Int.eq_ofNat_of_zero_le nb.2.2.1
  have hp1 : p < 65521 := by omega
  have hq1 : q < 65521 := by omega
  have rp : rs (p : Int) = (p : Int) := rs_of (by omega) (by omega)
  have rq : rs (q : Int) = (q : Int) := rs_of (by omega) (by omega)
  have hnP : norm ((p : Int), (q : Int)) = ((p : Int), (q : Int)) := by unfold norm; rw [rp, rq]
  obtain ⟨T, hT⟩ : ∃ T : ByteArray, (⟨(hex4 p ++ hex4 q).toArray⟩ : ByteArray) = T := ⟨_, rfl⟩
  have hTl : T.data.toList = hex4 p ++ hex4 q := by rw [← hT]
  have sT : T.size = 8 := by rw [size_list, hTl]; rfl
  have HP : Hid (∀ w, Calls Tryd.prog 23 #[.int .i64 a, .int .i64 b] w fun e w' => e = .returned (.agg #[.int .i64 (p : Int), .int .i64 (q : Int)]) ∧ Below w.heap.size w w') := Lib.hid (fun w => by
    have := pair_any a b w
    rw [show norm (a, b) = ((p : Int), (q : Int)) from Prod.ext hp hq] at this
    exact this)
  have HZ : Hid (∀ w, Calls Tryd.prog 22 #[.agg #[.int .i64 (p : Int), .int .i64 (q : Int)]] w fun e w' => e = .returned (cv ((p : Int), (q : Int))) ∧ Below w.heap.size w w') := Lib.hid (fun w => by
    have := z_norm ((p : Int), (q : Int)) w
    rw [hnP] at this
    exact this)
  have HT : Hid (∀ w, Calls Tryd.prog 30 #[cv ((p : Int), (q : Int))] w fun e w' => e = .returned (.string T) ∧ Below w.heap.size w w') := Lib.hid (fun w => by
    have := text_cv ((p : Int), (q : Int)) w
    rw [show rs ((p : Int), (q : Int)).1 = (p : Int) from rp, show rs ((p : Int), (q : Int)).2 = (q : Int) from rq, Int.toNat_natCast, Int.toNat_natCast, hT] at this
    exact this)
  have HR : Hid (∀ w, Calls Tryd.prog 31 #[.string T] w fun e w' => e = .returned (.tuple #[cv ((p : Int), (q : Int)), .bool true]) ∧ Below w.heap.size w w') := Lib.hid (fun w => by
    have := read_any T w (by omega)
    rw [hTl, readZ_text p q hp1 hq1] at this
    exact this)
  have HQ : Hid (∀ w, Calls Tryd.prog 32 #[.agg #[.int .i64 (p : Int), .int .i64 (q : Int)]] w fun e w' => e = .returned (.string T) ∧ Below w.heap.size w w') := Lib.hid (fun w => by
    have := rtext p q w (by omega) (by omega)
    rw [hT] at this
    exact this)
  have e1 : eqZ ((p : Int), (q : Int)) ((p : Int), (q : Int)) = true := eqZ_of rfl
  have HX : ∀ w1, Hid (Box2 w1 (.int .i64 (p : Int)) (.int .i64 (q : Int)) w → True) := fun _ => Lib.hid fun _ => trivial
  have hn0 : decide ((m : Int) < 0) = false := decide_eq_false (by omega)
  obtain ⟨k, hk⟩ : ∃ k, m % 8 = k := ⟨_, rfl⟩
  have hk8 : k < 8 := by omega
  have hkl : k < T.data.toList.length := by rw [← size_list]; omega
  have hrem : (m : Int) % 8 = (k : Int) := by omega
  obtain ⟨y, hy⟩ : ∃ y, T.data.toList[k] = y := ⟨_, rfl⟩
  have hcell := fun w => bw_cell w T k hkl
  have hfz := fun w => bw_frozen w T k (by omega)
  have hxor := xor_u8 y x
  rw [hy] at hcell
  have hrow := fun w => row_set hkl (y ^^^ x) (bw_row w T)
  rw [UInt8.toNat_xor] at hrow
  have HRW := Lib.hid hrow
  have HLn := Lib.hid (show (T.data.toList.set k (y ^^^ x)).length = T.size by rw [List.length_set, ← size_list])
  have hsl := fun w => slice_to T k (by omega) w
  obtain ⟨T1, hT1⟩ : ∃ T1, T.extract 0 k = T1 := ⟨_, rfl⟩
  rw [hT1] at hsl
  have sT1 : T1.size ≤ 8 := by rw [← hT1, ByteArray.size_extract]; omega
  obtain ⟨T2, hT2⟩ : ∃ T2 : ByteArray, (⟨(T.data.toList ++ A.data.toList).toArray⟩ : ByteArray) = T2 := ⟨_, rfl⟩
  have hcat := run_catS (P := Tryd.prog) T A (by omega)
  rw [hT2] at hcat
  have sT2 : T2.size ≤ 18 := by rw [size_list, ← hT2]; show (T.data.toList ++ A.data.toList).length ≤ 18; rw [List.length_append, ← size_list, ← size_list]; omega
  clear hk hkl hy hrow hT1 hT2
  have HL := Lib.hid L
  have HB : Hid (Below w.heap.size w w) := Lib.hid (Below.refl _ _)
  have hg := eqGuard_cv
  have hE := fun (p q : ZP) w => run_eq_cv 23 p q w
  have hNE := fun (p q : ZP) w => run_ne_cv 23 p q w
  have kc := run_bytes'
  clear HX nb hp hq rp rq hnP hT L
  go_enter Tryd.func7, Tryd.ntmps7
  go_wp2_with (first | (go_at_call 19; refine (begun_any _ HL.out).mono ?_; rintro e' w1 ⟨rfl, hb⟩; have HB := Lib.hid (below_on HB.out hb); clear hb) | (go_at_call 23; refine (HP.out _).mono ?_; rintro e' w1 ⟨rfl, hb⟩; have HB := Lib.hid (below_on HB.out hb); clear hb))
  have X1 := Lib.hid (box2_new w1 (.int .i64 (p : Int)) (.int .i64 (q : Int)) 29)
  have HB2 := Lib.hid (below_alloc HB.out (.cells #[.int .i64 (p : Int), .int .i64 (q : Int)] 29))
  generalize w1.alloc (.cells #[.int .i64 (p : Int), .int .i64 (q : Int)] 29) = V at X1 HB2 ⊢
  generalize w1.heap.size = g at X1 HB2 ⊢
  clear HB
  obtain ⟨x0, x1, -, -⟩ := X1.out
  go_wp2_with ((go_at_call 22; refine (HZ.out _).mono ?_; rintro e' w2 ⟨rfl, hb⟩; have X2 := Lib.hid (X1.out.keep hb); have HB3 := Lib.hid (below_on HB2.out hb); clear hb))
  go_wp2_with (first | (go_at_call 30; refine (HT.out _).mono ?_; rintro e' w3 ⟨rfl, hb⟩; have X3 := Lib.hid (X2.out.keep hb); have HB4 := Lib.hid (below_on HB3.out hb); clear hb) | (go_at_call 31; refine (HR.out _).mono ?_; rintro e' w4 ⟨rfl, hb⟩; have X4 := Lib.hid (X3.out.keep hb); have HB5 := Lib.hid (below_on HB4.out hb); obtain ⟨x0, x1, -, -⟩ := X3.out.keep hb; clear hb) | (go_at_call 26; refine (cut_p s A 10 10 _ hA hs (by decide) rfl).mono ?_; rintro e' w' ⟨rfl, rfl⟩))
  go_wp2_with (first | (go_at_call 32; refine (HQ.out _).mono ?_; rintro e' w5 ⟨rfl, hb⟩; have HB5 := Lib.hid (below_on HB5.out hb); have X4 := Lib.hid (X4.out.keep hb); obtain ⟨x0, x1, -, -⟩ := X4.out; clear hb) | (go_at_call 22; refine (HZ.out _).mono ?_; rintro e' w5 ⟨rfl, hb⟩; have HB5 := Lib.hid (below_on HB5.out hb); have X4 := Lib.hid (X4.out.keep hb); obtain ⟨x0, x1, -, -⟩ := X4.out; clear hb) | (go_at_call 33; refine (reads_any A _ (by omega)).mono ?_; rintro e' w5 ⟨rfl, hb⟩; have HB5 := Lib.hid (below_on HB5.out hb); have X4 := Lib.hid (X4.out.keep hb); obtain ⟨x0, x1, -, -⟩ := X4.out; clear hb))
  have HR2 := Lib.hid (HRW.out w5)
  have HB6 := Lib.hid ((below_on HB5.out (bw_below w5 T)).setCell (p := ⟨w5.heap.size, k, none⟩) HB5.out.size (.int .u8 ((y.toNat ^^^ x.toNat : Nat) : Int)))
  generalize (bw w5 T).setCell ⟨w5.heap.size, k, none⟩ (.int .u8 ((y.toNat ^^^ x.toNat : Nat) : Int)) = V2 at HR2 HB6 ⊢
  have hconv : (convert 36 9 (.slice (some ⟨w5.heap.size, 0, none⟩) 8 (gc w5 T))).run Tryd.prog V2 = .ok (.string ⟨(T.data.toList.set k (y ^^^ x)).toArray⟩) V2 := run_bytes_str _ HR2.out (by rw [HLn.out, sT])
  obtain ⟨U, hU⟩ : ∃ U : ByteArray, (⟨(T.data.toList.set k (y ^^^ x)).toArray⟩ : ByteArray) = U := ⟨_, rfl⟩
  rw [hU] at hconv
  have sU : U.size = 8 := by rw [size_list, ← hU]; show (T.data.toList.set k (y ^^^ x)).length = 8; rw [HLn.out, sT]
  clear hU HR2 HRW hcell hfz
  rw [hconv]
  go_wp2_with (go_at_call 33; refine (reads_any _ _ (by omega)).mono ?_; rintro e' w6 ⟨rfl, hb⟩; have HB6 := Lib.hid (below_on HB6.out hb); clear hb)
  go_ret
  exact ⟨rfl, HB6.out⟩
theorem markText_walk (a b : Int) (s : ByteArray) (n : Int) (x : UInt8) (hs : s.size ≤ 9223372036854775807) (w : World) (L : Laid w) : Calls Tryd.prog 7 #[.int .i64 a, .int .i64 b, .string s, .int .i64 n, .int .u8 (x.toNat : Int)] w fun e w' => e = .returned (.bool true) ∧ Below w.heap.size w w' := by
  by_cases hn : n < 0
  · exact markText_neg a b s n hn x hs w L
  obtain ⟨k, rfl⟩ := Int.eq_ofNat_of_zero_le (by omega : 0 ≤ n)
  exact markText_good a b s k x hs w L
end Go.Proofs.YtchfphhelafbbaaDoor
