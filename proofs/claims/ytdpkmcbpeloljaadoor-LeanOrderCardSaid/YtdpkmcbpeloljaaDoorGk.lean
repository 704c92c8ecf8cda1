/- Walk of gauss.Text. -/
import Derived.Test.YtdpkmcbpeloljaaDoorGj
import Derived.WalkMore
namespace Go.Proofs.YtdpkmcbpeloljaaDoor
open Go.RowKit

theorem Tryd.infoU8 : (Tryd.prog.info? 5).map (fun i => (i.zero, i.size, i.bytes)) = some (some (.int .u8 0), 1, 1) := by kernel_rfl
theorem tyBytes : ElemTy Tryd.prog 42 5 (.int .u8 0) 1 1 := by
  obtain ⟨i0, hi, hz0, hz1, hz2⟩ := info_parts Tryd.infoU8
  exact ⟨Tryd.underlying42, ⟨i0, hi, hz0, hz1, hz2⟩, rfl, by decide⟩
/-- A row of bytes of the call's own. -/
def OwnB (w : World) (base : Nat) (v : Value) (l : List UInt8) : Prop := w.ownsRow base 5 1 v l.length (Lib.byteCells l)
theorem ownB_row {w : World} {base : Nat} {v : Value} {l : List UInt8} (h : OwnB w base v l) : ∃ a c, v = .slice a l.length c ∧ RowAt w a (Lib.byteCells l) := by
  obtain ⟨a, c, h1, h2⟩ := ownsRow_row h
  exact ⟨a, c, h1, h2⟩
theorem i64_and15 (n : Int) : bits .and .i64 n 15 = n % 16 := by
  have h1 : (BitVec.ofInt 64 n &&& BitVec.ofInt 64 15).toNat = (BitVec.ofInt 64 n).toNat % 2 ^ 4 := by
    rw [BitVec.toNat_and, show (BitVec.ofInt 64 15).toNat = 2 ^ 4 - 1 by decide, Nat.and_two_pow_sub_one_eq_mod]
  have h2 := BitVec.toNat_ofInt (n := 64) (i := n)
  show IntKind.i64.wrap ((BitVec.ofInt 64 n &&& BitVec.ofInt 64 15).toNat : Nat) = _
  rw [h1, h2, IntKind.wrap_i64]
  omega
theorem ownB_snoc {w : World} {base : Nat} {v : Value} {pre : List UInt8} {b : UInt8} (h : w.ownsRow base 5 1 v (pre.length + 1) (Lib.byteCells pre ++ [.int .u8 (b.toNat : Int)])) : OwnB w base v (pre ++ [b]) := by
  unfold OwnB
  simpa [Lib.byteCells] using h
theorem below_alloc' {B : Nat} {a w : World} (h : Below B a w) (hB : B ≤ a.heap.size) (o : Obj) : Below B a (w.alloc o) := h.alloc (Nat.le_trans hB h.size) o
def digs (x y k : Nat) : List UInt8 := if k = 0 then [] else if k = 1 then hex4 x else hex4 x ++ hex4 y
set_option maxRecDepth 100000 in
set_option maxHeartbeats 1600000 in
theorem text_cv (p : ZP) (w : World) :
    Calls Tryd.prog 35 #[cv p] w fun e w' => e = .returned (.string ⟨(hex4 (rs p.1).toNat ++ hex4 (rs p.2).toNat).toArray⟩) ∧ Below w.heap.size w w' := by
  obtain ⟨x, hx⟩ : ∃ x : Nat, (rs p.1).toNat = x := ⟨_, rfl⟩
  obtain ⟨y, hy⟩ : ∃ y : Nat, (rs p.2).toNat = y := ⟨_, rfl⟩
  have b1 := rs_bd p.1
  have b2 := rs_bd p.2
  have hx' : rs p.1 = (x : Int) := by omega
  have hy' : rs p.2 = (y : Int) := by omega
  have hx65 : x < 65521 := by omega
  have hy65 : y < 65521 := by omega
  have HE := Lib.hid (show cv p = .complex .f64 (fl (x : Int)) (fl (y : Int)) by rw [cv_eq, hx', hy'])
  have HM := Lib.hid (may_cv p)
  rw [HE.out] at HM ⊢
  rw [hx, hy]
  clear hx hy b1 b2 hx' hy'
  go_enter Tryd.func35, Tryd.ntmps35
  go_wp2_with (go_at_call 27; refine (HM.out _).mono ?_; rintro e' w' ⟨rfl, rfl⟩)
  have hx6 : x < 65536 := by omega
  have hy6 : y < 65536 := by omega
  go_loopw [3, 17] (fun v i wr => ∃ k : Nat, k ≤ 2 ∧ i = .int .i64 k ∧ OwnB wr w.heap.size v (digs x y k) ∧ Below w.heap.size w wr) (fun _ i _ => 2 - (intOf i).toNat)
  case atStart => exact ⟨0, by omega, rfl, World.ownsRow_nil _ _ _ _, Below.refl _ _⟩
  case round =>
    obtain ⟨k, hk, rfl, hO, hL⟩ := hrel
    have HO := Lib.hid hO
    have HL := Lib.hid hL
    clear hO hL
    by_cases hlt : k < 2
    · obtain ⟨z, hz, hidx, hnext⟩ : ∃ z : Nat, z < 65536 ∧ (∀ w, (Instr.index 76 (.agg #[.float .f64 (fl (x : Int)), .float .f64 (fl (y : Int))]) (.int .i64 (k : Int))).run Tryd.prog w = .ok (.float .f64 (fl (z : Int))) w) ∧ digs x y (k + 1) = digs x y k ++ hex4 z := by
        obtain rfl | rfl : k = 0 ∨ k = 1 := by omega
        · exact ⟨x, hx6, fun w => by kernel_rfl, by simp [digs]⟩
        · exact ⟨y, hy6, fun w => by kernel_rfl, by simp [digs]⟩
      have HX := Lib.hid hnext
      have hlen : (digs x y k).length ≤ 8 := by unfold digs; split <;> (try split) <;> simp [hex4]
      clear hnext
      have kc : ∀ w, (convert 38 3 (.float .f64 (fl (z : Int)))).run Tryd.prog w = .ok (.int .i64 (z : Int)) w := fun w => run_convert_float_int w _ _ _ _ _ _ (by rw [Tryd.underlying38]; rfl) Tryd.underlying3 (toIntVal_fl (by omega))
      have hlt' : (k : Int) < 2 := by omega
      go_wp2_with fail
      obtain ⟨wo, rfl⟩ : ∃ wo : World, wo = wr := ⟨_, rfl⟩
      go_loopw [3, 7] (fun v i wr => ∃ j : Nat, j ≤ 4 ∧ i = .int .i64 (3 - (j : Int)) ∧ OwnB wr w.heap.size v (digs x y k ++ (hex4 z).take j) ∧ Below w.heap.size w wr) (fun _ i _ => (intOf i + 1).toNat)
      case atStart => exact ⟨0, by omega, by simp, by simpa using HO.out, HL.out⟩
      case round =>
        obtain ⟨j, hj, rfl, hO, hL⟩ := hrel
        clear HO HL
        have HO := Lib.hid hO
        have HL := Lib.hid hL
        clear hO hL
        by_cases hj4 : j < 4
        · obtain ⟨d, hd⟩ : ∃ d : Nat, z / 16 ^ (3 - j) % 16 = d := ⟨_, rfl⟩
          have hd16 : d < 16 := by rw [← hd]; exact Nat.mod_lt _ (by decide)
          have HT := Lib.hid (show (hex4 z).take (j + 1) = (hex4 z).take j ++ [hexd d] by
            obtain rfl | rfl | rfl | rfl : j = 0 ∨ j = 1 ∨ j = 2 ∨ j = 3 := by omega
            all_goals simp [hex4, ← hd])
          obtain ⟨pre, hpre⟩ : ∃ pre, digs x y k ++ (hex4 z).take j = pre := ⟨_, rfl⟩
          have hpl : pre.length ≤ 12 := by rw [← hpre]; simp; omega
          rw [hpre] at HO
          have HP := Lib.hid hpre
          have k15 := i64_and15
          have kd : IntKind.u8.wrap (d : Int) = (d : Int) := by simp [IntKind.wrap, IntKind.bits, IntKind.signed]; omega
          have s1 : d < 10 → IntKind.u8.wrap (48 + (d : Int)) = ((hexd d).toNat : Int) := fun h => by
            unfold hexd; rw [if_pos h]; simp [IntKind.wrap, IntKind.bits, IntKind.signed]
          have s2 : ¬ d < 10 → 97 + (d : Int) - 10 = ((hexd d).toNat : Int) := fun h => by
            unfold hexd; rw [if_neg h]; simp; omega
          have S1 := Lib.hid s1
          have S2 := Lib.hid s2
          clear s1 s2 hpre
          by_cases h10 : d < 10
          · have t1 := S1.out h10
            have h10' : decide ((d : Int) < 10) = true := by simpa using (show (d : Int) < 10 by omega)
            obtain rfl | rfl | rfl | rfl : j = 0 ∨ j = 1 ∨ j = 2 ∨ j = 3 := by omega
            · have kq : (z : Int) / 4096 % 16 = (d : Int) := by rw [← hd]; omega
              clear hd
              go_wp2_with (at_builtin; refine wpList_append_any rfl _ _ 42 rfl w.heap.size 5 _ 1 1 tyBytes _ pre.length (Lib.byteCells pre) rfl (ownsRow_below HO.out (below_alloc (Below.refl _ _) _)) _ 1 1 [.int .u8 ((hexd d).toNat : Int)] rfl rfl (RowAt.new _ _ _) (by simp [Value.oneCell']) (by unfold maxLen; omega) (by omega) ?c3 ?_; (case c3 => have := HL.out.size; simp; omega); intro v' w' own' hb'; have HO2 := Lib.hid own'; have HL2 := Lib.hid ((below_alloc HL.out _).trans hb'); clear own' hb')
              refine ⟨⟨1, by omega, by simp, ?_, HL2.out⟩, by simp [intOf]⟩
              rw [HT.out, ← List.append_assoc, HP.out]
              exact ownB_snoc HO2.out
            · have kq : (z : Int) / 256 % 16 = (d : Int) := by rw [← hd]; omega
              clear hd
              go_wp2_with (at_builtin; refine wpList_append_any rfl _ _ 42 rfl w.heap.size 5 _ 1 1 tyBytes _ pre.length (Lib.byteCells pre) rfl (ownsRow_below HO.out (below_alloc (Below.refl _ _) _)) _ 1 1 [.int .u8 ((hexd d).toNat : Int)] rfl rfl (RowAt.new _ _ _) (by simp [Value.oneCell']) (by unfold maxLen; omega) (by omega) ?c3 ?_; (case c3 => have := HL.out.size; simp; omega); intro v' w' own' hb'; have HO2 := Lib.hid own'; have HL2 := Lib.hid ((below_alloc HL.out _).trans hb'); clear own' hb')
              refine ⟨⟨2, by omega, by simp, ?_, HL2.out⟩, by simp [intOf]⟩
              rw [HT.out, ← List.append_assoc, HP.out]
              exact ownB_snoc HO2.out
            · have kq : (z : Int) / 16 % 16 = (d : Int) := by rw [← hd]; omega
              clear hd
              go_wp2_with (at_builtin; refine wpList_append_any rfl _ _ 42 rfl w.heap.size 5 _ 1 1 tyBytes _ pre.length (Lib.byteCells pre) rfl (ownsRow_below HO.out (below_alloc (Below.refl _ _) _)) _ 1 1 [.int .u8 ((hexd d).toNat : Int)] rfl rfl (RowAt.new _ _ _) (by simp [Value.oneCell']) (by unfold maxLen; omega) (by omega) ?c3 ?_; (case c3 => have := HL.out.size; simp; omega); intro v' w' own' hb'; have HO2 := Lib.hid own'; have HL2 := Lib.hid ((below_alloc HL.out _).trans hb'); clear own' hb')
              refine ⟨⟨3, by omega, by simp, ?_, HL2.out⟩, by simp [intOf]⟩
              rw [HT.out, ← List.append_assoc, HP.out]
              exact ownB_snoc HO2.out
            · have kq : (z : Int) % 16 = (d : Int) := by rw [← hd]; omega
              clear hd
              go_wp2_with (at_builtin; refine wpList_append_any rfl _ _ 42 rfl w.heap.size 5 _ 1 1 tyBytes _ pre.length (Lib.byteCells pre) rfl (ownsRow_below HO.out (below_alloc (Below.refl _ _) _)) _ 1 1 [.int .u8 ((hexd d).toNat : Int)] rfl rfl (RowAt.new _ _ _) (by simp [Value.oneCell']) (by unfold maxLen; omega) (by omega) ?c3 ?_; (case c3 => have := HL.out.size; simp; omega); intro v' w' own' hb'; have HO2 := Lib.hid own'; have HL2 := Lib.hid ((below_alloc HL.out _).trans hb'); clear own' hb')
              refine ⟨⟨4, by omega, by simp, ?_, HL2.out⟩, by simp [intOf]⟩
              rw [HT.out, ← List.append_assoc, HP.out]
              exact ownB_snoc HO2.out
          · have t2 := S2.out h10
            have h10' : decide ((d : Int) < 10) = false := by simpa using (show (10 : Int) ≤ d by omega)
            obtain rfl | rfl | rfl | rfl : j = 0 ∨ j = 1 ∨ j = 2 ∨ j = 3 := by omega
            · have kq : (z : Int) / 4096 % 16 = (d : Int) := by rw [← hd]; omega
              clear hd
              go_wp2_with (at_builtin; refine wpList_append_any rfl _ _ 42 rfl w.heap.size 5 _ 1 1 tyBytes _ pre.length (Lib.byteCells pre) rfl (ownsRow_below HO.out (below_alloc (Below.refl _ _) _)) _ 1 1 [.int .u8 ((hexd d).toNat : Int)] rfl rfl (RowAt.new _ _ _) (by simp [Value.oneCell']) (by unfold maxLen; omega) (by omega) ?c3 ?_; (case c3 => have := HL.out.size; simp; omega); intro v' w' own' hb'; have HO2 := Lib.hid own'; have HL2 := Lib.hid ((below_alloc HL.out _).trans hb'); clear own' hb')
              refine ⟨⟨1, by omega, by simp, ?_, HL2.out⟩, by simp [intOf]⟩
              rw [HT.out, ← List.append_assoc, HP.out]
              exact ownB_snoc HO2.out
            · have kq : (z : Int) / 256 % 16 = (d : Int) := by rw [← hd]; omega
              clear hd
              go_wp2_with (at_builtin; refine wpList_append_any rfl _ _ 42 rfl w.heap.size 5 _ 1 1 tyBytes _ pre.length (Lib.byteCells pre) rfl (ownsRow_below HO.out (below_alloc (Below.refl _ _) _)) _ 1 1 [.int .u8 ((hexd d).toNat : Int)] rfl rfl (RowAt.new _ _ _) (by simp [Value.oneCell']) (by unfold maxLen; omega) (by omega) ?c3 ?_; (case c3 => have := HL.out.size; simp; omega); intro v' w' own' hb'; have HO2 := Lib.hid own'; have HL2 := Lib.hid ((below_alloc HL.out _).trans hb'); clear own' hb')
              refine ⟨⟨2, by omega, by simp, ?_, HL2.out⟩, by simp [intOf]⟩
              rw [HT.out, ← List.append_assoc, HP.out]
              exact ownB_snoc HO2.out
            · have kq : (z : Int) / 16 % 16 = (d : Int) := by rw [← hd]; omega
              clear hd
              go_wp2_with (at_builtin; refine wpList_append_any rfl _ _ 42 rfl w.heap.size 5 _ 1 1 tyBytes _ pre.length (Lib.byteCells pre) rfl (ownsRow_below HO.out (below_alloc (Below.refl _ _) _)) _ 1 1 [.int .u8 ((hexd d).toNat : Int)] rfl rfl (RowAt.new _ _ _) (by simp [Value.oneCell']) (by unfold maxLen; omega) (by omega) ?c3 ?_; (case c3 => have := HL.out.size; simp; omega); intro v' w' own' hb'; have HO2 := Lib.hid own'; have HL2 := Lib.hid ((below_alloc HL.out _).trans hb'); clear own' hb')
              refine ⟨⟨3, by omega, by simp, ?_, HL2.out⟩, by simp [intOf]⟩
              rw [HT.out, ← List.append_assoc, HP.out]
              exact ownB_snoc HO2.out
            · have kq : (z : Int) % 16 = (d : Int) := by rw [← hd]; omega
              clear hd
              go_wp2_with (at_builtin; refine wpList_append_any rfl _ _ 42 rfl w.heap.size 5 _ 1 1 tyBytes _ pre.length (Lib.byteCells pre) rfl (ownsRow_below HO.out (below_alloc (Below.refl _ _) _)) _ 1 1 [.int .u8 ((hexd d).toNat : Int)] rfl rfl (RowAt.new _ _ _) (by simp [Value.oneCell']) (by unfold maxLen; omega) (by omega) ?c3 ?_; (case c3 => have := HL.out.size; simp; omega); intro v' w' own' hb'; have HO2 := Lib.hid own'; have HL2 := Lib.hid ((below_alloc HL.out _).trans hb'); clear own' hb')
              refine ⟨⟨4, by omega, by simp, ?_, HL2.out⟩, by simp [intOf]⟩
              rw [HT.out, ← List.append_assoc, HP.out]
              exact ownB_snoc HO2.out
        · obtain rfl : j = 4 := by omega
          clear hj4
          have hn : decide ((3 : Int) - ((4 : Nat) : Int) ≥ 0) = false := by decide
          go_wp2_with fail
          go_roundw
          case rel => exact ⟨k + 1, by omega, by go_num, by rw [HX.out]; exact HO.out, HL.out⟩
          case measure => simp [intOf]; omega
    · obtain rfl : k = 2 := by omega
      obtain ⟨a, c, rfl, hr⟩ := (show ∃ a c, _ = Value.slice a 8 c ∧ RowAt wr a (Lib.byteCells (hex4 x ++ hex4 y)) from ownB_row HO.out)
      have hc := run_bytes_str c hr (len := 8) rfl
      clear hr HO
      go_wp2_with fail
      go_ret
      exact ⟨rfl, HL.out⟩
end Go.Proofs.YtdpkmcbpeloljaaDoor
