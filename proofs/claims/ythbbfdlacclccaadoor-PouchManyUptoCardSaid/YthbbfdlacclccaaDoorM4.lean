/- Walks of the document's four, Text. Walk of gauss.Text. Walks of gauss.Read, the document's Read. -/
import Derived.Test.YthbbfdlacclccaaDoorM3
import Derived.Laws.BytesArg
import Derived.ShutString
import Derived.Laws.Concat
import Derived.WalkMore
namespace Go.Proofs.YthbbfdlacclccaaDoor
open Go.RowKit

/-- A digit of base 16. -/
def hexd (d : Nat) : UInt8 := if d < 10 then UInt8.ofNat (48 + d) else UInt8.ofNat (87 + d)
def hex4 (n : Nat) : List UInt8 := [hexd (n / 4096 % 16), hexd (n / 256 % 16), hexd (n / 16 % 16), hexd (n % 16)]
/-- A string of a slice of bytes. -/
theorem run_bytes_str {w : World} {a : Option Addr} {l : List UInt8} {len : Nat} (c : Nat) (h : RowAt w a (Lib.byteCells l)) (hl : l.length = len) :
    (convert 39 9 (.slice a len c)).run Tryd.prog w = .ok (.string ⟨l.toArray⟩) w := by
  have key : strOfNums (l.map fun b => (b.toNat : Int)) = ⟨l.toArray⟩ := by
    unfold strOfNums
    congr 2
    rw [List.map_map]
    conv => rhs; rw [← List.map_id l]
    exact List.map_congr_left fun b _ => by simp
  rcases h with h | ⟨b, off, rfl, -, hc⟩
  · unfold Lib.byteCells at h
    simp at h; subst h
    simp at hl; subst hl
    cases a with
    | none => exact run_convert_bytes_nil w _ _ Tryd.underlying39 Tryd.underlying5 0 c _ Tryd.underlying9
    | some a =>
      rw [run_convert_bytes_string w _ _ _ _ 0 c Tryd.underlying39 Tryd.underlying5 Tryd.underlying9, run_bytesToString w a 0 c [] (by simp [loadCells, loadCellsFrom])]
      rfl
  · rw [← key]
    refine run_convert_bytes_arg w _ _ Tryd.underlying39 Tryd.underlying5 b off len c _ (by simpa using hl) (fun i hi => ?_) _ Tryd.underlying9
    rw [hc i _ (cells_byte (by omega))]
    simp [List.getD, show i < l.length by omega]
theorem hexd_index (d : Nat) (hd : d < 16) (w : World) : (Instr.index 9 (.string ⟨#[48, 49, 50, 51, 52, 53, 54, 55, 56, 57, 97, 98, 99, 100, 101, 102]⟩) (.int .i64 (d : Int))).run Tryd.prog w = .ok (.int .u8 ((hexd d).toNat : Int)) w := by
  rw [run_index_string w _ _ _ _ Tryd.underlying9]
  have hs : (⟨#[48, 49, 50, 51, 52, 53, 54, 55, 56, 57, 97, 98, 99, 100, 101, 102]⟩ : ByteArray).size = 16 := rfl
  rw [dif_pos (by rw [hs]; omega)]
  simp only [Int.toNat_natCast]
  obtain rfl | rfl | rfl | rfl | rfl | rfl | rfl | rfl | rfl | rfl | rfl | rfl | rfl | rfl | rfl | rfl : d = 0 ∨ d = 1 ∨ d = 2 ∨ d = 3 ∨ d = 4 ∨ d = 5 ∨ d = 6 ∨ d = 7 ∨ d = 8 ∨ d = 9 ∨ d = 10 ∨ d = 11 ∨ d = 12 ∨ d = 13 ∨ d = 14 ∨ d = 15 := by omega
  all_goals rfl
theorem wrap_nat (m : Nat) (h : m ≤ 9223372036854775807) : IntKind.i64.wrap (m : Int) = (m : Int) := IntWalk.i64_in _ (by omega)
/-- Two strings, joined. -/
theorem run_cat {P : Program} (x y : List UInt8) (h : x.length + y.length ≤ 9223372036854775807) (w : World) : (Op.stringOp .add ⟨x.toArray⟩ ⟨y.toArray⟩).run P w = .ok (.string ⟨(x ++ y).toArray⟩) w := by
  rw [run_string_add_sum w _ _ (by simpa [ByteArray.size] using h)]
  congr 2
def TxtS (w : World) (x y : Nat) (V : World) : Prop := V.cell? ⟨w.heap.size, 0, none⟩ = some (.int .i64 x) ∧ V.cell? ⟨w.heap.size, 1, none⟩ = some (.int .i64 y) ∧ Below w.heap.size w V
theorem TxtS.keep {w V V' : World} {x y : Nat} (h : TxtS w x y V) (hb : Below V.heap.size V V') : TxtS w x y V' := ⟨cell_keep hb h.1, cell_keep hb h.2.1, below_on h.2.2 hb⟩
theorem TxtS.all {w V : World} {x y : Nat} (h : TxtS w x y V) : V.cell? ⟨w.heap.size, 0, none⟩ = some (.int .i64 x) ∧ V.cell? ⟨w.heap.size, 1, none⟩ = some (.int .i64 y) ∧ TxtS w x y V := ⟨h.1, h.2.1, h⟩
end Go.Proofs.YthbbfdlacclccaaDoor
namespace Go.Proofs.YthbbfdlacclccaaDoor
open Go.RowKit

theorem Tryd.infoU8 : (Tryd.prog.info? 5).map (fun i => (i.zero, i.size, i.bytes)) = some (some (.int .u8 0), 1, 1) := by kernel_rfl
theorem tyBytes : ElemTy Tryd.prog 39 5 (.int .u8 0) 1 1 := by
  obtain ⟨i0, hi, hz0, hz1, hz2⟩ := info_parts Tryd.infoU8
  exact ⟨Tryd.underlying39, ⟨i0, hi, hz0, hz1, hz2⟩, rfl, by decide⟩
/-- A row of bytes of the call's own. -/
def OwnB (w : World) (base : Nat) (v : Value) (l : List UInt8) : Prop := w.ownsRow base 5 1 v l.length (Lib.byteCells l)
theorem ownB_row {w : World} {base : Nat} {v : Value} {l : List UInt8} (h : OwnB w base v l) : ∃ a c, v = .slice a l.length c ∧ RowAt w a (Lib.byteCells l) := by
  obtain ⟨a, c, h1, h2⟩ := ownsRow_row h
  exact ⟨a, c, h1, h2⟩
theorem i64_and15 (n : Int) : bits .and .i64 n 15 = n % 16 := by
  have h1 : (BitVec.ofInt 64 n &&& BitVec.ofInt 64 15).toNat = (BitVec.ofInt 64 n).toNat % 2 ^ 4 := by
    rw [BitVec.toNat_and, show (BitVec.ofInt 64 15).toNat = 2 ^ 4 - 1 by decide, Nat.and_two_pow_sub_one_eq_mod]
  have h2 := BitVec.toNat_ofInt (n := 64) (i := n)
  show IntKind.i64.wrap ((BitVec.ofInt 64 n &&& BitVec.ofInt 64 15).toNat : Nat) = _
  rw [h1, h2, IntKind.wrap_i64]
  omega
theorem ownB_snoc {w : World} {base : Nat} {v : Value} {pre : List UInt8} {b : UInt8} (h : w.ownsRow base 5 1 v (pre.length + 1) (Lib.byteCells pre ++ [.int .u8 (b.toNat : Int)])) : OwnB w base v (pre ++ [b]) := by
  unfold OwnB
  simpa [Lib.byteCells] using h
theorem below_alloc' {B : Nat} {a w : World} (h : Below B a w) (hB : B ≤ a.heap.size) (o : Obj) : Below B a (w.alloc o) := h.alloc (Nat.le_trans hB h.size) o
def digs (x y k : Nat) : List UInt8 := if k = 0 then [] else if k = 1 then hex4 x else hex4 x ++ hex4 y
set_option maxRecDepth 100000 in
set_option maxHeartbeats 1600000 in
theorem text_cv (p : ZP) (w : World) :
    Calls Tryd.prog 16 #[cv p] w fun e w' => e = .returned (.string ⟨(hex4 (rs p.1).toNat ++ hex4 (rs p.2).toNat).toArray⟩) ∧ Below w.heap.size w w' := by
  obtain ⟨x, hx⟩ : ∃ x : Nat, (rs p.1).toNat = x := ⟨_, rfl⟩
  obtain ⟨y, hy⟩ : ∃ y : Nat, (rs p.2).toNat = y := ⟨_, rfl⟩
  have b1 := rs_bd p.1
  have b2 := rs_bd p.2
  have hx' : rs p.1 = (x : Int) := by omega
  have hy' : rs p.2 = (y : Int) := by omega
  have hx65 : x < 65521 := by omega
  have hy65 : y < 65521 := by omega
  have HE := Lib.hid (show cv p = .complex .f64 (fl (x : Int)) (fl (y : Int)) by rw [cv_eq, hx', hy'])
  have HM := Lib.hid (may_cv p)
  rw [HE.out] at HM ⊢
  rw [hx, hy]
  clear hx hy b1 b2 hx' hy'
  go_enter Tryd.func16, Tryd.ntmps16
  go_wp2_with (go_at_call 24; refine (HM.out _).mono ?_; rintro e' w' ⟨rfl, rfl⟩)
  have hx6 : x < 65536 := by omega
  have hy6 : y < 65536 := by omega
  go_loopw [3, 17] (fun v i wr => ∃ k : Nat, k ≤ 2 ∧ i = .int .i64 k ∧ OwnB wr w.heap.size v (digs x y k) ∧ Below w.heap.size w wr) (fun _ i _ => 2 - (intOf i).toNat)
  case atStart => exact ⟨0, by omega, rfl, World.ownsRow_nil _ _ _ _, Below.refl _ _⟩
  case round =>
    obtain ⟨k, hk, rfl, hO, hL⟩ := hrel
    have HO := Lib.hid hO
    have HL := Lib.hid hL
    clear hO hL
    by_cases hlt : k < 2
    · obtain ⟨z, hz, hidx, hnext⟩ : ∃ z : Nat, z < 65536 ∧ (∀ w, (Instr.index 58 (.agg #[.float .f64 (fl (x : Int)), .float .f64 (fl (y : Int))]) (.int .i64 (k : Int))).run Tryd.prog w = .ok (.float .f64 (fl (z : Int))) w) ∧ digs x y (k + 1) = digs x y k ++ hex4 z := by
        obtain rfl | rfl : k = 0 ∨ k = 1 := by omega
        · exact ⟨x, hx6, fun w => by kernel_rfl, by simp [digs]⟩
        · exact ⟨y, hy6, fun w => by kernel_rfl, by simp [digs]⟩
      have HX := Lib.hid hnext
      have hlen : (digs x y k).length ≤ 8 := by unfold digs; split <;> (try split) <;> simp [hex4]
      clear hnext
      have kc : ∀ w, (convert 57 3 (.float .f64 (fl (z : Int)))).run Tryd.prog w = .ok (.int .i64 (z : Int)) w := fun w => run_convert_float_int w _ _ _ _ _ _ (by rw [Tryd.underlying57]; rfl) Tryd.underlying3 (toIntVal_fl (by omega))
      have hlt' : (k : Int) < 2 := by omega
      go_wp2_with fail
      obtain ⟨wo, rfl⟩ : ∃ wo : World, wo = wr := ⟨_, rfl⟩
      go_loopw [3, 7] (fun v i wr => ∃ j : Nat, j ≤ 4 ∧ i = .int .i64 (3 - (j : Int)) ∧ OwnB wr w.heap.size v (digs x y k ++ (hex4 z).take j) ∧ Below w.heap.size w wr) (fun _ i _ => (intOf i + 1).toNat)
      case atStart => exact ⟨0, by omega, by simp, by simpa using HO.out, HL.out⟩
      case round =>
        obtain ⟨j, hj, rfl, hO, hL⟩ := hrel
        clear HO HL
        have HO := Lib.hid hO
        have HL := Lib.hid hL
        clear hO hL
        by_cases hj4 : j < 4
        · obtain ⟨d, hd⟩ : ∃ d : Nat, z / 16 ^ (3 - j) % 16 = d := ⟨_, rfl⟩
          have hd16 : d < 16 := by rw [← hd]; exact Nat.mod_lt _ (by decide)
          have HT := Lib.hid (show (hex4 z).take (j + 1) = (hex4 z).take j ++ [hexd d] by
            obtain rfl | rfl | rfl | rfl : j = 0 ∨ j = 1 ∨ j = 2 ∨ j = 3 := by omega
            all_goals simp [hex4, ← hd])
          obtain ⟨pre, hpre⟩ : ∃ pre, digs x y k ++ (hex4 z).take j = pre := ⟨_, rfl⟩
          have hpl : pre.length ≤ 12 := by rw [← hpre]; simp; omega
          rw [hpre] at HO
          have HP := Lib.hid hpre
          have k15 := i64_and15
          have kd : IntKind.u8.wrap (d : Int) = (d : Int) := by simp [IntKind.wrap, IntKind.bits, IntKind.signed]; omega
          have s1 : d < 10 → IntKind.u8.wrap (48 + (d : Int)) = ((hexd d).toNat : Int) := fun h => by
            unfold hexd; rw [if_pos h]; simp [IntKind.wrap, IntKind.bits, IntKind.signed]
          have s2 : ¬ d < 10 → 97 + (d : Int) - 10 = ((hexd d).toNat : Int) := fun h => by
            unfold hexd; rw [if_neg h]; simp; omega
          have S1 := Lib.hid s1
          have S2 := Lib.hid s2
          clear s1 s2 hpre
          by_cases h10 : d < 10
          · have t1 := S1.out h10
            have h10' : decide ((d : Int) < 10) = true := by simpa using (show (d : Int) < 10 by omega)
            obtain rfl | rfl | rfl | rfl : j = 0 ∨ j = 1 ∨ j = 2 ∨ j = 3 := by omega
            · have kq : (z : Int) / 4096 % 16 = (d : Int) := by rw [← hd]; omega
              clear hd
              go_wp2_with (at_builtin; refine wpList_append_any rfl _ _ 39 rfl w.heap.size 5 _ 1 1 tyBytes _ pre.length (Lib.byteCells pre) rfl (ownsRow_below HO.out (below_alloc (Below.refl _ _) _)) _ 1 1 [.int .u8 ((hexd d).toNat : Int)] rfl rfl (RowAt.new _ _ _) (by simp [Value.oneCell']) (by unfold maxLen; omega) (by omega) ?c3 ?_; (case c3 => have := HL.out.size; simp; omega); intro v' w' own' hb'; have HO2 := Lib.hid own'; have HL2 := Lib.hid ((below_alloc HL.out _).trans hb'); clear own' hb')
              refine ⟨⟨1, by omega, by simp, ?_, HL2.out⟩, by simp [intOf]⟩
              rw [HT.out, ← List.append_assoc, HP.out]
              exact ownB_snoc HO2.out
            · have kq : (z : Int) / 256 % 16 = (d : Int) := by rw [← hd]; omega
              clear hd
              go_wp2_with (at_builtin; refine wpList_append_any rfl _ _ 39 rfl w.heap.size 5 _ 1 1 tyBytes _ pre.length (Lib.byteCells pre) rfl (ownsRow_below HO.out (below_alloc (Below.refl _ _) _)) _ 1 1 [.int .u8 ((hexd d).toNat : Int)] rfl rfl (RowAt.new _ _ _) (by simp [Value.oneCell']) (by unfold maxLen; omega) (by omega) ?c3 ?_; (case c3 => have := HL.out.size; simp; omega); intro v' w' own' hb'; have HO2 := Lib.hid own'; have HL2 := Lib.hid ((below_alloc HL.out _).trans hb'); clear own' hb')
              refine ⟨⟨2, by omega, by simp, ?_, HL2.out⟩, by simp [intOf]⟩
              rw [HT.out, ← List.append_assoc, HP.out]
              exact ownB_snoc HO2.out
            · have kq : (z : Int) / 16 % 16 = (d : Int) := by rw [← hd]; omega
              clear hd
              go_wp2_with (at_builtin; refine wpList_append_any rfl _ _ 39 rfl w.heap.size 5 _ 1 1 tyBytes _ pre.length (Lib.byteCells pre) rfl (ownsRow_below HO.out (below_alloc (Below.refl _ _) _)) _ 1 1 [.int .u8 ((hexd d).toNat : Int)] rfl rfl (RowAt.new _ _ _) (by simp [Value.oneCell']) (by unfold maxLen; omega) (by omega) ?c3 ?_; (case c3 => have := HL.out.size; simp; omega); intro v' w' own' hb'; have HO2 := Lib.hid own'; have HL2 := Lib.hid ((below_alloc HL.out _).trans hb'); clear own' hb')
              refine ⟨⟨3, by omega, by simp, ?_, HL2.out⟩, by simp [intOf]⟩
              rw [HT.out, ← List.append_assoc, HP.out]
              exact ownB_snoc HO2.out
            · have kq : (z : Int) % 16 = (d : Int) := by rw [← hd]; omega
              clear hd
              go_wp2_with (at_builtin; refine wpList_append_any rfl _ _ 39 rfl w.heap.size 5 _ 1 1 tyBytes _ pre.length (Lib.byteCells pre) rfl (ownsRow_below HO.out (below_alloc (Below.refl _ _) _)) _ 1 1 [.int .u8 ((hexd d).toNat : Int)] rfl rfl (RowAt.new _ _ _) (by simp [Value.oneCell']) (by unfold maxLen; omega) (by omega) ?c3 ?_; (case c3 => have := HL.out.size; simp; omega); intro v' w' own' hb'; have HO2 := Lib.hid own'; have HL2 := Lib.hid ((below_alloc HL.out _).trans hb'); clear own' hb')
              refine ⟨⟨4, by omega, by simp, ?_, HL2.out⟩, by simp [intOf]⟩
              rw [HT.out, ← List.append_assoc, HP.out]
              exact ownB_snoc HO2.out
          · have t2 := S2.out h10
            have h10' : decide ((d : Int) < 10) = false := by simpa using (show (10 : Int) ≤ d by omega)
            obtain rfl | rfl | rfl | rfl : j = 0 ∨ j = 1 ∨ j = 2 ∨ j = 3 := by omega
            · have kq : (z : Int) / 4096 % 16 = (d : Int) := by rw [← hd]; omega
              clear hd
              go_wp2_with (at_builtin; refine wpList_append_any rfl _ _ 39 rfl w.heap.size 5 _ 1 1 tyBytes _ pre.length (Lib.byteCells pre) rfl (ownsRow_below HO.out (below_alloc (Below.refl _ _) _)) _ 1 1 [.int .u8 ((hexd d).toNat : Int)] rfl rfl (RowAt.new _ _ _) (by simp [Value.oneCell']) (by unfold maxLen; omega) (by omega) ?c3 ?_; (case c3 => have := HL.out.size; simp; omega); intro v' w' own' hb'; have HO2 := Lib.hid own'; have HL2 := Lib.hid ((below_alloc HL.out _).trans hb'); clear own' hb')
              refine ⟨⟨1, by omega, by simp, ?_, HL2.out⟩, by simp [intOf]⟩
              rw [HT.out, ← List.append_assoc, HP.out]
              exact ownB_snoc HO2.out
            · have kq : (z : Int) / 256 % 16 = (d : Int) := by rw [← hd]; omega
              clear hd
              go_wp2_with (at_builtin; refine wpList_append_any rfl _ _ 39 rfl w.heap.size 5 _ 1 1 tyBytes _ pre.length (Lib.byteCells pre) rfl (ownsRow_below HO.out (below_alloc (Below.refl _ _) _)) _ 1 1 [.int .u8 ((hexd d).toNat : Int)] rfl rfl (RowAt.new _ _ _) (by simp [Value.oneCell']) (by unfold maxLen; omega) (by omega) ?c3 ?_; (case c3 => have := HL.out.size; simp; omega); intro v' w' own' hb'; have HO2 := Lib.hid own'; have HL2 := Lib.hid ((below_alloc HL.out _).trans hb'); clear own' hb')
              refine ⟨⟨2, by omega, by simp, ?_, HL2.out⟩, by simp [intOf]⟩
              rw [HT.out, ← List.append_assoc, HP.out]
              exact ownB_snoc HO2.out
            · have kq : (z : Int) / 16 % 16 = (d : Int) := by rw [← hd]; omega
              clear hd
              go_wp2_with (at_builtin; refine wpList_append_any rfl _ _ 39 rfl w.heap.size 5 _ 1 1 tyBytes _ pre.length (Lib.byteCells pre) rfl (ownsRow_below HO.out (below_alloc (Below.refl _ _) _)) _ 1 1 [.int .u8 ((hexd d).toNat : Int)] rfl rfl (RowAt.new _ _ _) (by simp [Value.oneCell']) (by unfold maxLen; omega) (by omega) ?c3 ?_; (case c3 => have := HL.out.size; simp; omega); intro v' w' own' hb'; have HO2 := Lib.hid own'; have HL2 := Lib.hid ((below_alloc HL.out _).trans hb'); clear own' hb')
              refine ⟨⟨3, by omega, by simp, ?_, HL2.out⟩, by simp [intOf]⟩
              rw [HT.out, ← List.append_assoc, HP.out]
              exact ownB_snoc HO2.out
            · have kq : (z : Int) % 16 = (d : Int) := by rw [← hd]; omega
              clear hd
              go_wp2_with (at_builtin; refine wpList_append_any rfl _ _ 39 rfl w.heap.size 5 _ 1 1 tyBytes _ pre.length (Lib.byteCells pre) rfl (ownsRow_below HO.out (below_alloc (Below.refl _ _) _)) _ 1 1 [.int .u8 ((hexd d).toNat : Int)] rfl rfl (RowAt.new _ _ _) (by simp [Value.oneCell']) (by unfold maxLen; omega) (by omega) ?c3 ?_; (case c3 => have := HL.out.size; simp; omega); intro v' w' own' hb'; have HO2 := Lib.hid own'; have HL2 := Lib.hid ((below_alloc HL.out _).trans hb'); clear own' hb')
              refine ⟨⟨4, by omega, by simp, ?_, HL2.out⟩, by simp [intOf]⟩
              rw [HT.out, ← List.append_assoc, HP.out]
              exact ownB_snoc HO2.out
        · obtain rfl : j = 4 := by omega
          clear hj4
          have hn : decide ((3 : Int) - ((4 : Nat) : Int) ≥ 0) = false := by decide
          go_wp2_with fail
          go_roundw
          case rel => exact ⟨k + 1, by omega, by go_num, by rw [HX.out]; exact HO.out, HL.out⟩
          case measure => simp [intOf]; omega
    · obtain rfl : k = 2 := by omega
      obtain ⟨a, c, rfl, hr⟩ := (show ∃ a c, _ = Value.slice a 8 c ∧ RowAt wr a (Lib.byteCells (hex4 x ++ hex4 y)) from ownB_row HO.out)
      have hc := run_bytes_str c hr (len := 8) rfl
      clear hr HO
      go_wp2_with fail
      go_ret
      exact ⟨rfl, HL.out⟩
end Go.Proofs.YthbbfdlacclccaaDoor
namespace Go.Proofs.YthbbfdlacclccaaDoor
open Go.RowKit

def okc (c : UInt8) : Bool := decide (48 ≤ c.toNat ∧ c.toNat ≤ 57) || decide (97 ≤ c.toNat ∧ c.toNat ≤ 102)
def hval (c : UInt8) : Nat := if c.toNat ≤ 57 then c.toNat - 48 else c.toNat - 87
def hexN (l : List UInt8) : Nat := l.foldl (fun a c => a * 16 + hval c) 0
/-- What a text of a mark tells. -/
def readZ (l : List UInt8) : Option ZP := if l.length = 8 ∧ l.all okc = true ∧ hexN (l.take 4) < 65521 ∧ hexN (l.drop 4) < 65521 then some (hexN (l.take 4), hexN (l.drop 4)) else none
def rdV : Option ZP → Value
  | some p => .tuple #[cv p, .bool true]
  | none => .tuple #[cv (0, 0), .bool false]
def rrV : Option ZP → Value
  | some p => .tuple #[zv p, .bool true]
  | none => .tuple #[zv (0, 0), .bool false]
theorem hexN_snoc (l : List UInt8) (c : UInt8) : hexN (l ++ [c]) = hexN l * 16 + hval c := by unfold hexN; rw [List.foldl_append]; rfl
theorem hval_ok {c : UInt8} (h : okc c = true) : hval c < 16 := by
  unfold okc at h; unfold hval
  simp only [Bool.or_eq_true, decide_eq_true_eq] at h
  split <;> omega
theorem fold_lt : ∀ (l : List UInt8) (a : Nat), l.all okc = true → l.foldl (fun a c => a * 16 + hval c) a < (a + 1) * 16 ^ l.length := by
  intro l
  induction l with
  | nil => intro a _; simp
  | cons c t ih =>
    intro a h
    rw [List.all_cons, Bool.and_eq_true] at h
    have h2 := hval_ok h.1
    have h3 := ih (a * 16 + hval c) h.2
    have h4 : (a * 16 + hval c + 1) * 16 ^ t.length ≤ ((a + 1) * 16) * 16 ^ t.length := Nat.mul_le_mul_right _ (by omega)
    rw [List.foldl_cons, List.length_cons, Nat.pow_succ, Nat.mul_comm (16 ^ t.length) 16, ← Nat.mul_assoc]
    omega
theorem hexN_lt (l : List UInt8) (h : l.all okc = true) : hexN l < 16 ^ l.length := by
  have := fold_lt l 0 h
  simpa [hexN] using this
/-- What has been read after k bytes. -/
def RdI (l : List UInt8) (k : Nat) (a b : Nat) : Prop := (l.take k).all okc = true ∧ a = hexN ((l.take k).take 4) ∧ b = hexN ((l.take k).drop 4) ∧ a < 65536 ∧ b < 65536
theorem rdI_zero (l : List UInt8) : RdI l 0 0 0 := ⟨rfl, rfl, rfl, by decide, by decide⟩
theorem rdI_lo {l : List UInt8} {k a b : Nat} (h : RdI l k a b) (hk : k < l.length) (hk4 : k < 4) (hc : okc l[k] = true) : RdI l (k + 1) (a * 16 + hval l[k]) b := by
  obtain ⟨h1, rfl, rfl, h4, h5⟩ := h
  have e := take_next l k hk
  have hlen : (l.take k).length = k := by simp; omega
  have h6 : (l.take (k + 1)).all okc = true := by rw [e, List.all_append, h1]; simpa using hc
  have h7 : (l.take (k + 1)).take 4 = (l.take k).take 4 ++ [l[k]] := by
    rw [e, List.take_append, hlen]
    congr 1
    exact List.take_of_length_le (by simp; omega)
  have h8 : (l.take (k + 1)).drop 4 = (l.take k).drop 4 := by
    rw [List.drop_of_length_le (by simp; omega), List.drop_of_length_le (by simp; omega)]
  refine ⟨h6, by rw [h7, hexN_snoc], by rw [h8], ?_, h5⟩
  rw [← hexN_snoc, ← h7]
  have h9 : ((l.take (k + 1)).take 4).all okc = true := List.all_eq_true.2 fun x hx => List.all_eq_true.1 h6 x (List.mem_of_mem_take hx)
  have := hexN_lt _ h9
  have h10 : 16 ^ ((l.take (k + 1)).take 4).length ≤ 16 ^ 4 := Nat.pow_le_pow_right (by decide) (by simp; omega)
  omega
theorem rdI_hi {l : List UInt8} {k a b : Nat} (h : RdI l k a b) (hk : k < l.length) (hk4 : 4 ≤ k) (hk8 : k < 8) (hc : okc l[k] = true) : RdI l (k + 1) a (b * 16 + hval l[k]) := by
  obtain ⟨h1, rfl, rfl, h4, h5⟩ := h
  have e := take_next l k hk
  have hlen : (l.take k).length = k := by simp; omega
  have h6 : (l.take (k + 1)).all okc = true := by rw [e, List.all_append, h1]; simpa using hc
  have h7 : (l.take (k + 1)).take 4 = (l.take k).take 4 := by
    rw [e, List.take_append_of_le_length (by omega)]
  have h8 : (l.take (k + 1)).drop 4 = (l.take k).drop 4 ++ [l[k]] := by
    rw [e, List.drop_append_of_le_length (by omega)]
  refine ⟨h6, by rw [h7], by rw [h8, hexN_snoc], h4, ?_⟩
  rw [← hexN_snoc, ← h8]
  have h9 : ((l.take (k + 1)).drop 4).all okc = true := List.all_eq_true.2 fun x hx => List.all_eq_true.1 h6 x (List.mem_of_mem_drop hx)
  have := hexN_lt _ h9
  have h10 : 16 ^ ((l.take (k + 1)).drop 4).length ≤ 16 ^ 4 := Nat.pow_le_pow_right (by decide) (by simp; omega)
  omega
theorem readZ_len {l : List UInt8} (h : l.length ≠ 8) : readZ l = none := by unfold readZ; rw [if_neg (fun q => h q.1)]
theorem readZ_bad {l : List UInt8} {k : Nat} (hk : k < l.length) (h : okc l[k] = false) : readZ l = none := by
  unfold readZ
  rw [if_neg]
  rintro ⟨_, q, _⟩
  have := List.all_eq_true.1 q l[k] (List.getElem_mem hk)
  rw [h] at this; cases this
theorem readZ_big {l : List UInt8} {a b : Nat} (hl : l.length = 8) (h : RdI l 8 a b) (hb : 65521 ≤ a ∨ 65521 ≤ b) : readZ l = none := by
  obtain ⟨h1, rfl, rfl, _⟩ := h
  have e8 : l.take 8 = l := List.take_of_length_le (by omega)
  rw [e8] at hb
  unfold readZ
  rw [if_neg]
  rintro ⟨_, _, q1, q2⟩
  omega
theorem readZ_yes {l : List UInt8} {a b : Nat} (hl : l.length = 8) (h : RdI l 8 a b) (ha : a < 65521) (hb : b < 65521) : readZ l = some ((a : Int), (b : Int)) := by
  obtain ⟨h1, rfl, rfl, _⟩ := h
  have e8 : l.take 8 = l := List.take_of_length_le (by omega)
  rw [e8] at h1 ha hb ⊢
  unfold readZ
  rw [if_pos ⟨hl, h1, ha, hb⟩]
end Go.Proofs.YthbbfdlacclccaaDoor
