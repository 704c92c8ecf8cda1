/- Walks of the document's four, Text. -/
import Derived.Test.YtchfphhelafbbaaDoorGi
import Derived.Laws.BytesArg
import Derived.ShutString
import Derived.Laws.Concat
namespace Go.Proofs.YtchfphhelafbbaaDoor
open Go.RowKit

/-- A digit of base 16. -/
def hexd (d : Nat) : UInt8 := if d < 10 then UInt8.ofNat (48 + d) else UInt8.ofNat (87 + d)
def hex4 (n : Nat) : List UInt8 := [hexd (n / 4096 % 16), hexd (n / 256 % 16), hexd (n / 16 % 16), hexd (n % 16)]
/-- A string of a slice of bytes. -/
theorem run_bytes_str {w : World} {a : Option Addr} {l : List UInt8} {len : Nat} (c : Nat) (h : RowAt w a (Lib.byteCells l)) (hl : l.length = len) :
    (convert 36 9 (.slice a len c)).run Tryd.prog w = .ok (.string ⟨l.toArray⟩) w := by
  have key : strOfNums (l.map fun b => (b.toNat : Int)) = ⟨l.toArray⟩ := by
    unfold strOfNums
    congr 2
    rw [List.map_map]
    conv => rhs; rw [← List.map_id l]
    exact List.map_congr_left fun b _ => by simp
  rcases h with h | ⟨b, off, rfl, -, hc⟩
  · unfold Lib.byteCells at h
    simp at h; subst h
    simp at hl; subst hl
    cases a with
    | none => exact run_convert_bytes_nil w _ _ Tryd.underlying36 Tryd.underlying5 0 c _ Tryd.underlying9
    | some a =>
      rw [run_convert_bytes_string w _ _ _ _ 0 c Tryd.underlying36 Tryd.underlying5 Tryd.underlying9, run_bytesToString w a 0 c [] (by simp [loadCells, loadCellsFrom])]
      rfl
  · rw [← key]
    refine run_convert_bytes_arg w _ _ Tryd.underlying36 Tryd.underlying5 b off len c _ (by simpa using hl) (fun i hi => ?_) _ Tryd.underlying9
    rw [hc i _ (cells_byte (by omega))]
    simp [List.getD, show i < l.length by omega]
theorem hexd_index (d : Nat) (hd : d < 16) (w : World) : (Instr.index 9 (.string ⟨#[48, 49, 50, 51, 52, 53, 54, 55, 56, 57, 97, 98, 99, 100, 101, 102]⟩) (.int .i64 (d : Int))).run Tryd.prog w = .ok (.int .u8 ((hexd d).toNat : Int)) w := by
  rw [run_index_string w _ _ _ _ Tryd.underlying9]
  have hs : (⟨#[48, 49, 50, 51, 52, 53, 54, 55, 56, 57, 97, 98, 99, 100, 101, 102]⟩ : ByteArray).size = 16 := rfl
  rw [dif_pos (by rw [hs]; omega)]
  simp only [Int.toNat_natCast]
  obtain rfl | rfl | rfl | rfl | rfl | rfl | rfl | rfl | rfl | rfl | rfl | rfl | rfl | rfl | rfl | rfl : d = 0 ∨ d = 1 ∨ d = 2 ∨ d = 3 ∨ d = 4 ∨ d = 5 ∨ d = 6 ∨ d = 7 ∨ d = 8 ∨ d = 9 ∨ d = 10 ∨ d = 11 ∨ d = 12 ∨ d = 13 ∨ d = 14 ∨ d = 15 := by omega
  all_goals rfl
theorem wrap_nat (m : Nat) (h : m ≤ 9223372036854775807) : IntKind.i64.wrap (m : Int) = (m : Int) := IntWalk.i64_in _ (by omega)
set_option maxRecDepth 100000 in
set_option maxHeartbeats 1600000 in
theorem four_any (n : Nat) (w : World) (hn : n < 65536) :
    Calls Tryd.prog 51 #[.int .i64 n] w fun e w' => e = .returned (.string ⟨(hex4 n).toArray⟩) ∧ Below w.heap.size w w' := by
  unfold hex4
  obtain ⟨d1, hd1⟩ : ∃ d, n / 4096 % 16 = d := ⟨_, rfl⟩
  obtain ⟨d2, hd2⟩ : ∃ d, n / 256 % 16 = d := ⟨_, rfl⟩
  obtain ⟨d3, hd3⟩ : ∃ d, n / 16 % 16 = d := ⟨_, rfl⟩
  obtain ⟨d4, hd4⟩ : ∃ d, n % 16 = d := ⟨_, rfl⟩
  obtain ⟨q1, hq1⟩ : ∃ d, n / 4096 = d := ⟨_, rfl⟩
  obtain ⟨q2, hq2⟩ : ∃ d, n / 256 = d := ⟨_, rfl⟩
  obtain ⟨q3, hq3⟩ : ∃ d, n / 16 = d := ⟨_, rfl⟩
  rw [hd1, hd2, hd3, hd4]
  have k1 : IntKind.i64.wrap ((n : Int) / 4096) = (q1 : Int) := by rw [← wrap_nat q1 (by omega)]; congr 1; omega
  have k2 : IntKind.i64.wrap ((n : Int) / 256) = (q2 : Int) := by rw [← wrap_nat q2 (by omega)]; congr 1; omega
  have k3 : IntKind.i64.wrap ((n : Int) / 16) = (q3 : Int) := by rw [← wrap_nat q3 (by omega)]; congr 1; omega
  have m1 : (q1 : Int).tmod 16 = (d1 : Int) := by rw [Int.tmod_eq_emod_of_nonneg (by omega)]; omega
  have m2 : (q2 : Int).tmod 16 = (d2 : Int) := by rw [Int.tmod_eq_emod_of_nonneg (by omega)]; omega
  have m3 : (q3 : Int).tmod 16 = (d3 : Int) := by rw [Int.tmod_eq_emod_of_nonneg (by omega)]; omega
  have m4 : (n : Int).tmod 16 = (d4 : Int) := by rw [Int.tmod_eq_emod_of_nonneg (by omega)]; omega
  have i1 := hexd_index d1 (by omega)
  have i2 := hexd_index d2 (by omega)
  have i3 := hexd_index d3 (by omega)
  have i4 := hexd_index d4 (by omega)
  clear hd1 hd2 hd3 hd4 hq1 hq2 hq3
  go_enter Tryd.func51, Tryd.ntmps51
  go_wp2_with fail
  refine still_tail 19 (by kernel_rfl) (by kernel_rfl) fun W hW => ?_
  simp only [List.take_succ_cons, List.take_zero, List.drop_succ_cons, List.drop_zero]
  have HL : Hid (Below w.heap.size w W) := Lib.hid (hW ▸ (Below.refl _ _).drew)
  clear hW
  repeat still_step
  refine wpStill_nil ?_
  have hc : (convert 36 9 (.slice (some ⟨W.heap.size, 0, none⟩) 4 4)).run Tryd.prog (W.alloc (.cells #[.int .u8 ((hexd d1).toNat : Int), .int .u8 ((hexd d2).toNat : Int), .int .u8 ((hexd d3).toNat : Int), .int .u8 ((hexd d4).toNat : Int)] 5)) = .ok (.string ⟨[hexd d1, hexd d2, hexd d3, hexd d4].toArray⟩) (W.alloc (.cells #[.int .u8 ((hexd d1).toNat : Int), .int .u8 ((hexd d2).toNat : Int), .int .u8 ((hexd d3).toNat : Int), .int .u8 ((hexd d4).toNat : Int)] 5)) :=
    run_bytes_str 4 (Or.inr ⟨_, 0, rfl, by simp, fun j u hj => by
      rw [Nat.zero_add]
      refine (World.cell?_alloc_new W _ _ j).trans ?_
      rw [← hj]
      unfold Lib.byteCells
      simp⟩) rfl
  go_wp2_with fail
  go_ret
  exact ⟨rfl, below_alloc HL.out _⟩
/-- Two strings, joined. -/
theorem run_cat {P : Program} (x y : List UInt8) (h : x.length + y.length ≤ 9223372036854775807) (w : World) : (Op.stringOp .add ⟨x.toArray⟩ ⟨y.toArray⟩).run P w = .ok (.string ⟨(x ++ y).toArray⟩) w := by
  rw [run_string_add_sum w _ _ (by simpa [ByteArray.size] using h)]
  congr 2
def TxtS (w : World) (x y : Nat) (V : World) : Prop := V.cell? ⟨w.heap.size, 0, none⟩ = some (.int .i64 x) ∧ V.cell? ⟨w.heap.size, 1, none⟩ = some (.int .i64 y) ∧ Below w.heap.size w V
theorem TxtS.keep {w V V' : World} {x y : Nat} (h : TxtS w x y V) (hb : Below V.heap.size V V') : TxtS w x y V' := ⟨cell_keep hb h.1, cell_keep hb h.2.1, below_on h.2.2 hb⟩
theorem TxtS.all {w V : World} {x y : Nat} (h : TxtS w x y V) : V.cell? ⟨w.heap.size, 0, none⟩ = some (.int .i64 x) ∧ V.cell? ⟨w.heap.size, 1, none⟩ = some (.int .i64 y) ∧ TxtS w x y V := ⟨h.1, h.2.1, h⟩
set_option maxRecDepth 100000 in
set_option maxHeartbeats 1600000 in
theorem rtext (x y : Nat) (w : World) (hx : x < 65536) (hy : y < 65536) :
    Calls Tryd.prog 32 #[.agg #[.int .i64 x, .int .i64 y]] w fun e w' => e = .returned (.string ⟨(hex4 x ++ hex4 y).toArray⟩) ∧ Below w.heap.size w w' := by
  have H : Hid (TxtS w x y (w.alloc (.cells #[.int .i64 x, .int .i64 y] 29))) := Lib.hid ⟨by simp [go_sem], by simp [go_sem], below_alloc (Below.refl _ _) _⟩
  go_enter Tryd.func32, Tryd.ntmps32
  go_wp2_with fail
  generalize (w.alloc (.cells #[.int .i64 x, .int .i64 y] 29)) = V at H ⊢
  obtain ⟨x0, x1, -⟩ := H.out
  have hcat : ∀ w, (Op.stringOp .add ⟨(hex4 x).toArray⟩ ⟨(hex4 y).toArray⟩).run Tryd.prog w = .ok (.string ⟨(hex4 x ++ hex4 y).toArray⟩) w := run_cat _ _ (by simp [hex4])
  go_region_held3 (fun V => V.cell? ⟨w.heap.size, 0, none⟩ = some (.int .i64 x) ∧ V.cell? ⟨w.heap.size, 1, none⟩ = some (.int .i64 y) ∧ TxtS w x y V)
    (first | exact (H.out.keep (Below.refl _ _).drew).all | exact ((by with_reducible assumption : _ ∧ _ ∧ TxtS _ _ _ _).2.2.keep hb).all)
    ((go_at_call 51; (first | (with_reducible refine (four_any x _ hx).mono ?_) | (with_reducible refine (four_any y _ hy).mono ?_)); rintro e' w' ⟨rfl, hb⟩))
  have s6 := (by with_reducible assumption : _ ∧ _ ∧ TxtS _ _ _ _).2.2
  go_wp2_with fail
  go_ret
  exact ⟨rfl, s6.2.2⟩
end Go.Proofs.YtchfphhelafbbaaDoor
