/- Walks of the document's four, Text. -/
import Derived.Test.YtdpkmcbpeloljaaDoorGi
import Derived.Laws.BytesArg
import Derived.ShutString
import Derived.Laws.Concat
namespace Go.Proofs.YtdpkmcbpeloljaaDoor
open Go.RowKit

/-- A digit of base 16. -/
def hexd (d : Nat) : UInt8 := if d < 10 then UInt8.ofNat (48 + d) else UInt8.ofNat (87 + d)
def hex4 (n : Nat) : List UInt8 := [hexd (n / 4096 % 16), hexd (n / 256 % 16), hexd (n / 16 % 16), hexd (n % 16)]
/-- A string of a slice of bytes. -/
theorem run_bytes_str {w : World} {a : Option Addr} {l : List UInt8} {len : Nat} (c : Nat) (h : RowAt w a (Lib.byteCells l)) (hl : l.length = len) :
    (convert 42 9 (.slice a len c)).run Tryd.prog w = .ok (.string ⟨l.toArray⟩) w := by
  have key : strOfNums (l.map fun b => (b.toNat : Int)) = ⟨l.toArray⟩ := by
    unfold strOfNums
    congr 2
    rw [List.map_map]
    conv => rhs; rw [← List.map_id l]
    exact List.map_congr_left fun b _ => by simp
  rcases h with h | ⟨b, off, rfl, -, hc⟩
  · unfold Lib.byteCells at h
    simp at h; subst h
    simp at hl; subst hl
    cases a with
    | none => exact run_convert_bytes_nil w _ _ Tryd.underlying42 Tryd.underlying5 0 c _ Tryd.underlying9
    | some a =>
      rw [run_convert_bytes_string w _ _ _ _ 0 c Tryd.underlying42 Tryd.underlying5 Tryd.underlying9, run_bytesToString w a 0 c [] (by simp [loadCells, loadCellsFrom])]
      rfl
  · rw [← key]
    refine run_convert_bytes_arg w _ _ Tryd.underlying42 Tryd.underlying5 b off len c _ (by simpa using hl) (fun i hi => ?_) _ Tryd.underlying9
    rw [hc i _ (cells_byte (by omega))]
    simp [List.getD, show i < l.length by omega]
theorem hexd_index (d : Nat) (hd : d < 16) (w : World) : (Instr.index 9 (.string ⟨#[48, 49, 50, 51, 52, 53, 54, 55, 56, 57, 97, 98, 99, 100, 101, 102]⟩) (.int .i64 (d : Int))).run Tryd.prog w = .ok (.int .u8 ((hexd d).toNat : Int)) w := by
  rw [run_index_string w _ _ _ _ Tryd.underlying9]
  have hs : (⟨#[48, 49, 50, 51, 52, 53, 54, 55, 56, 57, 97, 98, 99, 100, 101, 102]⟩ : ByteArray).size = 16 := rfl
  rw [dif_pos (by rw [hs]; omega)]
  simp only [Int.toNat_natCast]
  obtain rfl | rfl | rfl | rfl | rfl | rfl | rfl | rfl | rfl | rfl | rfl | rfl | rfl | rfl | rfl | rfl : d = 0 ∨ d = 1 ∨ d = 2 ∨ d = 3 ∨ d = 4 ∨ d = 5 ∨ d = 6 ∨ d = 7 ∨ d = 8 ∨ d = 9 ∨ d = 10 ∨ d = 11 ∨ d = 12 ∨ d = 13 ∨ d = 14 ∨ d = 15 := by omega
  all_goals rfl
theorem wrap_nat (m : Nat) (h : m ≤ 9223372036854775807) : IntKind.i64.wrap (m : Int) = (m : Int) := IntWalk.i64_in _ (by omega)
/-- Two strings, joined. -/
theorem run_cat {P : Program} (x y : List UInt8) (h : x.length + y.length ≤ 9223372036854775807) (w : World) : (Op.stringOp .add ⟨x.toArray⟩ ⟨y.toArray⟩).run P w = .ok (.string ⟨(x ++ y).toArray⟩) w := by
  rw [run_string_add_sum w _ _ (by simpa [ByteArray.size] using h)]
  congr 2
def TxtS (w : World) (x y : Nat) (V : World) : Prop := V.cell? ⟨w.heap.size, 0, none⟩ = some (.int .i64 x) ∧ V.cell? ⟨w.heap.size, 1, none⟩ = some (.int .i64 y) ∧ Below w.heap.size w V
theorem TxtS.keep {w V V' : World} {x y : Nat} (h : TxtS w x y V) (hb : Below V.heap.size V V') : TxtS w x y V' := ⟨cell_keep hb h.1, cell_keep hb h.2.1, below_on h.2.2 hb⟩
theorem TxtS.all {w V : World} {x y : Nat} (h : TxtS w x y V) : V.cell? ⟨w.heap.size, 0, none⟩ = some (.int .i64 x) ∧ V.cell? ⟨w.heap.size, 1, none⟩ = some (.int .i64 y) ∧ TxtS w x y V := ⟨h.1, h.2.1, h⟩
end Go.Proofs.YtdpkmcbpeloljaaDoor
