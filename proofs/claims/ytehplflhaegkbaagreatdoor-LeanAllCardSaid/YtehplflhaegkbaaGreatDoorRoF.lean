/- Walks of the document's AddNode, DropNode, Side. -/
import Derived.Test.YtehplflhaegkbaaGreatDoorRoE
namespace Go.Proofs.YtehplflhaegkbaaGreatDoor
open Go.RowKit

/-- What AddNode's and DropNode's great statements leave. -/
def MadeC (w : World) (e e' nw nw' : Int) (sl : Value) (zs : List Int) (H : Nat) (a : Option Addr) (m c : Nat) (wx : World) : Prop :=
  RosS w (.int .i64 e) sl (.int .i64 nw) wx ∧ wx.cell? ⟨H, 0, none⟩ = some (.int .i64 e') ∧ wx.cell? ⟨H, 1, none⟩ = some (.slice a m c) ∧ wx.cell? ⟨H, 2, none⟩ = some (.int .i64 nw') ∧
  wx.frozen? ⟨H, 2, none⟩ = false ∧ w.heap.size + 2 ≤ H ∧ Far (.slice a m c) H ∧ m = zs.length ∧ wx.ownsRow (w.heap.size + 2) 3 1 (.slice a m c) m (zs.map (.int .i64))

theorem mayRoster_any' (e nw : Int) (a : Option Addr) (m c : Nat) (zs : List Int) (w : World) (hl : zs.length ≤ 9223372036854775807) (hz : IntsAt w a zs) (h : zs.length = m) :
    Calls Tryz.prog 6 #[.agg #[.int .i64 e, .slice a m c, .int .i64 nw]] w fun e' w' => e' = .returned (.bool (mayB e zs nw)) ∧ Below w.heap.size w w' := by
  subst h; exact mayRoster_any e nw a c zs w hl hz
end Go.Proofs.YtehplflhaegkbaaGreatDoor
