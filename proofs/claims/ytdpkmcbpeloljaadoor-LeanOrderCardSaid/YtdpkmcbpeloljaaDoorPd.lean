/- Walks of a Builder's copyCheck, WriteString. -/
import Derived.Test.YtdpkmcbpeloljaaDoorPc
import Derived.Test.YtdpkmcbpeloljaaDoorShelf
import Derived.Lib.AppendStr
namespace Go.Proofs.YtdpkmcbpeloljaaDoor
open Go.RowKit

theorem Tryd.sizeBuilder : (Tryd.prog.info? 88).map (fun i => i.size) = some 2 := by kernel_rfl
set_option maxRecDepth 100000 in
set_option maxHeartbeats 1000000 in
theorem copyCheck_used (b : Nat) (w : World) (h0 : w.cell? ⟨b, 0, none⟩ = some (.pointer (some ⟨b, 0, none⟩))) :
    Calls Tryd.prog 73 #[.pointer (some ⟨b, 0, none⟩)] w fun e w' => e = .returned (.tuple #[]) ∧ w = w' := by
  obtain ⟨j, hj, _⟩ := Option.map_eq_some_iff.1 Tryd.sizeBuilder
  have kn : ∀ w, (binOp .neq 86 (.pointer (some ⟨b, 0, none⟩)) (.pointer (some ⟨b, 0, none⟩))).run Tryd.prog w = .ok (.bool false) w := fun w => Lib.run_neq_ptr_same w _ Tryd.underlying86 hj
  go_enter Tryd.func73, Tryd.ntmps73
  go_wp2_with fail
  go_end0
  exact ⟨rfl, rfl⟩
set_option maxRecDepth 100000 in
set_option maxHeartbeats 1000000 in
theorem copyCheck_fresh (b : Nat) (w : World) (h0 : w.cell? ⟨b, 0, none⟩ = some (.pointer none)) (hsh : w.shape? b = some (88, 2)) (hfz : w.frozen? ⟨b, 0, none⟩ = false) :
    Calls Tryd.prog 73 #[.pointer (some ⟨b, 0, none⟩)] w fun e w' => e = .returned (.tuple #[]) ∧ w' = w.setCell ⟨b, 0, none⟩ (.pointer (some ⟨b, 0, none⟩)) := by
  obtain ⟨j, hj, hjs⟩ := Option.map_eq_some_iff.1 Tryd.sizeBuilder
  have k1 : (convert 86 112 (.pointer (some ⟨b, 0, none⟩))).run Tryd.prog w = .ok (.pointer (some ⟨b, 0, none⟩)) w := Lib.run_to_unsafe w ⟨b, 0, none⟩ Tryd.underlying86 Tryd.underlying112 hj (by rw [hjs]; decide) hsh (Nat.zero_lt_succ 1)
  have k2 : ∀ w, (callFunc 85 #[.pointer (some ⟨b, 0, none⟩)]).run Tryd.prog w = .ok (.value (.pointer (some ⟨b, 0, none⟩))) w := fun w => by
    rw [run_callFunc_extern Tryd.func85 (by kernel_rfl) (by kernel_rfl) (by kernel_rfl) (e := Extern.AbiNoEscape.same) (by kernel_rfl), Lib.run_noEscape]; rfl
  have k3 : (convert 112 86 (.pointer (some ⟨b, 0, none⟩))).run Tryd.prog w = .ok (.pointer (some ⟨b, 0, none⟩)) w := Lib.run_from_unsafe w ⟨b, 0, none⟩ Tryd.underlying112 Tryd.underlying86 hj hsh (by kernel_rfl)
  clear hj hjs
  have kn : ∀ w, (binOp .neq 86 (.pointer (some ⟨b, 0, none⟩)) (.pointer (some ⟨b, 0, none⟩))).run Tryd.prog w = .ok (.bool false) w := fun w => by
    obtain ⟨j, hj, _⟩ := Option.map_eq_some_iff.1 Tryd.sizeBuilder
    exact Lib.run_neq_ptr_same w _ Tryd.underlying86 hj
  go_enter Tryd.func73, Tryd.ntmps73
  go_wp2_with fail
  go_end0
  exact ⟨rfl, rfl⟩
/-- A Builder in block b, of the call's own from B on, that holds these bytes. -/
def IsBl (B b : Nat) (l : List UInt8) (w : World) : Prop := Lib.IsBuilder 88 5 B b (Lib.byteCells l) w
theorem builderAt_keep {T e : TypeId} {B b : Nat} {p : Value} {bs : List Value} {w w' : World} (h : Lib.BuilderAt T e B b p bs w) (hb : Below w.heap.size w w') : Lib.BuilderAt T e B b p bs w' := by
  obtain ⟨h1, v, h2, h3, h4⟩ := h
  refine ⟨h1, v, ?_, ownsRow_below h3 hb, h4⟩
  rw [hb.block b (Array.getElem?_eq_some_iff.1 h2).1]; exact h2
theorem IsBl.keep {B b : Nat} {l : List UInt8} {w w' : World} (h : IsBl B b l w) (hb : Below w.heap.size w w') : IsBl B b l w' := by
  rcases h with h | h
  · exact Or.inl (builderAt_keep h hb)
  · exact Or.inr (builderAt_keep h hb)
theorem copyCheck_bl (B b : Nat) (l : List UInt8) (w : World) (h : IsBl B b l w) :
    Calls Tryd.prog 73 #[.pointer (some ⟨b, 0, none⟩)] w fun e w' => e = .returned (.tuple #[]) ∧ Lib.BuilderAt 88 5 B b (.pointer (some ⟨b, 0, none⟩)) (Lib.byteCells l) w' ∧ Below B w w' := by
  rcases h with h | h
  · refine (copyCheck_fresh b w h.cell0 h.shape h.frozen0).mono ?_
    rintro e w' ⟨rfl, rfl⟩
    exact ⟨rfl, h.used _, (Below.refl B w).setCell (p := ⟨b, 0, none⟩) h.1 _⟩
  · refine (copyCheck_used b w h.cell0).mono ?_
    rintro e w' ⟨rfl, rfl⟩
    exact ⟨rfl, h, Below.refl _ _⟩
set_option maxRecDepth 100000 in
set_option maxHeartbeats 1000000 in
theorem writeString_bl (B b : Nat) (l : List UInt8) (s : ByteArray) (w : World) (h : IsBl B b l w) (hlen : l.length + s.size ≤ 140737488355328) (hBw : B ≤ w.heap.size) :
    Calls Tryd.prog 63 #[.pointer (some ⟨b, 0, none⟩), .string s] w fun e w' => e = .returned (.tuple #[.int .i64 s.size, .nilIface]) ∧ IsBl B b (l ++ s.data.toList) w' ∧ Below B w w' := by
  obtain ⟨i0, hi, hz0, hz1, hz2⟩ := info_parts Tryd.infoU8
  have HI := Lib.hid hi
  have HZ := Lib.hid (And.intro hz0 (And.intro hz1 hz2))
  clear hi hz0 hz1 hz2
  have hs63 : (s.size : Int) ≤ 9223372036854775807 := by omega
  go_enter Tryd.func63, Tryd.ntmps63
  go_wp2_with (go_at_call 73; refine (copyCheck_bl B b l _ h).mono ?_)
  rintro e w1 ⟨rfl, h1, hb1⟩
  have hs1 := hb1.size
  have HB1 := Lib.hid hb1
  have H1 := Lib.hid h1
  obtain ⟨hB, v, hbk, hown, hne⟩ := h1
  have hll : (Lib.byteCells l).length = l.length := by simp [Lib.byteCells]
  rw [hll] at hown
  have HO := Lib.hid hown
  have HN := Lib.hid hne
  have HK := Lib.hid hbk
  have c1 : w1.cell? ⟨b, 1, none⟩ = some v := by rw [Lib.cell_of_heap hbk]; rfl
  clear hown hne hbk hb1 hll
  go_wp2_with (at_builtin; refine Lib.wpList_append_own_string _ rfl _ _ 42 9 rfl B 5 i0 Tryd.underlying42 Tryd.underlying9 HI.out HZ.out.1 HZ.out.2.1 HZ.out.2.2 _ _ _ rfl HO.out s rfl ?c3 ?c4 ?c5 ?_)
  case c3 => unfold maxLen; omega
  case c4 => omega
  case c5 => omega
  intro v' w2 hown' hgrow _
  have hlt : b < w1.heap.size := (Array.getElem?_eq_some_iff.1 HK.out).1
  have hb2 : w2.heap[b]? = some (.cells #[.pointer (some ⟨b, 0, none⟩), v] 88 (0, 0)) := by
    rw [hgrow.block b hlt (fun e => HN.out e.symm)]; exact HK.out
  have d1 : w2.cell? ⟨b, 1, none⟩ = some v := by rw [Lib.cell_of_heap hb2]; rfl
  have f1 : w2.frozen? ⟨b, 1, none⟩ = false := Lib.frozen_of_heap hb2 1
  obtain ⟨a', c', rfl, _⟩ := ownsRow_row hown'
  have HB2 := Lib.hid (below_of_grown HO.out (show B ≤ w1.heap.size by omega) hgrow)
  have HO' := Lib.hid hown'
  have HK2 := Lib.hid hb2
  clear hgrow hown' hb2
  go_wp2_with fail
  go_ret2
  refine ⟨rfl, Or.inr ?_, (HB1.out.trans HB2.out).setCell (p := ⟨b, 1, none⟩) hB _⟩
  have e : Lib.byteCells (l ++ s.data.toList) = Lib.byteCells l ++ Lib.strCells s := by unfold Lib.byteCells Lib.strCells; rw [List.map_append]
  rw [e]
  refine Lib.BuilderAt.put hB HK2.out ?_ (by decide)
  have el : (Lib.byteCells l ++ Lib.strCells s).length = l.length + s.size := by simp [Lib.byteCells, Lib.strCells]
  rw [el]; exact HO'.out
theorem string_bl (B b : Nat) (l : List UInt8) (w : World) (h : IsBl B b l w) (hBw : B ≤ w.heap.size) :
    Calls Tryd.prog 64 #[.pointer (some ⟨b, 0, none⟩)] w fun e w' => e = .returned (.string ⟨l.toArray⟩) ∧ Below B w w' := Tryd.Builder_String_any B b l w h hBw
end Go.Proofs.YtdpkmcbpeloljaaDoor
