/- A chest of the document's: a roll put in, a roll struck. -/
import Derived.Test.YtjblbjamceloaaaGreatDoorVc
namespace Go.Proofs.YtjblbjamceloaaaGreatDoor
open Go.RowKit

set_option maxRecDepth 100000
theorem SrcRow.low {w w' : World} {ad : Option Addr} {M : List Rl} (h : SrcRow w ad M) (k : Below w.heap.size w w') : SrcRow w' ad M := h.keep (S := []) (Only.of_below k) (by simp)
/-- A row under way, in blocks made behind a world. -/
structure RSt (W cur : World) (v : Value) (M : List Rl) : Prop where
  rows : Rows4 cur v M
  lo : ∀ q ∈ ownB v, W.heap.size ≤ q
  bl : Below W.heap.size W cur
theorem Only.low {w w' : World} (k : Only [] w w') : Below w.heap.size w w' := ⟨k.1, k.2.1, k.2.2.1, k.2.2.2.1, fun i hi => k.2.2.2.2 i hi (by simp)⟩
theorem Rows4.any {w : World} {v : Value} {L : List Rl} (h : Rows4 w v L) : ∃ a m c, v = .slice a m c := by
  obtain ⟨a, c, e⟩ := h.slice
  exact ⟨a, _, c, e⟩
theorem only_far {S : List Nat} {w W w' : World} (hb : Below w.heap.size w W) (k : Only S W w') : Only S w w' := ((Only.refl S w).join (Only.of_below (S := []) hb) (fun i hi => by simp at hi)).join k (fun i hi => Or.inl hi)
theorem RSt.nil {W cur : World} (h : Below W.heap.size W cur) : RSt W cur (.slice none 0 0) [] := ⟨Rows4.nil _, by simp [ownB_nil], h⟩
theorem RSt.alloc {W cur : World} {v : Value} {M : List Rl} (h : RSt W cur v M) (o : Obj) : RSt W (cur.alloc o) v M := ⟨h.rows.low (below_alloc (Below.refl _ _) _), h.lo, below_alloc h.bl _⟩
theorem RSt.step {W cur w' : World} {v v' : Value} {M N : List Rl} (h : RSt W cur v M) (r : Rows4 w' v' (M ++ N)) (o : Only (ownB v) cur w') (q : ∀ q ∈ ownB v', q ∈ ownB v ∨ cur.heap.size ≤ q) : RSt W w' v' (M ++ N) :=
  ⟨r, fun i hi => by
    rcases q i hi with h1 | h1
    · exact h.lo i h1
    · have := h.bl.size; omega, Only.under h.bl o h.lo⟩
theorem src_built {w : World} (x : Rl) (ty : TypeId) : SrcRow (w.alloc (.cells #[.string (nmB x.1), .string x.2.s, .int .i64 x.2.p, .bool x.2.k] ty)) (some ⟨w.heap.size, 0, none⟩) [x] := by
  refine Or.inr ⟨_, rfl, fun j u hu => ?_⟩
  have hj := (List.getElem?_eq_some_iff.1 hu).1
  rw [rollsC_len] at hj
  rw [addr_pl, Nat.zero_add]
  have hj4 : j < 4 := by simpa using hj
  rcases (by omega : j = 0 ∨ j = 1 ∨ j = 2 ∨ j = 3) with rfl | rfl | rfl | rfl
  all_goals
    simp [rollsC, rollC] at hu
    subst hu
    simp
/-- A roll in a block of its own. -/
structure BoxR (w : World) (q : Nat) (n : ByteArray) (x : Scr) : Prop where
  c0 : w.cell? ⟨q, 0, none⟩ = some (.string n)
  c1 : w.cell? ⟨q, 1, none⟩ = some (.string x.s)
  c2 : w.cell? ⟨q, 2, none⟩ = some (.int .i64 x.p)
  c3 : w.cell? ⟨q, 3, none⟩ = some (.bool x.k)
theorem BoxR.low {w w' : World} {q : Nat} {n : ByteArray} {x : Scr} (h : BoxR w q n x) (k : Below w.heap.size w w') : BoxR w' q n x := ⟨cell_keep k h.c0, cell_keep k h.c1, cell_keep k h.c2, cell_keep k h.c3⟩
theorem BoxR.keep {S : List Nat} {w w' : World} {q : Nat} {n : ByteArray} {x : Scr} (h : BoxR w q n x) (k : Only S w w') (hq : q ∉ S) : BoxR w' q n x := ⟨k.cellK hq h.c0, k.cellK hq h.c1, k.cellK hq h.c2, k.cellK hq h.c3⟩
theorem BoxR.new (w : World) (n : ByteArray) (x : Scr) (ty : TypeId) : BoxR (w.alloc (.cells #[.string n, .string x.s, .int .i64 x.p, .bool x.k] ty)) w.heap.size n x ∧ ∀ i, (w.alloc (.cells #[.string n, .string x.s, .int .i64 x.p, .bool x.k] ty)).frozen? ⟨w.heap.size, i, none⟩ = false :=
  ⟨⟨by simp, by simp, by simp, by simp⟩, fun i => by simp [go_sem]⟩
theorem DocAt.store {W w3 : World} {d : Nat} {v v3 : Value} {z : Int} {L L' : List Rl} (H : DocAt W d v z L) (R : RSt W w3 v3 L') : DocAt (w3.setCell ⟨d, 1, none⟩ v3) d v3 z L' ∧ Only [d] W (w3.setCell ⟨d, 1, none⟩ v3) := by
  have hd := H.lt
  have h1 : w3.cell? ⟨d, 0, none⟩ = some (.int .i64 z) := cell_keep R.bl H.c0
  have h2 : w3.cell? ⟨d, 1, none⟩ = some v := cell_keep R.bl H.c1
  have h3 : w3.frozen? ⟨d, 1, none⟩ = false := by rw [R.bl.frozen (p := ⟨d, 1, none⟩) hd]; exact H.f1
  have hn : d ∉ ownB v3 := fun h => by have := R.lo d h; omega
  refine ⟨⟨?_, ?_, ?_, ?_, hn⟩, ?_⟩
  · rw [World.cell?_setCell_other _ _ _ _ (by simp)]; exact h1
  · exact World.cell?_setCell_same _ _ _ h2
  · rw [World.frozen?_setCell]; exact h3
  · exact R.rows.keep (S := [d]) ((Only.refl _ _).setCell (Or.inl (by simp)) _) (fun q hq hm => by simp at hm; subst hm; exact hn hq)
  · exact ((Only.refl [d] W).join (Only.of_below (S := []) R.bl) (fun i hi => by simp at hi)).setCell (Or.inl (by simp)) _
end Go.Proofs.YtjblbjamceloaaaGreatDoor
