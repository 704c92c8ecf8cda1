/- Walks of the document's DropNode. -/
import Derived.Test.YtehplflhaegkbaaGreatDoorRoF
namespace Go.Proofs.YtehplflhaegkbaaGreatDoor
open Go.RowKit

theorem oneCell_ints' {l : List Value} (h : ∀ u ∈ l, ∃ x, u = .int .i64 x) : ∀ u ∈ l, u.oneCell' = true := fun u hu => by
  obtain ⟨x, rfl⟩ := h u hu; rfl
theorem IntsAt.setFar {w : World} {a : Option Addr} {zs : List Int} {m c H : Nat} (h : IntsAt w a zs) (hf : Far (.slice a m c) H) (i : Nat) (v : Value) : IntsAt (w.setCell ⟨H, i, none⟩ v) a zs := by
  cases a with
  | none => rcases h with h | ⟨b, off, e, _⟩
            · exact Or.inl h
            · cases e
  | some a =>
    rcases h with h | ⟨b, off, e, hs, hc⟩
    · exact Or.inl h
    · cases e
      exact IntsAt.set (Or.inr ⟨b, off, rfl, hs, hc⟩) (fun e => hf (by simpa [Value.ownBlock] using e)) v
theorem IntsAt.takeR {w : World} {b off : Nat} {zs : List Int} (h : IntsAt w (some ⟨b, off, none⟩) zs) (k : Nat) : RowAt w (some ⟨b, off, none⟩) ((zs.take k).map (.int .i64)) := by
  rcases h with rfl | ⟨b', o', e, hs, hc⟩
  · exact Or.inl (by simp)
  · cases e
    refine Or.inr ⟨b, off, rfl, hs, fun j u hu => ?_⟩
    have hj : j < (zs.take k).length := by have := (List.getElem?_eq_some_iff.1 hu).1; simpa using this
    have hjz : j < zs.length := by simp at hj; omega
    rw [hc j hjz, ← hu, List.getElem?_map, List.getElem?_take, if_pos (by simp at hj; omega), ← List.getElem?_map, map_getElem?_int zs j hjz]
theorem IntsAt.dropR {w : World} {b off : Nat} {zs : List Int} (h : IntsAt w (some ⟨b, off, none⟩) zs) (k : Nat) : RowAt w (some ⟨b, off + k, none⟩) ((zs.drop k).map (.int .i64)) := by
  rcases h with rfl | ⟨b', o', e, hs, hc⟩
  · exact Or.inl (by simp)
  · cases e
    refine Or.inr ⟨b, off + k, rfl, hs, fun j u hu => ?_⟩
    have hj : j < (zs.drop k).length := by have := (List.getElem?_eq_some_iff.1 hu).1; simpa using this
    have hjz : k + j < zs.length := by simp at hj; omega
    rw [show off + k + j = off + (k + j) from by omega, hc (k + j) hjz, ← hu, List.getElem?_map, List.getElem?_drop, ← List.getElem?_map, map_getElem?_int zs (k + j) hjz]

end Go.Proofs.YtehplflhaegkbaaGreatDoor
