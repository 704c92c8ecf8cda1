/- Rows of texts: the front of one, a copy of one, at the operation. -/
import Derived.Test.YtjblbjamceloaaaGreatDoorNH
import Derived.Test.YtjblbjamceloaaaGreatDoorJs
import Derived.Deep.Upon
namespace Go.Proofs.YtjblbjamceloaaaGreatDoor
open Go.RowKit

set_option maxRecDepth 100000
theorem midrow_of_owns {w : World} {base n : Nat} {v : Value} {ss : List ByteArray} (h : w.ownsRow base 9 1 v n (ss.map .string)) : MidRow w v ss ∧ ∀ q ∈ ownL v, base ≤ q := by
  have hn : n = ss.length := by have := h.1; simpa using this.symm
  subst hn
  rcases h.2 with ⟨hv, h0⟩ | ⟨g, cap, cur, rfl, hbg, hblk, hn, hm, hcs, htk⟩
  · have : ss = [] := List.length_eq_zero_iff.1 h0
    subst this hv
    exact ⟨Or.inl ⟨rfl, rfl⟩, by simp [ownL_nil]⟩
  · refine ⟨Or.inr ⟨g, 0, cap, rfl, hn, hm, (Array.getElem?_eq_some_iff.1 hblk).1, fun j u hj => ?_, fun j hj => ?_⟩, fun q hq => ?_⟩
    · have hlt : j < ss.length := (List.getElem?_eq_some_iff.1 hj).1
      rw [Nat.zero_add, cell_of_row _ _ _ _ _ _ hblk]
      have e1 : (ss.map Value.string)[j]? = some (.string u) := by rw [List.getElem?_map, hj]; rfl
      rw [← htk, List.getElem?_take, if_pos (by omega)] at e1
      simpa using e1
    · have hlt : j < cur.size := by omega
      refine ⟨?_, ?_⟩
      · rw [Nat.zero_add, cell_of_row _ _ _ _ _ _ hblk]; simp [hlt]
      · simp [World.frozen?, hblk]
    · rw [ownL_some] at hq; simp at hq; omega
/-- 'append([]string(nil), row...)'. -/
theorem copy_row {w : World} {a : Option Addr} {c : Nat} {ss : List ByteArray} (h : RowAt w a (ss.map .string)) (ha : a = none → ss = []) (hl : ss.length < 1000000) (ty : TypeId) :
    ∃ v' w', (Builtin.append_ #[30, 30] ty #[.slice none 0 0, .slice a ss.length c]).run Tryz.prog w = .ok v' w' ∧ MidRow w' v' ss ∧ Below w.heap.size w w' ∧ ∀ q ∈ ownL v', w.heap.size ≤ q := by
  obtain ⟨i, hi, hz, hsz, hby⟩ := infoStr'
  rcases a with _ | a
  · obtain rfl := ha rfl
    refine ⟨.slice none 0 0, w, ?_, Or.inl ⟨rfl, rfl⟩, Below.refl _ _, by simp [ownL_nil]⟩
    exact run_append_nothing w _ _ ty _ i Tryz.underlying30 hi none 0 0 (Nat.le_refl _) _ (Src.ofNil w Tryz.underlying30 c)
  · have hnews : ∀ j u, (ss.map Value.string)[j]? = some u → w.cell? (a.add j) = some u := by
      rcases h with h | ⟨q, o, e, hq, hc⟩
      · intro j u hu
        have : ss = [] := by simpa using h
        subst this
        simp at hu
      · cases e
        intro j u hu
        rw [addr_add]; exact hc j u hu
    obtain ⟨v', w', hr, hown, hg, -⟩ := run_append_own (P := Tryz.prog) w w.heap.size 30 ty 9 i (.string ⟨#[]⟩) 1 16 Tryz.underlying30 hi hz hsz hby rfl (by decide) _ 0 [] (World.ownsRow_nil w _ _ _) a ss.length c (ss.map .string) (by simp) hnews (by simp [Value.oneCell']) (by unfold maxLen; omega) (by omega) (Nat.le_refl _)
    rw [List.nil_append] at hown
    obtain ⟨h1, h2⟩ := midrow_of_owns hown
    exact ⟨v', w', hr, h1, ⟨hg.os, hg.tape, hg.output, hg.size, fun k hk => hg.block k hk (by simp [Value.ownBlock])⟩, h2⟩
/-- 'row[:n]'. -/
theorem run_front {w : World} {a : Option Addr} {c : Nat} {ss : List ByteArray} (h : MidRow w (.slice a ss.length c) ss) {n : Nat} (hn : n ≤ ss.length) (w' : World) :
    (Instr.slice 30 (.slice a ss.length c) none (some (.int .i64 (n : Int))) none).run Tryz.prog w' = .ok (.slice a n c) w' := by
  rcases h with ⟨e, rfl⟩ | ⟨q, o, cap, e, h1, -⟩
  · simp only [Value.slice.injEq] at e
    obtain ⟨rfl, -, rfl⟩ := e
    obtain rfl : n = 0 := by simpa using hn
    obtain ⟨i, hi, -, hsz, -⟩ := infoStr'
    have e1 : Tryz.prog.elem 30 = 9 := by kernel_rfl
    have e2 : (sizeOf (Tryz.prog.elem 30)).run Tryz.prog w' = .ok 1 w' := by rw [e1]; simp [sizeOf, typeInfo, hi, hsz]
    rw [run_slice_h w' _ _ _ _ Tryz.underlying30 _ _ (by omega) (by simp), e2]
    simp [Result.andThen, sliced]
  · simp only [Value.slice.injEq] at e
    obtain ⟨rfl, -, rfl⟩ := e
    obtain ⟨i, hi, -, hsz, -⟩ := infoStr'
    have e1 : Tryz.prog.elem 30 = 9 := by kernel_rfl
    have e2 : (sizeOf (Tryz.prog.elem 30)).run Tryz.prog w' = .ok 1 w' := by rw [e1]; simp [sizeOf, typeInfo, hi, hsz]
    rw [run_slice_h w' _ _ _ _ Tryz.underlying30 _ _ (by omega) (by omega), e2]
    simp only [Result.andThen, sliced]
    simp [Addr.add]
theorem MidRow.anil {w : World} {a : Option Addr} {c : Nat} {ss : List ByteArray} (h : MidRow w (.slice a ss.length c) ss) (ha : a = none) : ss = [] := by
  rcases h with ⟨_, h⟩ | ⟨q, o, cap, e, _⟩
  · exact h
  · subst ha; simp at e
theorem records_at {w : World} {J g : Nat} {v : Value} {first : ByteArray} {recs : List ByteArray} {down : Bool} (h : JAt w J g v first recs down) {n : Nat} (hn : recs.length = n) (hl : n < 1000000) :
    Calls Tryz.prog 16 #[.pointer (some ⟨J, 0, none⟩)] w fun e w' => ∃ a c, e = .returned (.slice a n c) ∧ RowAt w' a (recs.map .string) ∧ Below w.heap.size w w' := by
  subst hn; exact records_any h hl
theorem eq_at {w : World} {a b : Option Addr} {c d : Nat} {ss : List ByteArray} (ha : RowAt w a (ss.map .string)) (hb : RowAt w b (ss.map .string)) {n : Nat} (hn : ss.length = n) (hl : n < 1000000) :
    Calls Tryz.prog 18 #[.slice a n c, .slice b n d] w fun e w' => e = .returned (.bool true) ∧ Below w.heap.size w w' := by
  subst hn; exact eq_same ha hb hl
end Go.Proofs.YtjblbjamceloaaaGreatDoor
