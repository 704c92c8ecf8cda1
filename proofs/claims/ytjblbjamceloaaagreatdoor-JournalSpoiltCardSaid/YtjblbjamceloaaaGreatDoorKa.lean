/- A log of which one byte was turned; Open over any log. -/
import Derived.Test.YtjblbjamceloaaaGreatDoorNH
import Derived.Test.YtjblbjamceloaaaGreatDoorJv
import Derived.Test.YtjblbjamceloaaaGreatDoorNG
namespace Go.Proofs.YtjblbjamceloaaaGreatDoor
open Go.RowKit

theorem open_gen {w0 w : World} (LA : Laid w0) {g b n : Nat} {r : Int} {L : List Rl} {s : ByteArray} {p : Int} {k : Bool} (H : ChS w0 w g b r L) (hg : Log n r L s p k) (hn : n ≤ 800) (h9 : s.size < 900000) {all : List ByteArray} {a er : Nat} (hp : PRun s 0 all a er) :
    Calls Tryz.prog 10 #[.pointer (some ⟨g, 0, none⟩)] w fun e w' => (((er = 3 ∨ all = []) ∧ e = .returned (.tuple #[.pointer none, .int .i64 3])) ∨ (er ≠ 3 ∧ all ≠ [] ∧ ∃ J, e = .returned (.tuple #[.pointer (some ⟨J, 0, none⟩), .int .i64 0]))) ∧ Below w0.heap.size w0 w' := by
  obtain ⟨ec, r1, L1, hcall, hc1, hl1, hn1, hr1, -⟩ := hg.toChe.call
  have hlog1 : Log (n + 1) r1 L1 s p k := ⟨hc1, by rw [hl1]; exact hg.lk⟩
  have hlen : L.length < 900 := by have := hg.ln; omega
  have hread : (lookL bLOG.data.toList L1).isSome = true ∧ (atL bLOG.data.toList L1).s = s ∧ r1 = r1 ∧ L1 = L1 := ⟨by rw [hlog1.lk]; rfl, by rw [hlog1.at], rfl, rfl⟩
  have hle := hp.le
  have fin : ∀ r3 L3 e w', OpenR w0 w g b r3 L3 all er e w' → ((((er = 3 ∨ all = []) ∧ e = .returned (.tuple #[.pointer none, .int .i64 3])) ∨ (er ≠ 3 ∧ all ≠ [] ∧ ∃ J, e = .returned (.tuple #[.pointer (some ⟨J, 0, none⟩), .int .i64 0]))) ∧ Below w0.heap.size w0 w') := by
    rintro r3 L3 e w' (⟨h, rfl, hb⟩ | ⟨f, rs, J, v, rfl, h, rfl, hjs, -⟩)
    · exact ⟨Or.inl ⟨h, rfl⟩, hb⟩
    · exact ⟨Or.inr ⟨h, by simp, J, rfl⟩, hjs.ch.2.1⟩
  by_cases ha : a = s.size
  · exact (open_any LA H hlen hg.ok hg.ri hcall h9 (Or.inl hread) hp (r3 := r1) (L3 := L1) (ec2 := 0) (Or.inl ⟨ha, rfl, rfl⟩)).mono (fin _ _)
  · obtain ⟨L2, hcut, -⟩ := hlog1.cut a hle.2.1
    exact (open_any LA H hlen hg.ok hg.ri hcall h9 (Or.inl hread) hp (Or.inr ⟨by omega, hcut⟩)).mono (fin _ _)
theorem leavesL_split (all : List ByteArray) {i : Nat} (hi : i < all.length) : leavesL all = leavesL (all.take i) ++ (leafL all[i].data.toList ++ leavesL (all.drop (i + 1))) := by
  have h1 : all = all.take i ++ (all[i] :: all.drop (i + 1)) := by rw [List.getElem_cons_drop, List.take_append_drop]
  have h2 := congrArg leavesL h1
  rw [leavesL_append] at h2
  exact h2
theorem leavesL_next (all : List ByteArray) {i : Nat} (hi : i < all.length) : (leavesL (all.take (i + 1))).length = (leavesL (all.take i)).length + (leafB all[i]).size := by
  rw [List.take_succ_eq_append_getElem hi, leavesL_append, leavesL_one, List.length_append, ← leafB_list, ← Lib.size_eq]
/-- What stands at the length of a leaf of a log. -/
theorem log_len {s : ByteArray} {all : List ByteArray} {i : Nat} (hda : s.data.toList = leavesL all) (hi : i < all.length) (hX : all[i].size ≤ 400000) :
    (∀ j, j < (Lib.decDigits all[i].size).length → ∃ c, s.data.toList[(leavesL (all.take i)).length + 8 + j]? = some c ∧ c.toNat ≠ 58) ∧ s.data.toList[(leavesL (all.take i)).length + 8 + (Lib.decDigits all[i].size).length]? = some 58 := by
  have hl : all[i].data.toList.length ≤ 400000 := by rw [← Lib.size_eq]; exact hX
  have e1 : leafL all[i].data.toList = textL (cmark all[i].data.toList) ++ (Lib.decDigits all[i].size ++ (58 :: (all[i].data.toList ++ [44]))) := by
    rw [leafL_eq hl, wrapT_eq, ← Lib.size_eq]
  have e2 : ∀ j, j ≤ (Lib.decDigits all[i].size).length → s.data.toList[(leavesL (all.take i)).length + 8 + j]? = (Lib.decDigits all[i].size ++ (58 :: (all[i].data.toList ++ [44])))[j]? := fun j hj => by
    rw [hda, leavesL_split all hi, List.getElem?_append_right (by omega), show (leavesL (all.take i)).length + 8 + j - (leavesL (all.take i)).length = 8 + j by omega, List.getElem?_append_left (by rw [e1, List.length_append, textL_len, List.length_append, List.length_cons]; omega), e1, List.getElem?_append_right (by rw [textL_len]; omega), textL_len, Nat.add_sub_cancel_left]
  refine ⟨fun j hj => ?_, ?_⟩
  · rw [e2 j (by omega), List.getElem?_append_left hj]
    refine ⟨_, List.getElem?_eq_getElem hj, ?_⟩
    have := isD_iff.1 (List.all_eq_true.1 (decD_all all[i].size) _ (List.getElem_mem hj))
    omega
  · rw [e2 _ (Nat.le_refl _), List.getElem?_append_right (Nat.le_refl _), Nat.sub_self]; rfl
/-- A byte of a log turned, but of a length. -/
theorem log_spoilt {s U : ByteArray} {all : List ByteArray} {i m : Nat} {y : UInt8} (hda : s.data.toList = leavesL all) (hx : ∀ x ∈ all, x.size ≤ 400000) (hi : i < all.length) (hfr : (leavesL (all.take i)).length ≤ m) (hm : m < (leavesL (all.take i)).length + (leafB all[i]).size)
    (hU : U.data.toList = s.data.toList.set m y) (hms : m < s.data.toList.length) (hy : y ≠ s.data.toList[m]) (hr : m < (leavesL (all.take i)).length + 8 ∨ (leavesL (all.take i)).length + 8 + (Lib.decDigits all[i].size).length < m) :
    PRun U 0 (all.take i) (0 + (leavesL (all.take i)).length) 3 := by
  have hll : (leafB all[i]).size = (leafL all[i].data.toList).length := by rw [Lib.size_eq, leafB_list]
  have hsp := leavesL_split all hi
  have hU2 : U.data.toList.drop 0 = leavesL (all.take i) ++ ((leafL all[i].data.toList).set (m - (leavesL (all.take i)).length) y ++ leavesL (all.drop (i + 1))) := by
    rw [List.drop_zero, hU, hda, hsp, List.set_append_right _ _ hfr, List.set_append_left _ _ (by omega)]
  have hg : s.data.toList[m] = (leafL all[i].data.toList)[m - (leavesL (all.take i)).length]'(by omega) := by
    have h1 : s.data.toList[m]? = (leafL all[i].data.toList)[m - (leavesL (all.take i)).length]? := by
      rw [hda, hsp, List.getElem?_append_right hfr, List.getElem?_append_left (by omega)]
    rw [List.getElem?_eq_getElem hms, List.getElem?_eq_getElem (by omega)] at h1
    exact Option.some.inj h1
  rw [hg] at hy
  exact prun_spoilt (all.take i) U all[i] 0 _ y _ (fun x h => hx x (List.mem_of_mem_take h)) (hx _ (List.getElem_mem hi)) (by omega) hy (by omega) (Nat.zero_le _) hU2
/-- How long each leaf is. -/
def lensL (all : List ByteArray) : List Int := all.map fun x => ((leafB x).size : Int)
theorem lensL_snoc (all : List ByteArray) (x : ByteArray) : lensL (all ++ [x]) = lensL all ++ [((leafB x).size : Int)] := by simp [lensL]
theorem lensL_len (all : List ByteArray) : (lensL all).length = all.length := by simp [lensL]
theorem lensL_get (all : List ByteArray) {i : Nat} (hi : i < all.length) : (lensL all)[i]? = some ((leafB all[i]).size : Int) := by simp [lensL, hi]
theorem run_idx (s : ByteArray) (q : Nat) (c : UInt8) (h : s.data.toList[q]? = some c) (w : World) : (Instr.index 9 (.string s) (.int .i64 (q : Int))).run Tryz.prog w = .ok (.int .u8 (c.toNat : Int)) w := by
  obtain ⟨h1, h2⟩ := List.getElem?_eq_some_iff.1 h
  have hq : q < s.size := by rw [Lib.size_eq]; exact h1
  rw [run_index_string w _ _ _ _ Tryz.underlying9, dif_pos ⟨by omega, by omega⟩, ← h2]
  rfl
/-- A row of one number, made anew. -/
theorem IntRow.one (w : World) (n : Int) (ty : TypeId) : IntRow (w.alloc (.cells #[.int .i64 n] ty)) (.slice (some ⟨w.heap.size, 0, none⟩) 1 1) [n] := by
  refine Or.inr ⟨w.heap.size, 0, 1, rfl, by simp, by unfold maxLen; omega, by simp, fun j s hj => ?_, fun j hj => ?_⟩
  · have hj0 : j = 0 := by
      have := (List.getElem?_eq_some_iff.1 hj).1
      simpa using this
    subst hj0
    simp at hj
    subst hj
    simp
  · obtain rfl : j = 0 := by omega
    simp
end Go.Proofs.YtjblbjamceloaaaGreatDoor
