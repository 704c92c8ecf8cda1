/- Walk of roll's Names: the keys of its map, sorted. Names as a step. -/
import Derived.Test.YtjblbjamceloaaaGreatDoorN4
import Derived.Test.YtjblbjamceloaaaGreatDoorIt
import Derived.Test.YtjblbjamceloaaaGreatDoorN7
namespace Go.Proofs.YtjblbjamceloaaaGreatDoor
open Go.RowKit Go.Maps Go.Sort Go.Shelf

/-- slices.Sort's two contracts at this dump, at the fence that asks nothing. -/
theorem itSorts (m : Nat) : AnyZ.SortsIn Tryz.prog Tryz.itsorted_ren Fence.wide m :=
  ⟨fun blk off cap ss W hH hblk hsz => callsIn_wide.2 (AnyM.slices_Sort_string Tryz.itsort blk off cap ss W hH hblk hsz),
   fun p cap W => callsIn_wide.2 (AnyM.slices_Sort_string_none Tryz.itsort p cap W)⟩
theorem itKeys (mb : Option Nat) (W : World) : CallsIn Fence.wide 5 Tryz.prog 68 #[.map mb] W fun e w' => e = .returned (.func (.func 84) #[] #[.pointer (some ⟨W.heap.size, 0, none⟩)]) ∧ w' = W.alloc (.cells #[.map mb] 62) :=
  AnyZ.keys_in Tryz.itkeys Fence.wide 5 trivial rfl mb W
set_option maxHeartbeats 1000000 in
theorem itSorted {H : Type} (b nn : Nat) (D0 : DataW H) (R : Value → Option (DataW H × List MemPlace)) (w : World) (hown : w.ownsMap Tryz.prog 9 R b nn D0) (hmax : Maps.size D0 ≤ maxLen) (hbytes : Maps.size D0 * 16 ≤ 140737488355328) :
    CallsIn Fence.wide 5 Tryz.prog 67 #[.func (.func 84) #[] #[.pointer (some ⟨w.heap.size, 0, none⟩)]] (w.alloc (.cells #[.map (some b)] 62)) fun e w' => ∃ (v : Value) (ss : List (List UInt8)), e = .returned v ∧ ss.Perm (strKeys D0) ∧
      w'.ownsRow (w.alloc (.cells #[.map (some b)] 62)).heap.size 9 1 v ss.length ((ss.mergeSort (fun x y => decide (x ≤ y))).map encStr) ∧ (v = .slice none 0 0 ↔ ss = []) ∧ Below (w.alloc (.cells #[.map (some b)] 62)).heap.size (w.alloc (.cells #[.map (some b)] 62)) w' := by
  have hbl := hown.lt
  have hseq : SeqGives Fence.wide 2 Tryz.prog 84 #[.pointer (some ⟨w.heap.size, 0, none⟩)] encStr (fun ss => ss.Perm (strKeys D0)) (Maps.size D0) (w.alloc (.cells #[.map (some b)] 62)) :=
    AnyZ.keys_gives (ρ := Tryz.itkeys_ren) { Tryz.itkeys with } Fence.wide _ trivial rfl (by omega) w.heap.size b nn D0 _ (by simp) (by simp) (by
      obtain ⟨es, clock, hb, Ft, hs, hD⟩ := hown
      exact ⟨es, clock, (Below.heap_alloc _ _ b hbl).trans hb, Ft, hs, hD⟩)
  exact AnyZ.sorted_in Tryz.itsorted Fence.wide 5 trivial trivial trivial trivial rfl (by omega) (itSorts _) (enters_of Tryz.func83 (by kernel_rfl) rfl) 84 #[.pointer (some ⟨w.heap.size, 0, none⟩)] trivial (enters_of Tryz.func84 (by kernel_rfl) rfl) _ _ hmax hbytes _ hseq
/-- The names, by rising ones. -/
def NamesR (w : World) (L : List Rl) (e : Ending) (w' : World) : Prop := ∃ v, e = .returned v ∧ w'.ownsRow w.heap.size 9 1 v L.length ((L.map Prod.fst).map encStr) ∧ Below w.heap.size w w'
theorem sorted_names {w : World} {b : Nat} {L : List Rl} (hM : MapAt w b L) (hL : L.length < 1000000) :
    Calls Tryz.prog 67 #[.func (.func 84) #[] #[.pointer (some ⟨w.heap.size, 0, none⟩)]] (w.alloc (.cells #[.map (some b)] 62)) (NamesR w L) := by
  obtain ⟨D, ho, hR⟩ := hM
  have hsz := hR.size ho keyStr Tryz.underlying9
  have h := callsIn_wide.1 (itSorted b L.length D scrR w ho (by rw [hsz]; unfold maxLen; omega) (by rw [hsz]; omega))
  refine h.mono ?_
  rintro e w' ⟨v, ss, rfl, hp, hrow, hnil, hb⟩
  have hp2 := hp.trans (hR.keys ho keyStr Tryz.underlying9).symm
  rw [sort_rising (names_rising hR.1) hp2] at hrow
  have hl : ss.length = L.length := by simpa using hp2.length_eq
  rw [hl] at hrow
  have hrow2 := ownsRow_base_a (base' := w.heap.size) hrow (by simp)
  exact ⟨v, rfl, hrow2, (below_alloc (Below.refl _ _) _).trans (hb.mono (by simp))⟩
set_option maxRecDepth 100000 in
theorem names_any {w : World} {g b : Nat} {r : Int} {L : List Rl} (hC : ChestAt w g b r L) (hL : L.length < 1000000) :
    Calls Tryz.prog 50 #[.pointer (some ⟨g, 0, none⟩)] w (NamesR w L) := by
  have HK := Lib.hid (callsIn_wide.1 (itKeys (some b) w))
  have HS := Lib.hid (sorted_names hC.map hL)
  have c1 := hC.2.1
  clear hC
  go_enter Tryz.func50, Tryz.ntmps50
  go_wp2_with (first | (go_at_call 68; refine HK.out.mono ?_; rintro e' w' ⟨rfl, rfl⟩) | (go_at_call 67; refine HS.out.mono ?_; rintro e' w1 ⟨v, rfl, h1, h2⟩; have H1 := Lib.hid h1; have H2 := Lib.hid h2; clear h1 h2))
  go_ret
  exact ⟨_, rfl, H1.out, H2.out⟩
set_option maxRecDepth 100000 in
theorem names_nil (w : World) : Calls Tryz.prog 50 #[.pointer none] w fun e w' => e = .returned (.slice none 0 0) ∧ Below w.heap.size w w' := by
  go_enter Tryz.func50, Tryz.ntmps50
  go_wp2_with fail
  go_ret
  exact ⟨rfl, Below.refl _ _⟩
set_option maxRecDepth 100000 in
theorem tear_nil (k : Int) (w : World) : Calls Tryz.prog 15 #[.pointer none, .int .i64 k] w fun e w' => e = .returned (.pointer none) ∧ Below w.heap.size w w' := by
  go_enter Tryz.func15, Tryz.ntmps15
  go_wp2_with fail
  go_ret
  exact ⟨rfl, Below.refl _ _⟩
end Go.Proofs.YtjblbjamceloaaaGreatDoor
namespace Go.Proofs.YtjblbjamceloaaaGreatDoor
open Go.RowKit

theorem names_S {w0 w : World} {g b : Nat} {r : Int} {L : List Rl} (H : ChS w0 w g b r L) (hL : L.length < 1000000) :
    Calls Tryz.prog 50 #[.pointer (some ⟨g, 0, none⟩)] w fun e w' => ∃ a c, e = .returned (.slice a L.length c) ∧ RowAt w' a ((L.map Prod.fst).map encStr) ∧ Below w.heap.size w w' := by
  refine (names_any H.1 hL).mono ?_
  rintro e w' ⟨v, rfl, hrow, hb⟩
  obtain ⟨a, c, e, h1⟩ := ownsRow_row hrow
  subst e
  exact ⟨a, c, rfl, h1, hb⟩
end Go.Proofs.YtjblbjamceloaaaGreatDoor
