/- JournalNone: the walk. -/
import Derived.Test.YtcfimmemnmmiiaaDoorNF
namespace Go.Proofs.YtcfimmemnmmiiaaDoor
open Go.RowKit

theorem leaf_long : leafB (zeroB 400001) = ⟨#[]⟩ := by
  unfold leafB leafL
  rw [if_pos (by rw [zeroB_list, List.length_replicate]; decide)]
set_option maxRecDepth 100000 in
set_option maxHeartbeats 6400000 in
theorem journalNone_walk (w : World) (L : Laid w) : Calls Tryd.prog 6 #[] w fun e w' => e = .returned (.bool true) ∧ Below w.heap.size w w' := by
  have HL := Lib.hid L
  have hmk := fun w : World => run_mks w 400001 (by decide) 400001 rfl
  have hbk := fun w : World => run_back0 w 400001
  have HZ := Lib.hid (zeroB_size 400001)
  have HLg := Lib.hid leaf_long
  clear L
  go_enter Tryd.func6, Tryd.ntmps6
  go_wp2_with fail
  refine (begun4_any w HL.out).mono ?_
  rintro e w1 ⟨rfl, hb⟩
  have HB := Lib.hid hb
  clear hb
  go_wp2_with fail
  refine (first_nil w1).mono ?_
  rintro e w2 ⟨rfl, hb⟩
  replace HB := Lib.hid (below_on HB.out hb)
  clear hb
  go_wp2_with fail
  refine (records_nil w2).mono ?_
  rintro e w3 ⟨rfl, hb⟩
  replace HB := Lib.hid (below_on HB.out hb)
  clear hb
  go_wp2_with fail
  refine (jadd_nil _ _ w3).mono ?_
  rintro e w4 ⟨rfl, hb⟩
  replace HB := Lib.hid (below_on HB.out hb)
  clear hb
  go_wp2_with fail
  refine (jpress_nil w4).mono ?_
  rintro e w5 ⟨rfl, hb⟩
  replace HB := Lib.hid (below_on HB.out hb)
  clear hb
  go_wp2_with fail
  refine (jlay_nil _ w5).mono ?_
  rintro e w6 ⟨rfl, hb⟩
  replace HB := Lib.hid (below_on HB.out hb)
  clear hb
  go_wp2_with fail
  refine (long_nil w6).mono ?_
  rintro e w7 ⟨rfl, hb⟩
  replace HB := Lib.hid (below_on HB.out hb)
  clear hb
  generalize zeroB 400001 = Z at hbk HZ HLg
  go_wp2_with fail
  replace HB := Lib.hid (below_on HB.out (mkw_below w7 400001))
  generalize mkw w7 400001 = W at HB ⊢
  refine (leaf_any Z W (HL.out.keep HB.out) (by rw [HZ.out]; decide)).mono ?_
  rw [HLg.out]
  rintro e w8 ⟨rfl, hb⟩
  replace HB := Lib.hid (below_on HB.out hb)
  clear hb
  go_wp2_with fail
  go_ret
  exact ⟨rfl, HB.out⟩
end Go.Proofs.YtcfimmemnmmiiaaDoor
