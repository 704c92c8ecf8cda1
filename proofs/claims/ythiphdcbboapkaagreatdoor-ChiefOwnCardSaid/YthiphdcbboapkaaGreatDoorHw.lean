/- ChiefOwn: the walk. -/
import Derived.Test.YthiphdcbboapkaaGreatDoorH6
namespace Go.Proofs.YthiphdcbboapkaaGreatDoor
open Go.RowKit Go.Maps

set_option maxRecDepth 100000
/-- A row of one's own may be written. -/
theorem own_open {W : World} {base : Nat} {a : Option Addr} {n c : Nat} {zs : List Int} (h : OwnI W base (.slice a n c) zs) (hn : n = zs.length) (hl : 0 < zs.length) :
    ∃ g, a = some ⟨g, 0, none⟩ ∧ base ≤ g ∧ g < W.heap.size ∧ (∀ k, k < zs.length → W.cell? ⟨g, k, none⟩ = some (.int .i64 (nthI zs k))) ∧ ∀ k, k < zs.length → W.frozen? ⟨g, k, none⟩ = false := by
  subst hn
  have hi := own_ints h
  obtain ⟨_, h2⟩ := h
  rcases h2 with ⟨_, h3⟩ | ⟨g, cap, cur, h3, h4, h5, h6, h7, h8, h9⟩
  · omega
  · have hg : g < W.heap.size := (Array.getElem?_eq_some_iff.1 h5).1
    simp only [Value.slice.injEq] at h3
    obtain ⟨rfl, -, -⟩ := h3
    obtain ⟨b, off, e, -, hc⟩ := hi.form hl
    simp only [Option.some.injEq, Addr.mk.injEq, and_true] at e
    obtain ⟨rfl, rfl⟩ := e
    refine ⟨g, rfl, h4, hg, fun k hk => by have := hc k hk; rwa [Nat.zero_add] at this, fun k hk => ?_⟩
    unfold World.frozen?
    simp only [h5]
    simp
set_option maxHeartbeats 12800000 in
theorem chiefOwn_walk (w : World) (LA : Laid w) : Calls Tryz.prog 10 #[] w fun e w' => e = .returned (.bool true) ∧ Below w.heap.size w w' := by
  have HL := Lib.hid LA
  clear LA
  go_enter Tryz.func10, Tryz.ntmps10
  go_wp2_with fail
  refine (begun10_any _ HL.out).mono ?_
  rintro e w0 ⟨rfl, hb0⟩
  have HB0 := Lib.hid hb0
  clear hb0
  go_upto_region 5 with fail
  have hb1 := below_alloc (below_alloc (Below.refl w0.heap.size w0) (.cells #[.int .i64 1, .int .i64 2, .int .i64 3] 3)) (.cells #[.int .i64 2, .slice (some ⟨w0.heap.size, 0, none⟩) 3 3, .int .i64 0] 24)
  have HX := Lib.hid (B3.new (w0.alloc (.cells #[.int .i64 1, .int .i64 2, .int .i64 3] 3)) (.int .i64 2) (.slice (some ⟨w0.heap.size, 0, none⟩) 3 3) (.int .i64 0) 24)
  have hz0 : IntsAt (w0.alloc (.cells #[.int .i64 1, .int .i64 2, .int .i64 3] 3)) (some ⟨w0.heap.size, 0, none⟩) [1, 2, 3] := ints_litW w0 [1, 2, 3] 3
  have HZ := Lib.hid (hz0.keep (below_alloc (Below.refl _ _) (.cells #[.int .i64 2, .slice (some ⟨w0.heap.size, 0, none⟩) 3 3, .int .i64 0] 24)))
  have hfz : (w0.alloc (.cells #[.int .i64 1, .int .i64 2, .int .i64 3] 3)).frozen? ⟨w0.heap.size, 0, none⟩ = false := World.frozen?_alloc_new _ _ _ _
  have hcz : (w0.alloc (.cells #[.int .i64 1, .int .i64 2, .int .i64 3] 3)).cell? ⟨w0.heap.size, 0, none⟩ = some (.int .i64 1) := World.cell?_alloc_new _ _ _ 0
  have HFz := Lib.hid (frozen_keep (below_alloc (Below.refl _ _) (.cells #[.int .i64 2, .slice (some ⟨w0.heap.size, 0, none⟩) 3 3, .int .i64 0] 24)) hcz hfz)
  have HCz := Lib.hid (cell_keep (below_alloc (Below.refl _ _) (.cells #[.int .i64 2, .slice (some ⟨w0.heap.size, 0, none⟩) 3 3, .int .i64 0] 24)) hcz)
  have HB := Lib.hid (below_on HB0.out hb1)
  have hsz : ((w0.alloc (.cells #[.int .i64 1, .int .i64 2, .int .i64 3] 3)).alloc (.cells #[.int .i64 2, .slice (some ⟨w0.heap.size, 0, none⟩) 3 3, .int .i64 0] 24)).heap.size = w0.heap.size + 2 := by simp
  rw [World.size_alloc] at HX
  have HSz := Lib.hid hsz
  have HW0 : Hid (w.heap.size ≤ w0.heap.size) := Lib.hid HB0.out.size
  clear hb1 hz0 hfz hcz hsz HB0
  generalize (w0.alloc (.cells #[.int .i64 1, .int .i64 2, .int .i64 3] 3)).alloc (.cells #[.int .i64 2, .slice (some ⟨w0.heap.size, 0, none⟩) 3 3, .int .i64 0] 24) = V at HX HZ HFz HCz HB HSz ⊢
  generalize w0.heap.size = rr at HX HZ HFz HCz HSz HW0 ⊢
  obtain ⟨x0, x1, x2, -⟩ := HX.out
  have HS0 : Hid (B3 V.drew (rr + 1) (.int .i64 2) (.slice (some ⟨rr, 0, none⟩) 3 3) (.int .i64 0) ∧ IntsAt V.drew (some ⟨rr, 0, none⟩) [1, 2, 3] ∧ Below V.heap.size V V.drew) := Lib.hid ⟨HX.out, HZ.out, Below.drew (Below.refl _ _)⟩
  go_region_held3 (fun U => U.cell? ⟨rr + 1, 0, none⟩ = some (.int .i64 2) ∧ U.cell? ⟨rr + 1, 1, none⟩ = some (.slice (some ⟨rr, 0, none⟩) 3 3) ∧ U.cell? ⟨rr + 1, 2, none⟩ = some (.int .i64 0) ∧ IntsAt U (some ⟨rr, 0, none⟩) [1, 2, 3] ∧ Below V.heap.size V U)
    (first | exact ⟨x0, x1, x2, HS0.out.2.1, HS0.out.2.2⟩ | (obtain ⟨s1, s2, s3, s4, s5⟩ := (‹_ ∧ _ ∧ _ ∧ IntsAt _ _ _ ∧ Below _ _ _›); exact ⟨cell_keep hb s1, cell_keep hb s2, cell_keep hb s3, s4.keep hb, below_on s5 hb⟩) | exact ⟨cell_keep hb x0, cell_keep hb x1, cell_keep hb x2, HZ.out.keep hb, hb⟩)
    (first
      | (go_at_call 14; have s5 := (‹_ ∧ _ ∧ _ ∧ IntsAt _ _ _ ∧ Below _ _ _›).2.2.2.2; refine (new_S (w0 := w) (below_on HB.out s5) 1048576 1048576 (by decide)).mono ?_; rintro e' w2 ⟨g, b, rfl, hs, hb, hg1, hg2⟩; have HCs := Lib.hid hs; have HGe : Hid (V.heap.size ≤ g ∧ V.heap.size ≤ b) := Lib.hid ⟨Nat.le_trans s5.size hg1, Nat.le_trans s5.size hg2⟩; clear s5 hs hg1 hg2)
      | (go_at_call 15; have s4 := (‹_ ∧ _ ∧ _ ∧ IntsAt _ _ _ ∧ Below _ _ _›).2.2.2.1; have s5 := (‹_ ∧ _ ∧ _ ∧ IntsAt _ _ _ ∧ Below _ _ _›).2.2.2.2; refine (chopen_fresh HL.out HCs.out (by decide) (by decide) (e := 2) (zs := [1, 2, 3]) (by decide) s4 (fun q hq => by have := HGe.out; have := HSz.out; simp [rowB] at hq; omega) (now := 0) (fitI_of (by omega))).mono ?_; rintro e' w3 ⟨x, f, rfl, hc, hfg, hon, hft⟩; have HC := Lib.hid hc; have hb : Below V.heap.size V w3 := Only.under s5 hon (fun i hi => by have := HGe.out; simp at hi; rcases hi with rfl | rfl; exact this.1; exact this.2); have HBO := Lib.hid hb; have HFt := Lib.hid hft; have HVz := Lib.hid s5.size; clear s4 s5 hc hfg hon hft))
  all_goals
    have hb : Below V.heap.size V w3 := HBO.out
    have HXw := Lib.hid (HX.out.keep hb)
    have c0 := cell_keep hb HCz.out
    have z0 := frozen_keep hb HCz.out HFz.out
    have HCH := Lib.hid HC.out
    have hrx : ∀ q ∈ foot x f, ¬ (q = rr) := fun q hq e => by
      have h1 := HSz.out
      have h2 := HGe.out
      have h3 := HVz.out
      rcases HFt.out q hq with h | h | h
      · omega
      · omega
      · omega
    have HRx := Lib.hid hrx
    obtain ⟨x0, x1, x2, -⟩ := HXw.out
    clear hb hrx
    go_upto_region 9 with fail
    have HC4 : Hid (CH w (w3.setCell ⟨rr, 0, none⟩ (.int .i64 5)) x (newS 2 [1, 2, 3] 0) f) := Lib.hid (HCH.out.keep (only_one 0 _) (fun q hq hm => by simp at hm; exact HRx.out q hq hm) (fun i hi => by simp at hi; have := HW0.out; omega))
    clear x0 x1 x2 c0 z0 HC HCH HX HZ HCz HFz HXw HS0 HBO HB
    generalize w3.setCell ⟨rr, 0, none⟩ (.int .i64 5) = W4 at HC4 ⊢
    go_wp2_with fail
    refine (chroster_is HC4.out (e := 2) (nw := 0) (zs := [1, 2, 3]) rfl rfl rfl (n := 3) rfl (by decide)).mono ?_
    rintro e5 w5 ⟨a5, c5, rfl, hown, hb⟩
    obtain ⟨g5, rfl, hg5, hl5, hc5, hf5⟩ := own_open hown rfl (by decide)
    have HC5 := Lib.hid (HC4.out.low hb)
    have HNg : Hid (∀ q ∈ foot x f, ¬ (q = g5)) := Lib.hid (fun q hq e => by have := HC4.out.lt q hq; omega)
    have hwg : Hid (w.heap.size ≤ g5) := Lib.hid (Nat.le_trans HC4.out.below.size hg5)
    have hb5 := below_alloc (Below.refl w5.heap.size w5) (.cells #[.int .i64 2, .slice (some ⟨g5, 0, none⟩) 3 c5, .int .i64 0] 24)
    have u1 := cell_keep hb5 (hc5 1 (by decide))
    have v1 := frozen_keep hb5 (hc5 1 (by decide)) (hf5 1 (by decide))
    have HC6 := Lib.hid (HC5.out.low hb5)
    have HX6 := Lib.hid (B3.new w5 (.int .i64 2) (.slice (some ⟨g5, 0, none⟩) 3 c5) (.int .i64 0) 24)
    clear hown hb hc5 hf5 hb5 HC4 HC5
    go_upto_region 10 with fail
    generalize w5.alloc (.cells #[.int .i64 2, .slice (some ⟨g5, 0, none⟩) 3 c5, .int .i64 0] 24) = W6 at u1 v1 HC6 HX6 ⊢
    generalize w5.heap.size = r5 at HX6 ⊢
    obtain ⟨y0, y1, y2, -⟩ := HX6.out
    have HC7 : Hid (CH w (W6.setCell ⟨g5, 1, none⟩ (.int .i64 4)) x (newS 2 [1, 2, 3] 0) f) := Lib.hid (HC6.out.keep (only_one 1 _) (fun q hq hm => by simp at hm; exact HNg.out q hq hm) (fun i hi => by simp at hi; have := hwg.out; omega))
    go_upto_region 11 with fail
    clear u1 v1 y0 y1 y2 HX6 HC6
    generalize W6.setCell ⟨g5, 1, none⟩ (.int .i64 4) = W7 at HC7 ⊢
    go_wp2_with fail
    refine (step_beat2 HC7.out (by decide) rfl (by decide) (wd 1 2 0) rfl (by decide) (by decide) rfl (by decide) (by decide) (now := 1) (by decide)).mono ?_
    rintro e8 w8 ⟨q, a8, c8, rfl, hp, hla, hq, hown⟩
    obtain ⟨g8, rfl, hg8, hl8, hc8, hf8⟩ := own_open hown rfl (by decide)
    have l10 : w8.cell? ⟨q, 10, none⟩ = some (.slice (some ⟨g8, 0, none⟩) 3 c8) := hla.cs 10 _ rfl
    have u2 : w8.cell? ⟨g8, 2, none⟩ = some (.int .i64 3) := hc8 2 (by decide)
    have v2 := hf8 2 (by decide)
    have HC8 : Hid (CH w w8 x (beatS (newS 2 [1, 2, 3] 0) 2 1) f) := Lib.hid hp.ch
    have HC9 : Hid (CH w (w8.setCell ⟨g8, 2, none⟩ (.int .i64 5)) x (beatS (newS 2 [1, 2, 3] 0) 2 1) f) := Lib.hid (hp.ch.keep (only_one 2 _) (fun i hi hm => by
      have h1 := HC7.out.lt i hi
      simp at hm; omega) (fun i hi => by
      have h1 := HC7.out.below.size
      simp at hi; omega))
    clear hp hla hown hc8 hf8 hq HC7 HC8
    go_upto_region 15 with fail
    clear l10 u2 v2
    generalize w8.setCell ⟨g8, 2, none⟩ (.int .i64 5) = W9 at HC9 ⊢
    go_wp2_with fail
    refine (chroster_is HC9.out (e := 2) (nw := 0) (zs := [1, 2, 3]) rfl rfl rfl (n := 3) rfl (by decide)).mono ?_
    rintro e10 w10 ⟨a10, c10, rfl, hown, hb⟩
    obtain ⟨g10, rfl, hg10, hl10, hc10, -⟩ := own_open hown rfl (by decide)
    have hbb := below_alloc (Below.refl w10.heap.size w10) (.cells #[.int .i64 2, .slice (some ⟨g10, 0, none⟩) 3 c10, .int .i64 0] 24)
    have m0 : _ = some (Value.int .i64 1) := cell_keep hbb (hc10 0 (by decide))
    have m1 : _ = some (Value.int .i64 2) := cell_keep hbb (hc10 1 (by decide))
    have m2 : _ = some (Value.int .i64 3) := cell_keep hbb (hc10 2 (by decide))
    have HX := Lib.hid (B3.new w10 (.int .i64 2) (.slice (some ⟨g10, 0, none⟩) 3 c10) (.int .i64 0) 24)
    have HE := Lib.hid ((HC9.out.low hb).low hbb).below
    clear hown hb hc10 hbb HC9
    go_upto_region 16 with fail
    generalize w10.alloc (.cells #[.int .i64 2, .slice (some ⟨g10, 0, none⟩) 3 c10, .int .i64 0] 24) = W11 at m0 m1 m2 HX HE ⊢
    generalize w10.heap.size = r10 at HX ⊢
    obtain ⟨y0, y1, y2, -⟩ := HX.out
    go_wp2_with fail
    go_ret
    exact ⟨rfl, HE.out⟩
end Go.Proofs.YthiphdcbboapkaaGreatDoor
