/- ChiefOwn: the walk. ChiefSilent, plain: who is silent goes. ChiefSilent: the walk. ChiefWords: the walk. -/
import Derived.Test.YthiphdcbboapkaaGreatDoorH6
import Derived.Test.YthiphdcbboapkaaGreatDoorH3
import Derived.Deep.MidRow
namespace Go.Proofs.YthiphdcbboapkaaGreatDoor
open Go.RowKit Go.Maps

set_option maxRecDepth 100000
/-- A row of one's own may be written. -/
theorem own_open {W : World} {base : Nat} {a : Option Addr} {n c : Nat} {zs : List Int} (h : OwnI W base (.slice a n c) zs) (hn : n = zs.length) (hl : 0 < zs.length) :
    ∃ g, a = some ⟨g, 0, none⟩ ∧ base ≤ g ∧ g < W.heap.size ∧ (∀ k, k < zs.length → W.cell? ⟨g, k, none⟩ = some (.int .i64 (nthI zs k))) ∧ ∀ k, k < zs.length → W.frozen? ⟨g, k, none⟩ = false := by
  subst hn
  have hi := own_ints h
  obtain ⟨_, h2⟩ := h
  rcases h2 with ⟨_, h3⟩ | ⟨g, cap, cur, h3, h4, h5, h6, h7, h8, h9⟩
  · omega
  · have hg : g < W.heap.size := (Array.getElem?_eq_some_iff.1 h5).1
    simp only [Value.slice.injEq] at h3
    obtain ⟨rfl, -, -⟩ := h3
    obtain ⟨b, off, e, -, hc⟩ := hi.form hl
    simp only [Option.some.injEq, Addr.mk.injEq, and_true] at e
    obtain ⟨rfl, rfl⟩ := e
    refine ⟨g, rfl, h4, hg, fun k hk => by have := hc k hk; rwa [Nat.zero_add] at this, fun k hk => ?_⟩
    unfold World.frozen?
    simp only [h5]
    simp
set_option maxHeartbeats 12800000 in
theorem chiefOwn_walk (w : World) (LA : Laid w) : Calls Tryz.prog 10 #[] w fun e w' => e = .returned (.bool true) ∧ Below w.heap.size w w' := by
  have HL := Lib.hid LA
  clear LA
  go_enter Tryz.func10, Tryz.ntmps10
  go_wp2_with fail
  refine (begun10_any _ HL.out).mono ?_
  rintro e w0 ⟨rfl, hb0⟩
  have HB0 := Lib.hid hb0
  clear hb0
  go_upto_region 5 with fail
  have hb1 := below_alloc (below_alloc (Below.refl w0.heap.size w0) (.cells #[.int .i64 1, .int .i64 2, .int .i64 3] 3)) (.cells #[.int .i64 2, .slice (some ⟨w0.heap.size, 0, none⟩) 3 3, .int .i64 0] 24)
  have HX := Lib.hid (B3.new (w0.alloc (.cells #[.int .i64 1, .int .i64 2, .int .i64 3] 3)) (.int .i64 2) (.slice (some ⟨w0.heap.size, 0, none⟩) 3 3) (.int .i64 0) 24)
  have hz0 : IntsAt (w0.alloc (.cells #[.int .i64 1, .int .i64 2, .int .i64 3] 3)) (some ⟨w0.heap.size, 0, none⟩) [1, 2, 3] := ints_litW w0 [1, 2, 3] 3
  have HZ := Lib.hid (hz0.keep (below_alloc (Below.refl _ _) (.cells #[.int .i64 2, .slice (some ⟨w0.heap.size, 0, none⟩) 3 3, .int .i64 0] 24)))
  have hfz : (w0.alloc (.cells #[.int .i64 1, .int .i64 2, .int .i64 3] 3)).frozen? ⟨w0.heap.size, 0, none⟩ = false := World.frozen?_alloc_new _ _ _ _
  have hcz : (w0.alloc (.cells #[.int .i64 1, .int .i64 2, .int .i64 3] 3)).cell? ⟨w0.heap.size, 0, none⟩ = some (.int .i64 1) := World.cell?_alloc_new _ _ _ 0
  have HFz := Lib.hid (frozen_keep (below_alloc (Below.refl _ _) (.cells #[.int .i64 2, .slice (some ⟨w0.heap.size, 0, none⟩) 3 3, .int .i64 0] 24)) hcz hfz)
  have HCz := Lib.hid (cell_keep (below_alloc (Below.refl _ _) (.cells #[.int .i64 2, .slice (some ⟨w0.heap.size, 0, none⟩) 3 3, .int .i64 0] 24)) hcz)
  have HB := Lib.hid (below_on HB0.out hb1)
  have hsz : ((w0.alloc (.cells #[.int .i64 1, .int .i64 2, .int .i64 3] 3)).alloc (.cells #[.int .i64 2, .slice (some ⟨w0.heap.size, 0, none⟩) 3 3, .int .i64 0] 24)).heap.size = w0.heap.size + 2 := by simp
  rw [World.size_alloc] at HX
  have HSz := Lib.hid hsz
  have HW0 : Hid (w.heap.size ≤ w0.heap.size) := Lib.hid HB0.out.size
  clear hb1 hz0 hfz hcz hsz HB0
  generalize (w0.alloc (.cells #[.int .i64 1, .int .i64 2, .int .i64 3] 3)).alloc (.cells #[.int .i64 2, .slice (some ⟨w0.heap.size, 0, none⟩) 3 3, .int .i64 0] 24) = V at HX HZ HFz HCz HB HSz ⊢
  generalize w0.heap.size = rr at HX HZ HFz HCz HSz HW0 ⊢
  obtain ⟨x0, x1, x2, -⟩ := HX.out
  have HS0 : Hid (B3 V.drew (rr + 1) (.int .i64 2) (.slice (some ⟨rr, 0, none⟩) 3 3) (.int .i64 0) ∧ IntsAt V.drew (some ⟨rr, 0, none⟩) [1, 2, 3] ∧ Below V.heap.size V V.drew) := Lib.hid ⟨HX.out, HZ.out, Below.drew (Below.refl _ _)⟩
  go_region_held3 (fun U => U.cell? ⟨rr + 1, 0, none⟩ = some (.int .i64 2) ∧ U.cell? ⟨rr + 1, 1, none⟩ = some (.slice (some ⟨rr, 0, none⟩) 3 3) ∧ U.cell? ⟨rr + 1, 2, none⟩ = some (.int .i64 0) ∧ IntsAt U (some ⟨rr, 0, none⟩) [1, 2, 3] ∧ Below V.heap.size V U)
    (first | exact ⟨x0, x1, x2, HS0.out.2.1, HS0.out.2.2⟩ | (obtain ⟨s1, s2, s3, s4, s5⟩ := (‹_ ∧ _ ∧ _ ∧ IntsAt _ _ _ ∧ Below _ _ _›); exact ⟨cell_keep hb s1, cell_keep hb s2, cell_keep hb s3, s4.keep hb, below_on s5 hb⟩) | exact ⟨cell_keep hb x0, cell_keep hb x1, cell_keep hb x2, HZ.out.keep hb, hb⟩)
    (first
      | (go_at_call 14; have s5 := (‹_ ∧ _ ∧ _ ∧ IntsAt _ _ _ ∧ Below _ _ _›).2.2.2.2; refine (new_S (w0 := w) (below_on HB.out s5) 1048576 1048576 (by decide)).mono ?_; rintro e' w2 ⟨g, b, rfl, hs, hb, hg1, hg2⟩; have HCs := Lib.hid hs; have HGe : Hid (V.heap.size ≤ g ∧ V.heap.size ≤ b) := Lib.hid ⟨Nat.le_trans s5.size hg1, Nat.le_trans s5.size hg2⟩; clear s5 hs hg1 hg2)
      | (go_at_call 15; have s4 := (‹_ ∧ _ ∧ _ ∧ IntsAt _ _ _ ∧ Below _ _ _›).2.2.2.1; have s5 := (‹_ ∧ _ ∧ _ ∧ IntsAt _ _ _ ∧ Below _ _ _›).2.2.2.2; refine (chopen_fresh HL.out HCs.out (by decide) (by decide) (e := 2) (zs := [1, 2, 3]) (by decide) s4 (fun q hq => by have := HGe.out; have := HSz.out; simp [rowB] at hq; omega) (now := 0) (fitI_of (by omega))).mono ?_; rintro e' w3 ⟨x, f, rfl, hc, hfg, hon, hft⟩; have HC := Lib.hid hc; have hb : Below V.heap.size V w3 := Only.under s5 hon (fun i hi => by have := HGe.out; simp at hi; rcases hi with rfl | rfl; exact this.1; exact this.2); have HBO := Lib.hid hb; have HFt := Lib.hid hft; have HVz := Lib.hid s5.size; clear s4 s5 hc hfg hon hft))
  all_goals
    have hb : Below V.heap.size V w3 := HBO.out
    have HXw := Lib.hid (HX.out.keep hb)
    have c0 := cell_keep hb HCz.out
    have z0 := frozen_keep hb HCz.out HFz.out
    have HCH := Lib.hid HC.out
    have hrx : ∀ q ∈ foot x f, ¬ (q = rr) := fun q hq e => by
      have h1 := HSz.out
      have h2 := HGe.out
      have h3 := HVz.out
      rcases HFt.out q hq with h | h | h
      · omega
      · omega
      · omega
    have HRx := Lib.hid hrx
    obtain ⟨x0, x1, x2, -⟩ := HXw.out
    clear hb hrx
    go_upto_region 9 with fail
    have HC4 : Hid (CH w (w3.setCell ⟨rr, 0, none⟩ (.int .i64 5)) x (newS 2 [1, 2, 3] 0) f) := Lib.hid (HCH.out.keep (only_one 0 _) (fun q hq hm => by simp at hm; exact HRx.out q hq hm) (fun i hi => by simp at hi; have := HW0.out; omega))
    clear x0 x1 x2 c0 z0 HC HCH HX HZ HCz HFz HXw HS0 HBO HB
    generalize w3.setCell ⟨rr, 0, none⟩ (.int .i64 5) = W4 at HC4 ⊢
    go_wp2_with fail
    refine (chroster_is HC4.out (e := 2) (nw := 0) (zs := [1, 2, 3]) rfl rfl rfl (n := 3) rfl (by decide)).mono ?_
    rintro e5 w5 ⟨a5, c5, rfl, hown, hb⟩
    obtain ⟨g5, rfl, hg5, hl5, hc5, hf5⟩ := own_open hown rfl (by decide)
    have HC5 := Lib.hid (HC4.out.low hb)
    have HNg : Hid (∀ q ∈ foot x f, ¬ (q = g5)) := Lib.hid (fun q hq e => by have := HC4.out.lt q hq; omega)
    have hwg : Hid (w.heap.size ≤ g5) := Lib.hid (Nat.le_trans HC4.out.below.size hg5)
    have hb5 := below_alloc (Below.refl w5.heap.size w5) (.cells #[.int .i64 2, .slice (some ⟨g5, 0, none⟩) 3 c5, .int .i64 0] 24)
    have u1 := cell_keep hb5 (hc5 1 (by decide))
    have v1 := frozen_keep hb5 (hc5 1 (by decide)) (hf5 1 (by decide))
    have HC6 := Lib.hid (HC5.out.low hb5)
    have HX6 := Lib.hid (B3.new w5 (.int .i64 2) (.slice (some ⟨g5, 0, none⟩) 3 c5) (.int .i64 0) 24)
    clear hown hb hc5 hf5 hb5 HC4 HC5
    go_upto_region 10 with fail
    generalize w5.alloc (.cells #[.int .i64 2, .slice (some ⟨g5, 0, none⟩) 3 c5, .int .i64 0] 24) = W6 at u1 v1 HC6 HX6 ⊢
    generalize w5.heap.size = r5 at HX6 ⊢
    obtain ⟨y0, y1, y2, -⟩ := HX6.out
    have HC7 : Hid (CH w (W6.setCell ⟨g5, 1, none⟩ (.int .i64 4)) x (newS 2 [1, 2, 3] 0) f) := Lib.hid (HC6.out.keep (only_one 1 _) (fun q hq hm => by simp at hm; exact HNg.out q hq hm) (fun i hi => by simp at hi; have := hwg.out; omega))
    go_upto_region 11 with fail
    clear u1 v1 y0 y1 y2 HX6 HC6
    generalize W6.setCell ⟨g5, 1, none⟩ (.int .i64 4) = W7 at HC7 ⊢
    go_wp2_with fail
    refine (step_beat2 HC7.out (by decide) rfl (by decide) (wd 1 2 0) rfl (by decide) (by decide) rfl (by decide) (by decide) (now := 1) (by decide)).mono ?_
    rintro e8 w8 ⟨q, a8, c8, rfl, hp, hla, hq, hown⟩
    obtain ⟨g8, rfl, hg8, hl8, hc8, hf8⟩ := own_open hown rfl (by decide)
    have l10 : w8.cell? ⟨q, 10, none⟩ = some (.slice (some ⟨g8, 0, none⟩) 3 c8) := hla.cs 10 _ rfl
    have u2 : w8.cell? ⟨g8, 2, none⟩ = some (.int .i64 3) := hc8 2 (by decide)
    have v2 := hf8 2 (by decide)
    have HC8 : Hid (CH w w8 x (beatS (newS 2 [1, 2, 3] 0) 2 1) f) := Lib.hid hp.ch
    have HC9 : Hid (CH w (w8.setCell ⟨g8, 2, none⟩ (.int .i64 5)) x (beatS (newS 2 [1, 2, 3] 0) 2 1) f) := Lib.hid (hp.ch.keep (only_one 2 _) (fun i hi hm => by
      have h1 := HC7.out.lt i hi
      simp at hm; omega) (fun i hi => by
      have h1 := HC7.out.below.size
      simp at hi; omega))
    clear hp hla hown hc8 hf8 hq HC7 HC8
    go_upto_region 15 with fail
    clear l10 u2 v2
    generalize w8.setCell ⟨g8, 2, none⟩ (.int .i64 5) = W9 at HC9 ⊢
    go_wp2_with fail
    refine (chroster_is HC9.out (e := 2) (nw := 0) (zs := [1, 2, 3]) rfl rfl rfl (n := 3) rfl (by decide)).mono ?_
    rintro e10 w10 ⟨a10, c10, rfl, hown, hb⟩
    obtain ⟨g10, rfl, hg10, hl10, hc10, -⟩ := own_open hown rfl (by decide)
    have hbb := below_alloc (Below.refl w10.heap.size w10) (.cells #[.int .i64 2, .slice (some ⟨g10, 0, none⟩) 3 c10, .int .i64 0] 24)
    have m0 : _ = some (Value.int .i64 1) := cell_keep hbb (hc10 0 (by decide))
    have m1 : _ = some (Value.int .i64 2) := cell_keep hbb (hc10 1 (by decide))
    have m2 : _ = some (Value.int .i64 3) := cell_keep hbb (hc10 2 (by decide))
    have HX := Lib.hid (B3.new w10 (.int .i64 2) (.slice (some ⟨g10, 0, none⟩) 3 c10) (.int .i64 0) 24)
    have HE := Lib.hid ((HC9.out.low hb).low hbb).below
    clear hown hb hc10 hbb HC9
    go_upto_region 16 with fail
    generalize w10.alloc (.cells #[.int .i64 2, .slice (some ⟨g10, 0, none⟩) 3 c10, .int .i64 0] 24) = W11 at m0 m1 m2 HX HE ⊢
    generalize w10.heap.size = r10 at HX ⊢
    obtain ⟨y0, y1, y2, -⟩ := HX.out
    go_wp2_with fail
    go_ret
    exact ⟨rfl, HE.out⟩
end Go.Proofs.YthiphdcbboapkaaGreatDoor
namespace Go.Proofs.YthiphdcbboapkaaGreatDoor
open Go.RowKit

def zsN (n : Nat) : List Int := (List.range n).map fun (k : Nat) => ((k : Int) + 1)
def zsO (n : Nat) (who : Int) : List Int := (zsN n).filter fun i => decide (i ≠ who)
theorem zsN_mem {n : Nat} {i : Int} : i ∈ zsN n ↔ 1 ≤ i ∧ i ≤ n := by
  unfold zsN
  simp only [List.mem_map, List.mem_range]
  constructor
  · rintro ⟨a, h, rfl⟩; omega
  · intro h; exact ⟨(i - 1).toNat, by omega, by omega⟩
theorem zsO_mem {n : Nat} {who i : Int} : i ∈ zsO n who ↔ (1 ≤ i ∧ i ≤ n) ∧ i ≠ who := by
  unfold zsO
  rw [List.mem_filter, zsN_mem]
  simp
theorem zsN_len (n : Nat) : (zsN n).length = n := by simp [zsN]
theorem zsN_snoc (n : Nat) : zsN (n + 1) = zsN n ++ [(n : Int) + 1] := by simp [zsN, List.range_succ]
theorem silent_fin {n : Nat} {who : Int} (h1 : 1 ≤ n) (h5 : n ≤ 5) (hw : 1 ≤ who) (hn : who ≤ n) : mayB 1 (zsN n) 0 = true ∧ (n = 1 → (dropF 1 (zsN n) 0 who).2.2.2 = false) ∧ (2 ≤ n → dropF 1 (zsN n) 0 who = (2, zsO n who, 0, true)) := by
  have hnn : n = 1 ∨ n = 2 ∨ n = 3 ∨ n = 4 ∨ n = 5 := by omega
  have hww : who = 1 ∨ who = 2 ∨ who = 3 ∨ who = 4 ∨ who = 5 := by omega
  rcases hnn with rfl | rfl | rfl | rfl | rfl <;> rcases hww with rfl | rfl | rfl | rfl | rfl <;> first | (exfalso; omega) | decide
theorem mute_none {zs : List Int} {hd : Int → Int} {now : Int} (h : ∀ i ∈ zs, now - hd i ≤ 9) : muteL zs hd now = 0 := by
  induction zs with
  | nil => rfl
  | cons x r ih =>
    have h1 := h x (by simp)
    show (if 9 < now - hd x then x else muteL r hd now) = 0
    rw [if_neg (by omega)]
    exact ih (fun i hi => h i (by simp [hi]))
theorem mute_one {zs : List Int} {hd : Int → Int} {now who : Int} (h : ∀ i ∈ zs, i ≠ who → now - hd i ≤ 9) (hw : who ∈ zs) (h9 : 9 < now - hd who) : muteL zs hd now = who := by
  induction zs with
  | nil => simp at hw
  | cons x r ih =>
    show (if 9 < now - hd x then x else muteL r hd now) = who
    by_cases e : x = who
    · subst e; rw [if_pos h9]
    · have h1 := h x (by simp) e
      rw [if_neg (by omega)]
      exact ih (fun i hi => h i (by simp [hi])) (by
        rcases List.mem_cons.1 hw with h2 | h2
        · exact absurd h2.symm e
        · exact h2)
/-! phases: in the midst of a time, behind so many members -/
structure MidA (n : Nat) (who now : Int) (k : Nat) (S : St) : Prop where
  e : S.e = 1
  zs : S.zs = zsN n
  nw : S.nw = 0
  e2 : S.e2 = 0
  asks : S.asks = 0
  lost : S.lost = false
  hd : ∀ i : Int, 1 ≤ i → i ≤ n → i ≠ who → S.hd i = if i ≤ k then now else now - 1
  hw : S.hd who = 0
  un : S.un ≤ now + 6
  ue : ∀ i : Int, 1 ≤ i → i ≤ k → i ≠ who → now ≠ 0 → S.un = now + 6
structure PhB (n : Nat) (who : Int) (S : St) : Prop where
  zs : S.zs = zsN n
  e2 : S.e2 = 2
  zs2 : S.zs2 = zsO n who
  nw2 : S.nw2 = 0
  lost : S.lost = false
  un : S.un = 15
structure MidC (n : Nat) (who now : Int) (k : Nat) (S : St) : Prop where
  zs : S.zs = zsO n who
  e2 : S.e2 = 0
  asks : S.asks = 0
  lost : S.lost = false
  hd : ∀ i : Int, 1 ≤ i → i ≤ n → i ≠ who → now - 1 ≤ S.hd i ∧ (i ≤ k → S.hd i = now)
structure PhD (who : Int) (S : St) : Prop where
  e : S.e = 1
  zs : S.zs = zsN 1
  nw : S.nw = 0
  e2 : S.e2 = 0
  hw : S.hd who = 0
  lost : S.lost = true
/-- A new chain of so many. -/
def newS0 (n : Nat) : St := newS 1 (zsN n) 0
def Mid (n : Nat) (who now : Int) (k : Nat) (S : St) : Prop :=
  (now ≤ 9 ∧ MidA n who now k S) ∨ (10 ≤ now ∧ now ≤ 15 ∧ 2 ≤ n ∧ PhB n who S) ∨ (16 ≤ now ∧ 2 ≤ n ∧ MidC n who now k S) ∨ (10 ≤ now ∧ n = 1 ∧ PhD who S)
theorem silent_new {n : Nat} {who : Int} (_ : 1 ≤ who) : Mid n who 0 n (newS0 n) := by
  refine Or.inl ⟨by omega, ⟨rfl, rfl, rfl, rfl, rfl, rfl, fun i h1 h2 h3 => ?_, ?_, (by show (0 : Int) ≤ 0 + 6; omega), fun i h1 h2 h3 h4 => absurd rfl h4⟩⟩
  · show (if i ∈ zsN n then (0 : Int) else 0) = _
    rw [if_pos h2]
    split <;> rfl
  · show (if who ∈ zsN n then (0 : Int) else 0) = _
    split <;> rfl
theorem silent_tick {n : Nat} {who t : Int} {S : St} (h1 : 1 ≤ n) (h5 : n ≤ 5) (hw : 1 ≤ who) (hn : who ≤ n) (ht : 0 ≤ t) (h : Mid n who t n S) : Mid n who (t + 1) 0 (tickS S (t + 1)) := by
  obtain ⟨hm, hd1, hd2⟩ := silent_fin h1 h5 hw hn
  rcases h with ⟨h9, A⟩ | ⟨h10, h15, h2, B⟩ | ⟨h16, h2, C⟩ | ⟨h10, hn1, D⟩
  · by_cases h : t + 1 ≤ 9
    · have hmute : muteL S.zs S.hd (t + 1) = 0 := mute_none (fun i hi => by
        rw [A.zs, zsN_mem] at hi
        by_cases e : i = who
        · rw [e, A.hw]; omega
        · rw [A.hd i hi.1 hi.2 e, if_pos (by omega)]; omega)
      have ht2 : tickS S (t + 1) = { S with lost := false } := by
        unfold tickS
        rw [if_neg (by rw [A.e2]; omega), hmute, if_neg (by omega), if_neg (by rw [A.asks]; omega)]
      rw [ht2]
      refine Or.inl ⟨h, ⟨A.e, A.zs, A.nw, A.e2, A.asks, rfl, fun i a b c => ?_, A.hw, ?_, fun i a b c d => ?_⟩⟩
      · rw [if_neg (by omega)]
        have := A.hd i a b c
        rw [if_pos (by omega)] at this
        show S.hd i = _
        omega
      · have := A.un; show S.un ≤ _; omega
      · omega
    · obtain rfl : t = 9 := by omega
      have hmute : muteL S.zs S.hd 10 = who := mute_one (fun i hi e => by
        rw [A.zs, zsN_mem] at hi
        rw [A.hd i hi.1 hi.2 e, if_pos (by omega)]; omega) (by rw [A.zs, zsN_mem]; omega) (by rw [A.hw]; omega)
      have ht2 : tickS S (9 + 1) = nextS { S with lost := !(dropF 1 (zsN n) 0 who).2.2.2 } (dropF 1 (zsN n) 0 who) := by
        unfold tickS
        rw [if_neg (by rw [A.e2]; omega), show (9 : Int) + 1 = 10 from rfl, hmute, if_pos (by omega), A.e, A.zs, A.nw]
      rw [ht2]
      rcases Nat.lt_or_ge n 2 with hlt | hge
      · obtain rfl : n = 1 := by omega
        have hr := hd1 rfl
        refine Or.inr (Or.inr (Or.inr ⟨by omega, rfl, ?_⟩))
        unfold nextS
        rw [hr, if_neg (by simp)]
        exact ⟨A.e, A.zs, A.nw, A.e2, A.hw, rfl⟩
      · have hr := hd2 hge
        refine Or.inr (Or.inl ⟨by omega, by omega, hge, ?_⟩)
        unfold nextS
        rw [hr, if_pos rfl]
        have hu : S.un = 15 := by
          by_cases h : 1 < who
          · have := A.ue 1 (by omega) (by omega) (by omega) (by omega); omega
          · have := A.ue 2 (by omega) (by omega) (by omega) (by omega); omega
        exact ⟨A.zs, rfl, rfl, rfl, rfl, hu⟩
  · by_cases h : t + 1 ≤ 15
    · have ht2 : tickS S (t + 1) = S := by
        unfold tickS
        rw [if_pos (by rw [B.e2]; omega), if_neg (by rw [B.un]; omega)]
      rw [ht2]
      exact Or.inr (Or.inl ⟨by omega, h, h2, B⟩)
    · obtain rfl : t = 15 := by omega
      have ht2 : tickS S (15 + 1) = roundS S 16 := by
        unfold tickS
        rw [if_pos (by rw [B.e2]; omega), if_pos (by rw [B.un]; omega)]; rfl
      rw [ht2]
      refine Or.inr (Or.inr (Or.inl ⟨by omega, h2, ⟨?_, rfl, rfl, ?_, fun i a b c => ?_⟩⟩))
      · show S.zs2 = _; exact B.zs2
      · show S.lost = _; exact B.lost
      · have : (roundS S 16).hd i = 16 := by
          show (if i ∈ S.zs2 then (16 : Int) else 0) = 16
          rw [if_pos (by rw [B.zs2, zsO_mem]; exact ⟨⟨a, b⟩, c⟩)]
        rw [this]
        exact ⟨by omega, fun _ => by omega⟩
  · have hmute : muteL S.zs S.hd (t + 1) = 0 := mute_none (fun i hi => by
      rw [C.zs, zsO_mem] at hi
      have := (C.hd i hi.1.1 hi.1.2 hi.2).1
      omega)
    have ht2 : tickS S (t + 1) = { S with lost := false } := by
      unfold tickS
      rw [if_neg (by rw [C.e2]; omega), hmute, if_neg (by omega), if_neg (by rw [C.asks]; omega)]
    rw [ht2]
    refine Or.inr (Or.inr (Or.inl ⟨by omega, h2, ⟨C.zs, C.e2, C.asks, rfl, fun i a b c => ⟨?_, fun hi => by omega⟩⟩⟩))
    have := (C.hd i a b c).2 (by omega)
    show t + 1 - 1 ≤ S.hd i
    omega
  · subst hn1
    obtain rfl : who = 1 := by omega
    have hmute : muteL S.zs S.hd (t + 1) = 1 := mute_one (fun i hi e => by
      rw [D.zs, zsN_mem] at hi
      omega) (by rw [D.zs, zsN_mem]; omega) (by rw [D.hw]; omega)
    have ht2 : tickS S (t + 1) = nextS { S with lost := !(dropF 1 (zsN 1) 0 1).2.2.2 } (dropF 1 (zsN 1) 0 1) := by
      unfold tickS
      rw [if_neg (by rw [D.e2]; omega), hmute, if_pos (by omega), D.e, D.zs, D.nw]
    rw [ht2]
    refine Or.inr (Or.inr (Or.inr ⟨by omega, rfl, ?_⟩))
    unfold nextS
    rw [hd1 rfl, if_neg (by simp)]
    exact ⟨D.e, D.zs, D.nw, D.e2, D.hw, rfl⟩
theorem silent_skip {n : Nat} {who now : Int} {k : Nat} {S : St} (hk : (k : Int) + 1 = who) (h : Mid n who now k S) : Mid n who now (k + 1) S := by
  rcases h with ⟨h9, A⟩ | h | ⟨h16, h2, C⟩ | h
  · refine Or.inl ⟨h9, ⟨A.e, A.zs, A.nw, A.e2, A.asks, A.lost, fun i a b c => ?_, A.hw, A.un, fun i a b c d => A.ue i a (by omega) c d⟩⟩
    rw [A.hd i a b c]
    by_cases e : i ≤ k
    · rw [if_pos e, if_pos (by omega)]
    · rw [if_neg e, if_neg (by omega)]
  · exact Or.inr (Or.inl h)
  · exact Or.inr (Or.inr (Or.inl ⟨h16, h2, ⟨C.zs, C.e2, C.asks, C.lost, fun i a b c => ⟨(C.hd i a b c).1, fun d => (C.hd i a b c).2 (by omega)⟩⟩⟩))
  · exact Or.inr (Or.inr (Or.inr h))
theorem silent_step {n : Nat} {who now ep : Int} {k : Nat} {S : St} (h5 : n ≤ 5) (hk : k + 1 ≤ n) (hw : (k : Int) + 1 ≠ who) (hw1 : 1 ≤ who) (hwn : who ≤ n) (h : Mid n who now k S) : Mid n who now (k + 1) (stepS S 1 ((k : Int) + 1) 0 ep now) := by
  have hst : ∀ zs : List Int, S.zs = zs → (k : Int) + 1 ∈ zs → stepS S 1 ((k : Int) + 1) 0 ep now = beatS S ((k : Int) + 1) now := fun zs hz hin => by
    unfold stepS
    rw [if_neg (by omega), if_pos rfl, if_neg (by rw [hz]; have := idx_in hin; omega)]
  rcases h with ⟨h9, A⟩ | ⟨h10, h15, h2, B⟩ | ⟨h16, h2, C⟩ | ⟨h10, hn1, D⟩
  · rw [hst _ A.zs (by rw [zsN_mem]; omega)]
    unfold beatS
    rw [if_neg (by rw [A.e2]; omega)]
    have hu : max S.un (now + 6) = now + 6 := by have := A.un; omega
    refine Or.inl ⟨h9, ⟨A.e, A.zs, A.nw, A.e2, A.asks, A.lost, fun i a b c => ?_, ?_, ?_, fun i a b c d => hu⟩⟩
    · show upd S.hd ((k : Int) + 1) now i = _
      unfold upd
      by_cases e : i = (k : Int) + 1
      · rw [if_pos e, if_pos (by omega)]
      · rw [if_neg e, A.hd i a b c]
        by_cases e2 : i ≤ k
        · rw [if_pos e2, if_pos (by omega)]
        · rw [if_neg e2, if_neg (by omega)]
    · show upd S.hd ((k : Int) + 1) now who = 0
      unfold upd
      rw [if_neg (fun e => hw e.symm)]; exact A.hw
    · show max S.un (now + 6) ≤ now + 6
      omega
  · rw [hst _ B.zs (by rw [zsN_mem]; omega)]
    unfold beatS
    rw [if_pos (by rw [B.e2]; omega)]
    exact Or.inr (Or.inl ⟨h10, h15, h2, ⟨B.zs, B.e2, B.zs2, B.nw2, B.lost, B.un⟩⟩)
  · rw [hst _ C.zs (by rw [zsO_mem]; omega)]
    unfold beatS
    rw [if_neg (by rw [C.e2]; omega)]
    refine Or.inr (Or.inr (Or.inl ⟨h16, h2, ⟨C.zs, C.e2, C.asks, C.lost, fun i a b c => ?_⟩⟩))
    show now - 1 ≤ upd S.hd ((k : Int) + 1) now i ∧ (i ≤ ((k + 1 : Nat) : Int) → upd S.hd ((k : Int) + 1) now i = now)
    unfold upd
    have h := C.hd i a b c
    by_cases e : i = (k : Int) + 1
    · rw [if_pos e]; exact ⟨by omega, fun _ => rfl⟩
    · rw [if_neg e]; exact ⟨h.1, fun d => h.2 (by omega)⟩
  · omega
/-- What the law asks at the end. -/
theorem silent_end {n : Nat} {who t : Int} {S : St} (h1 : 1 ≤ n) (hw : 1 ≤ who) (hn : who ≤ n) (h : Mid n who t n S) :
    (n = 1 → idx S.zs who = 0 ∧ (S.lost && !decide (0 < S.e2)) = decide (9 < t)) ∧
    (2 ≤ n → (decide (idx S.zs who < 0) || decide (0 < S.e2)) = decide (9 < t) ∧ (t < 17 ∨ idx S.zs who < 0) ∧ (S.lost && !decide (0 < S.e2)) = false) := by
  have hN : who ∈ zsN n := by rw [zsN_mem]; omega
  have hin : 0 ≤ idx (zsN n) who := idx_in hN
  have hout : idx (zsO n who) who < 0 := by rw [idx_no (by rw [zsO_mem]; omega)]; omega
  have h11 : n = 1 → idx (zsN n) who = 0 := fun e => by
    subst e
    obtain rfl : who = 1 := by omega
    decide
  rcases h with ⟨h9, A⟩ | ⟨h10, h15, h2, B⟩ | ⟨h16, h2, C⟩ | ⟨h10, hn1, D⟩
  · rw [A.zs, A.e2, A.lost, decide_eq_false (show ¬ 9 < t by omega), decide_eq_false (show ¬ idx (zsN n) who < 0 by omega)]
    exact ⟨fun e => ⟨h11 e, rfl⟩, fun _ => ⟨rfl, Or.inl (by omega), rfl⟩⟩
  · rw [B.zs, B.e2, B.lost, decide_eq_true (show 9 < t by omega)]
    refine ⟨fun e => by omega, fun _ => ⟨by simp, Or.inl (by omega), rfl⟩⟩
  · rw [C.zs, C.e2, C.lost, decide_eq_true (show 9 < t by omega), decide_eq_true hout]
    exact ⟨fun e => by omega, fun _ => ⟨rfl, Or.inr hout, rfl⟩⟩
  · subst hn1
    rw [D.zs, D.e2, D.lost, decide_eq_true (show 9 < t by omega)]
    exact ⟨fun _ => ⟨h11 rfl, rfl⟩, fun e => by omega⟩
end Go.Proofs.YthiphdcbboapkaaGreatDoor
namespace Go.Proofs.YthiphdcbboapkaaGreatDoor
open Go.RowKit Go.Maps

set_option maxRecDepth 100000
theorem lo_k {S : St} {T : Int} (h : OkS S T) : S.zs2.length ≤ 5 := by
  rcases h.nx with h1 | h1
  · rw [h1.2.1]; simp
  · exact (mayB_mayL h1.2.1).2.2
/-- What holds behind a time. -/
structure SilI (w wr : World) (x : Nat) (n : Nat) (who : Int) (t k kk m : Nat) (S : St) (f : Ft) : Prop where
  ch : CH w wr x S f
  ok : OkS S t
  md : Mid n who t k S
  kk' : S.k ≤ kk
  mm : S.m ≤ m
theorem SilI.tick {w wr w' : World} {x n : Nat} {who : Int} {t m : Nat} {S : St} {f f' : Ft} (h : SilI w wr x n who t n (t + 1) m S f) (h1 : 1 ≤ n) (h5 : n ≤ 5) (hw : 1 ≤ who) (hn : who ≤ n) (hm : 5 ≤ m) (hp : PostF w wr x f (tickS S (t + 1)) f' w') : SilI w w' x n who (t + 1) 0 (t + 2) m (tickS S (t + 1)) f' := by
  have hk := tickS_k S (t + 1)
  have hl := lo_k h.ok
  have h1' := h.kk'
  have h2' := h.mm
  exact ⟨hp.ch, tickS_ok (h.ok.mono (by omega)) (by omega), silent_tick h1 h5 hw hn (by omega) h.md, by omega, by omega⟩
theorem SilI.step {w wr w' : World} {x n : Nat} {who ep : Int} {t k kk m : Nat} {S : St} {f f' : Ft} (h : SilI w wr x n who t k kk m S f) (h5 : n ≤ 5) (hk : k + 1 ≤ n) (hw : (k : Int) + 1 ≠ who) (hw1 : 1 ≤ who) (hwn : who ≤ n) (hp : PostF w wr x f (stepS S 1 ((k : Int) + 1) 0 ep t) f' w') : SilI w w' x n who t (k + 1) kk (m + 1) (stepS S 1 ((k : Int) + 1) 0 ep t) f' := by
  have hk2 := stepS_k S 1 ((k : Int) + 1) 0 ep t
  have h1' := h.kk'
  have h2' := h.mm
  exact ⟨hp.ch, stepS_ok h.ok (by omega), silent_step h5 hk hw hw1 hwn h.md, by have := hk2.2.2 (by decide); omega, by omega⟩
theorem SilI.skip {w wr : World} {x n : Nat} {who : Int} {t k kk m : Nat} {S : St} {f : Ft} (h : SilI w wr x n who t k kk m S f) (hw : (k : Int) + 1 = who) : SilI w wr x n who t (k + 1) kk (m + 1) S f :=
  ⟨h.ch, h.ok, silent_skip hw h.md, h.kk', by have := h.mm; omega⟩
theorem SilI.low {w wr w' : World} {x n : Nat} {who : Int} {t k kk m : Nat} {S : St} {f : Ft} (h : SilI w wr x n who t k kk m S f) (hb : Below wr.heap.size wr w') : SilI w w' x n who t k kk m S f := ⟨h.ch.low hb, h.ok, h.md, h.kk', h.mm⟩
theorem chopen_is {w0 w : World} (LA : Laid w0) {g b : Nat} (H : ChS w0 w g b 1048576 []) {e : Int} {zs : List Int} {n : Nat} {a : Option Addr} {c : Nat} (hn : zs.length = n) (hm : mayB e zs 0 = true) (hz : IntsAt w a zs) (ha : ∀ q ∈ rowB a, q ≠ g ∧ q ≠ b) {now : Int} (hf : fitI now) :
    Calls Tryz.prog 15 #[.pointer (some ⟨g, 0, none⟩), .agg #[.int .i64 e, .slice a n c, .int .i64 0], .int .i64 now] w fun e' w' => ∃ x f, e' = .returned (.tuple #[.pointer (some ⟨x, 0, none⟩), .int .i64 0]) ∧ CH w0 w' x (newS e zs now) f ∧ Only [g, b] w w' := by
  subst hn
  refine (chopen_fresh LA H (by decide) (by decide) hm hz ha hf).mono ?_
  rintro e' w' ⟨x, f, rfl, hc, -, ho, -⟩
  exact ⟨x, f, rfl, hc, ho⟩
/-- What the law does not look at. -/
theorem silent_bad {n who time : Int} (h : ¬ (1 ≤ n ∧ n ≤ 5 ∧ 1 ≤ who ∧ who ≤ n ∧ 0 ≤ time ∧ time ≤ 40)) : decide (n < 1) = true ∨ (decide (n < 1) = false ∧ decide (5 < n) = true) ∨ (decide (n < 1) = false ∧ decide (5 < n) = false ∧ decide (who < 1) = true) ∨ (decide (n < 1) = false ∧ decide (5 < n) = false ∧ decide (who < 1) = false ∧ decide (n < who) = true) ∨ (decide (n < 1) = false ∧ decide (5 < n) = false ∧ decide (who < 1) = false ∧ decide (n < who) = false ∧ decide (time < 0) = true) ∨ (decide (n < 1) = false ∧ decide (5 < n) = false ∧ decide (who < 1) = false ∧ decide (n < who) = false ∧ decide (time < 0) = false ∧ decide (40 < time) = true) := by
  simp only [decide_eq_true_eq, decide_eq_false_iff_not]
  omega
set_option maxHeartbeats 3200000 in
theorem chiefSilent_no (n who time : Int) (w : World) (LA : Laid w) (h : ¬ (1 ≤ n ∧ n ≤ 5 ∧ 1 ≤ who ∧ who ≤ n ∧ 0 ≤ time ∧ time ≤ 40)) : Calls Tryz.prog 5 #[.int .i64 n, .int .i64 who, .int .i64 time] w fun e w' => e = .returned (.bool true) ∧ Below w.heap.size w w' := by
  have HL := Lib.hid LA
  have hb := silent_bad h
  clear LA h
  rcases hb with q1 | ⟨q1, q2⟩ | ⟨q1, q2, q3⟩ | ⟨q1, q2, q3, q4⟩ | ⟨q1, q2, q3, q4, q5⟩ | ⟨q1, q2, q3, q4, q5, q6⟩
  all_goals
    go_enter Tryz.func5, Tryz.ntmps5
    go_wp2_with (go_at_call 12; refine (begun10_any _ HL.out).mono ?_; rintro e' w' ⟨rfl, hb⟩; have HB := Lib.hid hb; clear hb)
    go_ret
    exact ⟨rfl, HB.out⟩
set_option maxHeartbeats 12800000 in
theorem chiefSilent_yes (N : Nat) (who : Int) (time : Nat) (w : World) (LA : Laid w) (h1 : 1 ≤ N) (h5 : N ≤ 5) (hw1 : 1 ≤ who) (hwn : who ≤ N) (ht : time ≤ 40) : Calls Tryz.prog 5 #[.int .i64 (N : Int), .int .i64 who, .int .i64 (time : Int)] w fun e w' => e = .returned (.bool true) ∧ Below w.heap.size w w' := by
  have HL := Lib.hid LA
  have q1 : decide ((N : Int) < 1) = false := by simp; omega
  have q2 : decide (5 < (N : Int)) = false := by simp; omega
  have q3 : decide (who < 1) = false := by simp; omega
  have q4 : decide ((N : Int) < who) = false := by simp; omega
  have q5 : decide ((time : Int) < 0) = false := by simp
  have q6 : decide (40 < (time : Int)) = false := by simp; omega
  clear LA
  go_enter Tryz.func5, Tryz.ntmps5
  go_upto_region 7 with (go_at_call 12; refine (begun10_any _ HL.out).mono ?_; rintro e' w0 ⟨rfl, hb⟩; have HB := Lib.hid hb; clear hb)
  have HX := Lib.hid (B3.new w0 (.int .i64 1) (.slice none 0 0) (.int .i64 0) 24)
  have HB1 := Lib.hid (below_alloc HB.out (.cells #[.int .i64 1, .slice none 0 0, .int .i64 0] 24))
  have hw0 : w.heap.size ≤ w0.heap.size := HB.out.size
  have hs1 : (w0.alloc (.cells #[.int .i64 1, .slice none 0 0, .int .i64 0] 24)).heap.size = w0.heap.size + 1 := by simp
  clear q1 q2 q3 q4 q5 q6
  generalize w0.alloc (.cells #[.int .i64 1, .slice none 0 0, .int .i64 0] 24) = V at HX HB1 hs1 ⊢
  generalize w0.heap.size = q at HX hw0 hs1 ⊢
  have HS1 := Lib.hid hs1
  clear hs1 HB
  go_wp2_with fail
  go_loopw [9] (fun i wr => ∃ (k : Nat) (a' : Option Addr) (c' : Nat), i = .int .i64 ((k : Int) + 1) ∧ k ≤ N ∧ B3 wr q (.int .i64 1) (.slice a' k c') (.int .i64 0) ∧ OwnI wr (q + 1) (.slice a' k c') (zsN k) ∧ Below w.heap.size w wr) (fun i _ => N + 1 - (intOf i).toNat)
  case atStart => exact ⟨0, none, 0, rfl, Nat.zero_le _, HX.out, World.ownsRow_nil _ _ _ _, HB1.out⟩
  case round =>
    obtain ⟨k, a', c', rfl, hk, hy, how, hbl⟩ := hrel
    have HYr := Lib.hid hy
    have HBr := Lib.hid hbl
    obtain ⟨y0, y1, y2, g0, g1, g2⟩ := hy
    have hqr : q < wr.heap.size := cell_old y0
    by_cases hlt : k < N
    · have p1 : decide ((k : Int) + 1 ≤ (N : Int)) = true := decide_eq_true (by omega)
      have HLen := Lib.hid (zsN_len k)
      have HOw := Lib.hid (ownI_at how (zsN_len k))
      have HT := Lib.hid (zsN_snoc k)
      obtain ⟨pre, hpre⟩ : ∃ pre, zsN k = pre := ⟨_, rfl⟩
      rw [hpre] at HOw HLen HT
      have hqb : ¬ (q = wr.heap.size) := Nat.ne_of_lt hqr
      have hw2 : IntKind.i64.wrap ((k : Int) + 1 + 1) = (k : Int) + 1 + 1 := IntWalk.i64_in _ (by omega)
      clear how hbl hpre
      go_wp2_with (at_builtin; refine wpList_append_any rfl _ _ 22 rfl (q + 1) 3 _ 1 8 tyInts _ k (pre.map (.int .i64)) rfl (ownsRow_below HOw.out (below_alloc (Below.refl _ _) _)) _ 1 1 [.int .i64 ((k : Int) + 1)] rfl rfl (RowAt.new _ _ _) (by simp [Value.oneCell']) (by unfold maxLen; omega) (by omega) ?c3 ?_; (case c3 => simp; omega); intro v' w' own' hb'; obtain ⟨a5, c5, rfl, -, -⟩ := own_cap (ownI_snoc HLen.out own'); have HO2 := Lib.hid (ownI_snoc HLen.out own'); have HX2 := Lib.hid ((HYr.out.keep (below_alloc (Below.refl _ _) _)).below hb' (Nat.lt_succ_self q) (by simp; omega)); have HW2 := Lib.hid ((below_alloc HBr.out _).trans (hb'.mono (by omega))); obtain ⟨s0, s1, s2, t0, t1, t2⟩ := HX2.out; clear own' hb')
      go_roundw
      case rel =>
        have hl6 := HLen.out
        have hl7 : (pre ++ [(k : Int) + 1]).length = k + 1 := by simp; omega
        have h3 := HX2.out.set1 (.slice a5 (pre.length + 1) c5)
        have h4 := HO2.out
        rw [hl7] at h4
        rw [hl6] at h3
        refine ⟨k + 1, a5, c5, by go_num, by omega, by rw [hl6]; exact h3, ?_, HW2.out.setCell (p := ⟨q, 1, none⟩) hw0 _⟩
        rw [HT.out, hl6]
        exact ownsRow_setCell_below h4 (a := ⟨q, 1, none⟩) (Nat.lt_succ_self q) _
      case measure => simp [intOf]; omega
    · obtain rfl : k = N := by omega
      have p1 : decide ((k : Int) + 1 ≤ (k : Int)) = false := decide_eq_false (by omega)
      obtain ⟨ga, rfl, hga, hgl, -, -⟩ := own_open how (zsN_len k).symm (by rw [zsN_len]; omega)
      have hm := (silent_fin h1 h5 hw1 hwn).1
      have HM := Lib.hid hm
      have HI := Lib.hid (own_ints how)
      have hww : w.heap.size ≤ wr.heap.size := hbl.size
      have HWW := Lib.hid hww
      have HLn := Lib.hid (zsN_len k)
      clear how hbl hm g0 g1 g2 hlt hk hww
      go_wp2_with fail
      go_region_held3 (fun U => U.cell? ⟨q, 0, none⟩ = some (.int .i64 1) ∧ U.cell? ⟨q, 1, none⟩ = some (.slice (some ⟨ga, 0, none⟩) k c') ∧ U.cell? ⟨q, 2, none⟩ = some (.int .i64 0) ∧ IntsAt U (some ⟨ga, 0, none⟩) (zsN k) ∧ Below wr.heap.size wr U)
        (first | exact ⟨y0, y1, y2, HI.out.drew, Below.drew (Below.refl _ _)⟩ | (obtain ⟨s1, s2, s3, s4, s5⟩ := (‹_ ∧ _ ∧ _ ∧ IntsAt _ _ _ ∧ Below _ _ _›); exact ⟨cell_keep hb s1, cell_keep hb s2, cell_keep hb s3, s4.keep hb, below_on s5 hb⟩) | exact ⟨cell_keep hb y0, cell_keep hb y1, cell_keep hb y2, HI.out.keep hb, hb⟩)
        (first
          | (go_at_call 14; have s5 := (‹_ ∧ _ ∧ _ ∧ IntsAt _ _ _ ∧ Below _ _ _›).2.2.2.2; refine (new_S (w0 := w) (below_on HBr.out s5) 1048576 1048576 (by decide)).mono ?_; rintro e' w2 ⟨g, b, rfl, hs, hb, hg1, hg2⟩; have HCs := Lib.hid hs; have HGe : Hid (wr.heap.size ≤ g ∧ wr.heap.size ≤ b) := Lib.hid ⟨Nat.le_trans s5.size hg1, Nat.le_trans s5.size hg2⟩; clear s5 hs hg1 hg2)
          | (go_at_call 15; have s4 := (‹_ ∧ _ ∧ _ ∧ IntsAt _ _ _ ∧ Below _ _ _›).2.2.2.1; have s5 := (‹_ ∧ _ ∧ _ ∧ IntsAt _ _ _ ∧ Below _ _ _›).2.2.2.2; refine (chopen_is HL.out HCs.out HLn.out HM.out s4 (fun i hi => by have := HGe.out; simp [rowB] at hi; omega) (now := 0) (fitI_of (by omega))).mono ?_; rintro e' w3 ⟨x, f, rfl, hc, hon⟩; have HC := Lib.hid hc; have hb : Below wr.heap.size wr w3 := Only.under s5 hon (fun i hi => by have := HGe.out; simp at hi; rcases hi with rfl | rfl; exact this.1; exact this.2); clear s4 s5 hc hon))
      all_goals
        have HI0 : Hid (SilI w w3 x k who 0 k 1 (5 + k) (newS0 k) f) := Lib.hid ⟨HC.out, newS_ok HM.out (by decide), silent_new hw1, by show 1 ≤ 1; omega, by show (zsN k).length ≤ 5 + k; rw [zsN_len]; omega⟩
        clear HC HCs HGe HI HM HYr HBr y0 y1 y2
        go_wp2_with fail
        obtain ⟨W3, rfl⟩ : ∃ W3 : World, W3 = w3 := ⟨_, rfl⟩
        have hf0 := run_ros0
        go_loopw [12] (fun n12 wr => ∃ (t : Nat) (S : St) (f : Ft), n12 = .int .i64 ((t : Int) + 1) ∧ t ≤ time ∧ SilI w wr x k who t k (t + 1) (5 + 5 * (t + 1)) S f) (fun n12 _ => time + 1 - (intOf n12).toNat)
        case atStart => exact ⟨0, _, f, rfl, Nat.zero_le _, HI0.out.ch, HI0.out.ok, HI0.out.md, HI0.out.kk', by have := HI0.out.mm; omega⟩
        case round =>
          obtain ⟨t, S, f2, rfl, htt, hsi⟩ := hrel
          have HSi := Lib.hid hsi
          clear hsi HI0
          by_cases hlt : t < time
          · have p1 : decide ((t : Int) + 1 ≤ (time : Int)) = true := decide_eq_true (by omega)
            have HTk := Lib.hid (tick_any HL.out HSi.out.ch (HSi.out.ok.mono (show (t : Int) ≤ (t : Int) + 1 by omega)) (by omega) (by have := HSi.out.kk'; omega) (now := (t : Int) + 1) (by omega))
            go_wp2_with (go_at_call 20; refine HTk.out.mono ?_; rintro e' w5 ⟨rfl, f5, hp5, -⟩; have HS5 := Lib.hid (HSi.out.tick h1 h5 hw1 hwn (by omega) hp5); clear hp5)
            go_loopw [13] (fun n13 wi => ∃ (j : Nat) (S : St) (f : Ft), n13 = .int .i64 ((j : Int) + 1) ∧ j ≤ k ∧ SilI w wi x k who (t + 1) j (t + 2) (5 + 5 * (t + 1) + j) S f) (fun n13 _ => k + 1 - (intOf n13).toNat)
            case atStart => exact ⟨0, _, f5, rfl, Nat.zero_le _, HS5.out⟩
            case round =>
              obtain ⟨j, S6, f6, rfl, hjk, hs6⟩ := hrel
              have HS6 := Lib.hid hs6
              clear hs6 HS5 HTk HSi
              by_cases hjt : j < k
              · have p2 : decide ((j : Int) + 1 ≤ (k : Int)) = true := decide_eq_true (by omega)
                have hw2 : IntKind.i64.wrap ((j : Int) + 1 + 1) = (j : Int) + 1 + 1 := IntWalk.i64_in _ (by omega)
                by_cases hwho : (j : Int) + 1 = who
                · have p3 : ((j : Int) + 1 != who) = false := by simp [hwho]
                  have HS7 := Lib.hid (HS6.out.skip hwho)
                  clear hwho
                  go_wp2_with fail
                  go_roundw
                  case rel => exact ⟨j + 1, _, f6, by go_num, by omega, HS7.out⟩
                  case measure => simp [intOf]; omega
                · have p3 : ((j : Int) + 1 != who) = true := by simpa using hwho
                  have HW6 := Lib.hid hwho
                  have hl6 : S6.zs.length ≤ 5 := (mayB_mayL HS6.out.ok.may).2.2
                  clear hwho
                  go_wp2_with fail
                  refine (chroster_is HS6.out.ch rfl rfl rfl rfl hl6).mono ?_
                  rintro e7 w7 ⟨ra, rc, rfl, -, hb7⟩
                  have HS7 := Lib.hid (HS6.out.low hb7)
                  clear hb7
                  go_wp2_with fail
                  refine (step_any HL.out HS7.out.ch HS7.out.ok (by omega) (by have := HS7.out.kk'; omega) (by have := HS7.out.mm; omega) (wd 1 ((j : Int) + 1) S6.e) (now := ((t + 1 : Nat) : Int)) (by omega)).mono ?_
                  rintro e8 w8 ⟨v8, f8, rfl, hp8, -, -⟩
                  have HS8 := Lib.hid (HS7.out.step h5 hjt HW6.out hw1 hwn hp8)
                  clear hp8
                  go_wp2_with fail
                  go_roundw
                  case rel => exact ⟨j + 1, _, f8, by go_num, by omega, HS8.out⟩
                  case measure => simp [intOf]; omega
              · obtain rfl : j = k := by omega
                have p2 : decide ((j : Int) + 1 ≤ (j : Int)) = false := decide_eq_false (by omega)
                have hw2 : IntKind.i64.wrap ((t : Int) + 1 + 1) = (t : Int) + 1 + 1 := IntWalk.i64_in _ (by omega)
                go_wp2_with fail
                go_roundw
                case rel => exact ⟨t + 1, S6, f6, by go_num, by omega, HS6.out.ch, HS6.out.ok, HS6.out.md, HS6.out.kk', by have := HS6.out.mm; omega⟩
                case measure => simp [intOf]; omega
          · obtain rfl : t = time := by omega
            have p1 : decide ((t : Int) + 1 ≤ (t : Int)) = false := decide_eq_false (by omega)
            have HE := Lib.hid (silent_end h1 hw1 hwn HSi.out.md)
            have hl6 : S.zs.length ≤ 5 := (mayB_mayL HSi.out.ok.may).2.2
            obtain ⟨ix, hix⟩ : ∃ ix, idx S.zs who = ix := ⟨_, rfl⟩
            have HIx := Lib.hid hix
            rw [hix] at HE
            obtain ⟨ch, hch⟩ : ∃ ch, decide (0 < S.e2) = ch := ⟨_, rfl⟩
            have HCh := Lib.hid hch
            rw [hch] at HE
            obtain ⟨lo, hlo⟩ : ∃ lo, (S.lost && !ch) = lo := ⟨_, rfl⟩
            have HLo : Hid ((S.lost && !decide (0 < S.e2)) = lo) := Lib.hid (by rw [hch]; exact hlo)
            rw [hlo] at HE
            clear hix hch hlo
            have HSp : Hid (∀ W a c, IntsAt W a S.zs → Calls Tryz.prog 28 #[.agg #[.int .i64 S.e, .slice a S.zs.length c, .int .i64 S.nw], .int .i64 who] W fun e w' => e = .returned (.int .i64 ix) ∧ Below W.heap.size W w') := Lib.hid (fun W a c hz => by rw [← HIx.out]; exact spot_any S.e S.nw who a c S.zs W (by omega) hz)
            rcases Nat.lt_or_ge k 2 with hk1 | hk2
            · obtain rfl : k = 1 := by omega
              obtain ⟨rfl, e2⟩ := HE.out.1 rfl
              have HE2 := Lib.hid e2
              clear HE e2
              have q9 : (lo == decide (9 < (t : Int))) = true := by rw [HE2.out]; simp
              go_wp2_with (first
                | (go_at_call 24; refine (chroster_is HSi.out.ch rfl rfl rfl rfl hl6).mono ?_; rintro e' w' ⟨ra, rc, rfl, hown, hb⟩; have HSi := Lib.hid (HSi.out.low hb); have HZa := Lib.hid (own_ints hown); clear hb hown)
                | (go_at_call 28; refine (HSp.out _ _ _ HZa.out).mono ?_; rintro e' w' ⟨rfl, hb⟩; have HSi := Lib.hid (HSi.out.low hb); clear hb)
                | (go_at_call 27; refine (lost_is HSi.out.ch HLo.out).mono ?_; rintro e' w' ⟨rfl, rfl⟩))
              go_ret
              exact ⟨rfl, HSi.out.ch.below⟩
            · obtain ⟨e1, e2, e3⟩ := HE.out.2 hk2
              subst e3
              have p4 : ((k : Int) == 1) = false := by simp; omega
              have HE1 := Lib.hid e1
              have HE2 := Lib.hid e2
              obtain ⟨gn, hgn⟩ : ∃ gn, decide (ix < 0) = gn := ⟨_, rfl⟩
              have HGn := Lib.hid hgn
              rw [hgn] at HE1
              have q9 : ((gn || ch) == decide (9 < (t : Int))) = true := by rw [HE1.out]; simp
              have q10 : (decide ((t : Int) < 17) || gn) = true := by
                rcases HE2.out with h | h
                · simp [h]
                · rw [← HGn.out]; simp [h]
              clear HE e1 e2 HE1 HE2
              obtain ⟨g9, h9⟩ : ∃ g9, decide (9 < (t : Int)) = g9 := ⟨_, rfl⟩
              obtain ⟨g17, h17⟩ : ∃ g17, decide ((t : Int) < 17) = g17 := ⟨_, rfl⟩
              rw [h9] at q9
              rw [h17] at q10
              have HSq := Lib.hid q9
              have HSq2 := Lib.hid q10
              clear q9 q10
              cases gn <;> cases ch <;> cases g9 <;> cases g17 <;> first | (exfalso; have h := HSq.out; simp at h; done) | (exfalso; have h := HSq2.out; simp at h; done) | skip
              all_goals
                go_wp2_with (first
                  | (go_at_call 24; refine (chroster_is HSi.out.ch rfl rfl rfl rfl hl6).mono ?_; rintro e' w' ⟨ra, rc, rfl, hown, hb⟩; have HSi := Lib.hid (HSi.out.low hb); have HZa := Lib.hid (own_ints hown); clear hb hown)
                  | (go_at_call 28; refine (HSp.out _ _ _ HZa.out).mono ?_; rintro e' w' ⟨rfl, hb⟩; have HSi := Lib.hid (HSi.out.low hb); clear hb)
                  | (go_at_call 25; refine (changing_is HSi.out.ch HCh.out).mono ?_; rintro e' w' ⟨rfl, rfl⟩)
                  | (go_at_call 27; refine (lost_is HSi.out.ch HLo.out).mono ?_; rintro e' w' ⟨rfl, rfl⟩))
                go_ret
                exact ⟨rfl, HSi.out.ch.below⟩
/-- The law, whatever comes in. -/
theorem chiefSilent_walk (n who time : Int) (w : World) (LA : Laid w) : Calls Tryz.prog 5 #[.int .i64 n, .int .i64 who, .int .i64 time] w fun e w' => e = .returned (.bool true) ∧ Below w.heap.size w w' := by
  by_cases h : 1 ≤ n ∧ n ≤ 5 ∧ 1 ≤ who ∧ who ≤ n ∧ 0 ≤ time ∧ time ≤ 40
  · obtain ⟨N, rfl⟩ : ∃ N : Nat, n = N := ⟨n.toNat, by omega⟩
    obtain ⟨T, rfl⟩ : ∃ T : Nat, time = T := ⟨time.toNat, by omega⟩
    exact chiefSilent_yes N who T w LA (by omega) (by omega) h.2.2.1 h.2.2.2.1 (by omega)
  · exact chiefSilent_no n who time w LA h
end Go.Proofs.YthiphdcbboapkaaGreatDoor
namespace Go.Proofs.YthiphdcbboapkaaGreatDoor
open Go.RowKit Go.Maps

set_option maxRecDepth 100000
theorem stepS_stay {S : St} {kind fr tt ep now : Int} (h : S.nw = 0) : (stepS S kind fr tt ep now).e2 = S.e2 ∧ (stepS S kind fr tt ep now).zs = S.zs ∧ (stepS S kind fr tt ep now).nw = 0 ∧ (stepS S kind fr tt ep now).e = S.e := by
  have hb : (beatS S fr now).e2 = S.e2 ∧ (beatS S fr now).zs = S.zs ∧ (beatS S fr now).nw = 0 ∧ (beatS S fr now).e = S.e := by
    unfold beatS; split <;> exact ⟨rfl, rfl, h, rfl⟩
  unfold stepS
  split
  · exact ⟨rfl, rfl, h, rfl⟩
  · split
    · split
      · exact ⟨rfl, rfl, h, rfl⟩
      · exact hb
    · split
      · exact ⟨rfl, rfl, rfl, rfl⟩
      · exact ⟨rfl, rfl, h, rfl⟩
def wS : St := newS 2 [1, 2, 3] 0
theorem wS_lease (kind fr tt : Int) : leaseB wS kind fr tt = decide (tt = 0 ∧ kind = 1 ∧ 1 ≤ fr ∧ fr ≤ 3) := by
  unfold leaseB
  have h : (0 ≤ idx wS.zs fr) ↔ (fr = 1 ∨ fr = 2 ∨ fr = 3) := by
    rw [idx_yes]
    show fr ∈ [1, 2, 3] ↔ _
    simp
  have h2 : ¬ 0 < wS.e2 := by decide
  apply Bool.eq_iff_iff.2
  simp only [decide_eq_true_eq, h]
  constructor
  · rintro ⟨a, b, c, d, e, f⟩; omega
  · rintro ⟨a, b, c, d⟩; exact ⟨a, by omega, by omega, b, by omega, h2⟩
structure WAll (w : World) (q : Nat) (W : Wd) : Prop where
  cs : ∀ (i : Nat) (v : Value), (wordC W)[i]? = some v → w.cell? ⟨q, i, none⟩ = some v
theorem WAll.new (w : World) (W : Wd) (ty : TypeId) : WAll (w.alloc (.cells (wordC W) ty)) w.heap.size W := ⟨fun i _ hv => (World.cell?_alloc_new w _ ty i).trans hv⟩
theorem WAll.keepO {S : List Nat} {w w' : World} {q : Nat} {W : Wd} (h : WAll w q W) (k : Only S w w') (hq : q ∉ S) : WAll w' q W := ⟨fun i v hv => k.cellK (p := ⟨q, i, none⟩) hq (h.cs i v hv)⟩
theorem WAll.low {w w' : World} {q : Nat} {W : Wd} (h : WAll w q W) (k : Below w.heap.size w w') : WAll w' q W := h.keepO (S := []) (Only.of_below k) (by simp)
theorem WAll.wat {w : World} {q : Nat} {W : Wd} (h : WAll w q W) : WAt w q W := ⟨h.cs 0 _ rfl, h.cs 1 _ rfl, h.cs 2 _ rfl, h.cs 3 _ rfl⟩
theorem WAll.rng {w : World} {q : Nat} {W : Wd} (h : WAll w q W) : w.rangeAt q 0 (wordC W).toList := fun j v hv => by rw [Nat.zero_add]; exact h.cs j v (by simpa using hv)
theorem wordI : (Tryz.prog.info? 46).map (·.size) = some 21 := by kernel_rfl
set_option maxHeartbeats 12800000 in
theorem chiefWords_walk (W : Wd) (now : Int) (w : World) (LA : Laid w) : Calls Tryz.prog 11 #[wordV W, .int .i64 now] w fun e w' => e = .returned (.bool true) ∧ Below w.heap.size w w' := by
  have HL := Lib.hid LA
  have HA := Lib.hid (WAll.new w W 46)
  have HB0 := Lib.hid (below_alloc (Below.refl w.heap.size w) (.cells (wordC W) 46))
  have hs : w.heap.size < (w.alloc (.cells (wordC W) 46)).heap.size := by simp
  have HS := Lib.hid hs
  clear LA hs
  unfold wordC at HA HB0 HS
  go_enter Tryz.func11, Tryz.ntmps11
  go_upto_region 1 with fail
  generalize w.alloc _ = V at HA HB0 HS ⊢
  obtain ⟨rb, hrb⟩ : ∃ rb, w.heap.size = rb := ⟨_, rfl⟩
  have HRB := Lib.hid hrb
  rw [hrb] at HA HS ⊢
  clear hrb
  have HA' : Hid (WAll V rb W) := HA
  clear HA
  go_wp2_with fail
  refine (begun10_any _ (HL.out.keep HB0.out)).mono ?_
  rintro e w1 ⟨rfl, hb⟩
  have HA1 := Lib.hid (HA'.out.low hb)
  have HB1 := Lib.hid (below_on HB0.out hb)
  have HS1 : Hid (rb < w1.heap.size) := Lib.hid (Nat.lt_of_lt_of_le HS.out hb.size)
  clear hb HA' HB0 HS
  go_wp2_with fail
  refine (new_S (w0 := w) HB1.out 1048576 1048576 (by decide)).mono ?_
  rintro e w2 ⟨g, b, rfl, hs, hb, hg, hbb⟩
  have HCs := Lib.hid hs
  have HA2 := Lib.hid (HA1.out.low hb)
  have HGe : Hid (rb < g ∧ rb < b) := Lib.hid ⟨by have := HS1.out; omega, by have := HS1.out; omega⟩
  have HSz2 : Hid (w1.heap.size ≤ w2.heap.size) := Lib.hid hb.size
  clear hs hb hg hbb
  go_wp2_with fail
  have hb3 := below_alloc (Below.refl w2.heap.size w2) (.cells #[.int .i64 1, .int .i64 2, .int .i64 3] 3)
  refine (chopen_fresh HL.out (HCs.out.low hb3) (by decide) (by decide) (zs := [1, 2, 3]) (e := 2) (by decide) (ints_litW w2 [1, 2, 3] 3) (fun q hq => by
    have h1 := HCs.out.1.ltg
    have h2 := HCs.out.1.ltb
    simp [rowB] at hq
    omega) (now := 0) (fitI_of (by omega))).mono ?_
  rintro e w3 ⟨x, f, rfl, hc, -, ho, hft⟩
  have HC : Hid (CH w w3 x wS f) := Lib.hid hc
  have HA3 := Lib.hid ((HA2.out.low hb3).keepO ho (by have := HGe.out; simp; omega))
  have HNF : Hid (∀ i ∈ foot x f, ¬ (i = rb)) := Lib.hid (fun i hi e => by
    rcases hft i hi with h | h | h
    · have := HGe.out; omega
    · have := HGe.out; omega
    · have h1 := HCs.out.2.1.size
      have h2 := HS1.out
      have h3 := HSz2.out
      simp at h; omega)
  clear hc ho hft hb3 HA2 HCs
  by_cases hnow : 0 ≤ now ∧ now ≤ 1073741824
  · have q1 : decide (now < 0) = false := by simp; omega
    have q2 : decide (1073741824 < now) = false := by simp; omega
    have k0 : w3.cell? ⟨rb, 0, none⟩ = some (Value.int .i64 W.kind) := HA3.out.cs 0 _ rfl
    have k1 : w3.cell? ⟨rb, 1, none⟩ = some (Value.int .i64 W.fr) := HA3.out.cs 1 _ rfl
    have k2 : w3.cell? ⟨rb, 2, none⟩ = some (Value.int .i64 W.tt) := HA3.out.cs 2 _ rfl
    have HRng := Lib.hid HA3.out.rng
    have HNow := Lib.hid hnow
    clear hnow
    go_wp2_with (refine wpList_load_mid rfl 46 _ rfl rb 0 rfl (wordC W).toList _ HRng.out Tryz.underlying46 rfl wordI ?_)
    refine (step_any HL.out HC.out ((newS_ok (by decide) (by decide) : OkS wS 0).mono HNow.out.1) (by have := HNow.out.2; omega) (by decide) (by decide) W (now := now) ⟨HNow.out.1, Int.le_refl _⟩).mono ?_
    rintro e w4 ⟨v, f4, rfl, hp, -, ht⟩
    have hnf : rb ∉ foot x f := fun hm => HNF.out rb hm rfl
    have hst := stepS_stay (S := wS) (kind := W.kind) (fr := W.fr) (tt := W.tt) (ep := W.ep) (now := now) (by decide)
    have HC4 := Lib.hid hp.ch
    have hk0 : w4.cell? ⟨rb, 0, none⟩ = some (.int .i64 W.kind) := hp.only.cellK (p := ⟨rb, 0, none⟩) (fun h => hnf (own_foot h)) k0
    have hk1 : w4.cell? ⟨rb, 1, none⟩ = some (.int .i64 W.fr) := hp.only.cellK (p := ⟨rb, 1, none⟩) (fun h => hnf (own_foot h)) k1
    have hk2 : w4.cell? ⟨rb, 2, none⟩ = some (.int .i64 W.tt) := hp.only.cellK (p := ⟨rb, 2, none⟩) (fun h => hnf (own_foot h)) k2
    have HSt := Lib.hid hst
    have hch : decide (0 < (stepS wS W.kind W.fr W.tt W.ep now).e2) = false := by rw [hst.1]; decide
    have hzs : (stepS wS W.kind W.fr W.tt W.ep now).zs = [1, 2, 3] := hst.2.1.trans rfl
    have hlb := wS_lease W.kind W.fr W.tt
    have hmm : (∃ q, v = .slice (some ⟨q, 0, none⟩) 1 1 ∧ W.tt = 0 ∧ W.kind = 1 ∧ 1 ≤ W.fr ∧ W.fr ≤ 3) ∨ (v = .slice none 0 0 ∧ ¬ (W.tt = 0 ∧ W.kind = 1 ∧ 1 ≤ W.fr ∧ W.fr ≤ 3)) := by
      rcases ht with ⟨h, rfl⟩ | ⟨h, q, a, c, rfl, -⟩
      · rw [hlb] at h; exact Or.inr ⟨rfl, by simpa using h⟩
      · rw [hlb] at h; exact Or.inl ⟨q, rfl, by simpa using h⟩
    have hf2 := run_ros2
    clear k0 k1 k2 hp ht hnf hst hlb q1 q2 HC HA3
    have hcase : (∃ q, v = .slice (some ⟨q, 0, none⟩) 1 1 ∧ (W.tt == 0) = true ∧ (W.kind == 1) = true ∧ decide (1 ≤ W.fr) = true ∧ decide (W.fr ≤ 3) = true) ∨ (v = .slice none 0 0 ∧ ((W.tt == 0) = false ∨ ((W.tt == 0) = true ∧ (W.kind == 1) = false) ∨ ((W.tt == 0) = true ∧ (W.kind == 1) = true ∧ decide (1 ≤ W.fr) = false) ∨ ((W.tt == 0) = true ∧ (W.kind == 1) = true ∧ decide (1 ≤ W.fr) = true ∧ decide (W.fr ≤ 3) = false))) := by
      rcases hmm with ⟨q, h, a, b, c, d⟩ | ⟨h, n⟩
      · exact Or.inl ⟨q, h, by simp [a], by simp [b], by simp [c], by simp [d]⟩
      · refine Or.inr ⟨h, ?_⟩
        by_cases a : W.tt = 0
        · by_cases b : W.kind = 1
          · by_cases c : 1 ≤ W.fr
            · exact Or.inr (Or.inr (Or.inr ⟨by simp [a], by simp [b], by simp [c], by simp; omega⟩))
            · exact Or.inr (Or.inr (Or.inl ⟨by simp [a], by simp [b], by simp; omega⟩))
          · exact Or.inr (Or.inl ⟨by simp [a], by simp [b]⟩)
        · exact Or.inl (by simp [a])
    clear hmm
    rcases hcase with ⟨q, rfl, p0, p1, p2, p3⟩ | ⟨rfl, p0 | ⟨p0, p1⟩ | ⟨p0, p1, p2⟩ | ⟨p0, p1, p2, p3⟩⟩
    all_goals
      go_wp2_with (first
        | (go_at_call 25; refine (changing_is HC4.out hch).mono ?_; rintro e' w' ⟨rfl, rfl⟩)
        | (go_at_call 24; refine (chroster_is HC4.out HSt.out.2.2.2 hzs HSt.out.2.2.1 (n := 3) rfl (by decide)).mono ?_; rintro e' w' ⟨ra, rc, rfl, -, hb⟩; have HC4 := Lib.hid (HC4.out.low hb); clear hb))
      go_ret
      exact ⟨rfl, HC4.out.below⟩
  · have hq : decide (now < 0) = true ∨ (decide (now < 0) = false ∧ decide (1073741824 < now) = true) := by
      simp only [decide_eq_true_eq, decide_eq_false_iff_not]; omega
    clear hnow HA3
    rcases hq with q1 | ⟨q1, q2⟩
    all_goals
      go_wp2_with fail
      go_ret
      exact ⟨rfl, HC.out.below⟩
end Go.Proofs.YthiphdcbboapkaaGreatDoor
