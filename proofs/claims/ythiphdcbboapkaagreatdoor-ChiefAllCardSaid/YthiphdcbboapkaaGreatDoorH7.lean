/- ChiefOwn: the walk. ChiefSilent, plain: who is silent goes. ChiefSilent: the walk. ChiefWords: the walk. ChiefLast, plain: the last one that has all never goes. ChiefLast: the walk. ChiefLeases: the walk. -/
import Derived.Test.YthiphdcbboapkaaGreatDoorH6
import Derived.Test.YthiphdcbboapkaaGreatDoorH3
import Derived.Deep.MidRow
import Derived.Test.YthiphdcbboapkaaGreatDoorF2
import Derived.Deep.CutBlock
import Derived.Deep.CutRange
import Derived.Laws.IdiomCopy
namespace Go.Proofs.YthiphdcbboapkaaGreatDoor
open Go.RowKit Go.Maps

set_option maxRecDepth 100000
/-- A row of one's own may be written. -/
theorem own_open {W : World} {base : Nat} {a : Option Addr} {n c : Nat} {zs : List Int} (h : OwnI W base (.slice a n c) zs) (hn : n = zs.length) (hl : 0 < zs.length) :
    ∃ g, a = some ⟨g, 0, none⟩ ∧ base ≤ g ∧ g < W.heap.size ∧ (∀ k, k < zs.length → W.cell? ⟨g, k, none⟩ = some (.int .i64 (nthI zs k))) ∧ ∀ k, k < zs.length → W.frozen? ⟨g, k, none⟩ = false := by
  subst hn
  have hi := own_ints h
  obtain ⟨_, h2⟩ := h
  rcases h2 with ⟨_, h3⟩ | ⟨g, cap, cur, h3, h4, h5, h6, h7, h8, h9⟩
  · omega
  · have hg : g < W.heap.size := (Array.getElem?_eq_some_iff.1 h5).1
    simp only [Value.slice.injEq] at h3
    obtain ⟨rfl, -, -⟩ := h3
    obtain ⟨b, off, e, -, hc⟩ := hi.form hl
    simp only [Option.some.injEq, Addr.mk.injEq, and_true] at e
    obtain ⟨rfl, rfl⟩ := e
    refine ⟨g, rfl, h4, hg, fun k hk => by have := hc k hk; rwa [Nat.zero_add] at this, fun k hk => ?_⟩
    unfold World.frozen?
    simp only [h5]
    simp
set_option maxHeartbeats 12800000 in
theorem chiefOwn_walk (w : World) (LA : Laid w) : Calls Tryz.prog 10 #[] w fun e w' => e = .returned (.bool true) ∧ Below w.heap.size w w' := by
  have HL := Lib.hid LA
  clear LA
  go_enter Tryz.func10, Tryz.ntmps10
  go_wp2_with fail
  refine (begun10_any _ HL.out).mono ?_
  rintro e w0 ⟨rfl, hb0⟩
  have HB0 := Lib.hid hb0
  clear hb0
  go_upto_region 5 with fail
  have hb1 := below_alloc (below_alloc (Below.refl w0.heap.size w0) (.cells #[.int .i64 1, .int .i64 2, .int .i64 3] 3)) (.cells #[.int .i64 2, .slice (some ⟨w0.heap.size, 0, none⟩) 3 3, .int .i64 0] 24)
  have HX := Lib.hid (B3.new (w0.alloc (.cells #[.int .i64 1, .int .i64 2, .int .i64 3] 3)) (.int .i64 2) (.slice (some ⟨w0.heap.size, 0, none⟩) 3 3) (.int .i64 0) 24)
  have hz0 : IntsAt (w0.alloc (.cells #[.int .i64 1, .int .i64 2, .int .i64 3] 3)) (some ⟨w0.heap.size, 0, none⟩) [1, 2, 3] := ints_litW w0 [1, 2, 3] 3
  have HZ := Lib.hid (hz0.keep (below_alloc (Below.refl _ _) (.cells #[.int .i64 2, .slice (some ⟨w0.heap.size, 0, none⟩) 3 3, .int .i64 0] 24)))
  have hfz : (w0.alloc (.cells #[.int .i64 1, .int .i64 2, .int .i64 3] 3)).frozen? ⟨w0.heap.size, 0, none⟩ = false := World.frozen?_alloc_new _ _ _ _
  have hcz : (w0.alloc (.cells #[.int .i64 1, .int .i64 2, .int .i64 3] 3)).cell? ⟨w0.heap.size, 0, none⟩ = some (.int .i64 1) := World.cell?_alloc_new _ _ _ 0
  have HFz := Lib.hid (frozen_keep (below_alloc (Below.refl _ _) (.cells #[.int .i64 2, .slice (some ⟨w0.heap.size, 0, none⟩) 3 3, .int .i64 0] 24)) hcz hfz)
  have HCz := Lib.hid (cell_keep (below_alloc (Below.refl _ _) (.cells #[.int .i64 2, .slice (some ⟨w0.heap.size, 0, none⟩) 3 3, .int .i64 0] 24)) hcz)
  have HB := Lib.hid (below_on HB0.out hb1)
  have hsz : ((w0.alloc (.cells #[.int .i64 1, .int .i64 2, .int .i64 3] 3)).alloc (.cells #[.int .i64 2, .slice (some ⟨w0.heap.size, 0, none⟩) 3 3, .int .i64 0] 24)).heap.size = w0.heap.size + 2 := by simp
  rw [World.size_alloc] at HX
  have HSz := Lib.hid hsz
  have HW0 : Hid (w.heap.size ≤ w0.heap.size) := Lib.hid HB0.out.size
  clear hb1 hz0 hfz hcz hsz HB0
  generalize (w0.alloc (.cells #[.int .i64 1, .int .i64 2, .int .i64 3] 3)).alloc (.cells #[.int .i64 2, .slice (some ⟨w0.heap.size, 0, none⟩) 3 3, .int .i64 0] 24) = V at HX HZ HFz HCz HB HSz ⊢
  generalize w0.heap.size = rr at HX HZ HFz HCz HSz HW0 ⊢
  obtain ⟨x0, x1, x2, -⟩ := HX.out
  have HS0 : Hid (B3 V.drew (rr + 1) (.int .i64 2) (.slice (some ⟨rr, 0, none⟩) 3 3) (.int .i64 0) ∧ IntsAt V.drew (some ⟨rr, 0, none⟩) [1, 2, 3] ∧ Below V.heap.size V V.drew) := Lib.hid ⟨HX.out, HZ.out, Below.drew (Below.refl _ _)⟩
  go_region_held3 (fun U => U.cell? ⟨rr + 1, 0, none⟩ = some (.int .i64 2) ∧ U.cell? ⟨rr + 1, 1, none⟩ = some (.slice (some ⟨rr, 0, none⟩) 3 3) ∧ U.cell? ⟨rr + 1, 2, none⟩ = some (.int .i64 0) ∧ IntsAt U (some ⟨rr, 0, none⟩) [1, 2, 3] ∧ Below V.heap.size V U)
    (first | exact ⟨x0, x1, x2, HS0.out.2.1, HS0.out.2.2⟩ | (obtain ⟨s1, s2, s3, s4, s5⟩ := (‹_ ∧ _ ∧ _ ∧ IntsAt _ _ _ ∧ Below _ _ _›); exact ⟨cell_keep hb s1, cell_keep hb s2, cell_keep hb s3, s4.keep hb, below_on s5 hb⟩) | exact ⟨cell_keep hb x0, cell_keep hb x1, cell_keep hb x2, HZ.out.keep hb, hb⟩)
    (first
      | (go_at_call 14; have s5 := (‹_ ∧ _ ∧ _ ∧ IntsAt _ _ _ ∧ Below _ _ _›).2.2.2.2; refine (new_S (w0 := w) (below_on HB.out s5) 1048576 1048576 (by decide)).mono ?_; rintro e' w2 ⟨g, b, rfl, hs, hb, hg1, hg2⟩; have HCs := Lib.hid hs; have HGe : Hid (V.heap.size ≤ g ∧ V.heap.size ≤ b) := Lib.hid ⟨Nat.le_trans s5.size hg1, Nat.le_trans s5.size hg2⟩; clear s5 hs hg1 hg2)
      | (go_at_call 15; have s4 := (‹_ ∧ _ ∧ _ ∧ IntsAt _ _ _ ∧ Below _ _ _›).2.2.2.1; have s5 := (‹_ ∧ _ ∧ _ ∧ IntsAt _ _ _ ∧ Below _ _ _›).2.2.2.2; refine (chopen_fresh HL.out HCs.out (by decide) (by decide) (e := 2) (zs := [1, 2, 3]) (by decide) s4 (fun q hq => by have := HGe.out; have := HSz.out; simp [rowB] at hq; omega) (now := 0) (fitI_of (by omega))).mono ?_; rintro e' w3 ⟨x, f, rfl, hc, hfg, hon, hft⟩; have HC := Lib.hid hc; have hb : Below V.heap.size V w3 := Only.under s5 hon (fun i hi => by have := HGe.out; simp at hi; rcases hi with rfl | rfl; exact this.1; exact this.2); have HBO := Lib.hid hb; have HFt := Lib.hid hft; have HVz := Lib.hid s5.size; clear s4 s5 hc hfg hon hft))
  all_goals
    have hb : Below V.heap.size V w3 := HBO.out
    have HXw := Lib.hid (HX.out.keep hb)
    have c0 := cell_keep hb HCz.out
    have z0 := frozen_keep hb HCz.out HFz.out
    have HCH := Lib.hid HC.out
    have hrx : ∀ q ∈ foot x f, ¬ (q = rr) := fun q hq e => by
      have h1 := HSz.out
      have h2 := HGe.out
      have h3 := HVz.out
      rcases HFt.out q hq with h | h | h
      · omega
      · omega
      · omega
    have HRx := Lib.hid hrx
    obtain ⟨x0, x1, x2, -⟩ := HXw.out
    clear hb hrx
    go_upto_region 9 with fail
    have HC4 : Hid (CH w (w3.setCell ⟨rr, 0, none⟩ (.int .i64 5)) x (newS 2 [1, 2, 3] 0) f) := Lib.hid (HCH.out.keep (only_one 0 _) (fun q hq hm => by simp at hm; exact HRx.out q hq hm) (fun i hi => by simp at hi; have := HW0.out; omega))
    clear x0 x1 x2 c0 z0 HC HCH HX HZ HCz HFz HXw HS0 HBO HB
    generalize w3.setCell ⟨rr, 0, none⟩ (.int .i64 5) = W4 at HC4 ⊢
    go_wp2_with fail
    refine (chroster_is HC4.out (e := 2) (nw := 0) (zs := [1, 2, 3]) rfl rfl rfl (n := 3) rfl (by decide)).mono ?_
    rintro e5 w5 ⟨a5, c5, rfl, hown, hb⟩
    obtain ⟨g5, rfl, hg5, hl5, hc5, hf5⟩ := own_open hown rfl (by decide)
    have HC5 := Lib.hid (HC4.out.low hb)
    have HNg : Hid (∀ q ∈ foot x f, ¬ (q = g5)) := Lib.hid (fun q hq e => by have := HC4.out.lt q hq; omega)
    have hwg : Hid (w.heap.size ≤ g5) := Lib.hid (Nat.le_trans HC4.out.below.size hg5)
    have hb5 := below_alloc (Below.refl w5.heap.size w5) (.cells #[.int .i64 2, .slice (some ⟨g5, 0, none⟩) 3 c5, .int .i64 0] 24)
    have u1 := cell_keep hb5 (hc5 1 (by decide))
    have v1 := frozen_keep hb5 (hc5 1 (by decide)) (hf5 1 (by decide))
    have HC6 := Lib.hid (HC5.out.low hb5)
    have HX6 := Lib.hid (B3.new w5 (.int .i64 2) (.slice (some ⟨g5, 0, none⟩) 3 c5) (.int .i64 0) 24)
    clear hown hb hc5 hf5 hb5 HC4 HC5
    go_upto_region 10 with fail
    generalize w5.alloc (.cells #[.int .i64 2, .slice (some ⟨g5, 0, none⟩) 3 c5, .int .i64 0] 24) = W6 at u1 v1 HC6 HX6 ⊢
    generalize w5.heap.size = r5 at HX6 ⊢
    obtain ⟨y0, y1, y2, -⟩ := HX6.out
    have HC7 : Hid (CH w (W6.setCell ⟨g5, 1, none⟩ (.int .i64 4)) x (newS 2 [1, 2, 3] 0) f) := Lib.hid (HC6.out.keep (only_one 1 _) (fun q hq hm => by simp at hm; exact HNg.out q hq hm) (fun i hi => by simp at hi; have := hwg.out; omega))
    go_upto_region 11 with fail
    clear u1 v1 y0 y1 y2 HX6 HC6
    generalize W6.setCell ⟨g5, 1, none⟩ (.int .i64 4) = W7 at HC7 ⊢
    go_wp2_with fail
    refine (step_beat2 HC7.out (by decide) rfl (by decide) (wd 1 2 0) rfl (by decide) (by decide) rfl (by decide) (by decide) (now := 1) (by decide)).mono ?_
    rintro e8 w8 ⟨q, a8, c8, rfl, hp, hla, hq, hown⟩
    obtain ⟨g8, rfl, hg8, hl8, hc8, hf8⟩ := own_open hown rfl (by decide)
    have l10 : w8.cell? ⟨q, 10, none⟩ = some (.slice (some ⟨g8, 0, none⟩) 3 c8) := hla.cs 10 _ rfl
    have u2 : w8.cell? ⟨g8, 2, none⟩ = some (.int .i64 3) := hc8 2 (by decide)
    have v2 := hf8 2 (by decide)
    have HC8 : Hid (CH w w8 x (beatS (newS 2 [1, 2, 3] 0) 2 1) f) := Lib.hid hp.ch
    have HC9 : Hid (CH w (w8.setCell ⟨g8, 2, none⟩ (.int .i64 5)) x (beatS (newS 2 [1, 2, 3] 0) 2 1) f) := Lib.hid (hp.ch.keep (only_one 2 _) (fun i hi hm => by
      have h1 := HC7.out.lt i hi
      simp at hm; omega) (fun i hi => by
      have h1 := HC7.out.below.size
      simp at hi; omega))
    clear hp hla hown hc8 hf8 hq HC7 HC8
    go_upto_region 15 with fail
    clear l10 u2 v2
    generalize w8.setCell ⟨g8, 2, none⟩ (.int .i64 5) = W9 at HC9 ⊢
    go_wp2_with fail
    refine (chroster_is HC9.out (e := 2) (nw := 0) (zs := [1, 2, 3]) rfl rfl rfl (n := 3) rfl (by decide)).mono ?_
    rintro e10 w10 ⟨a10, c10, rfl, hown, hb⟩
    obtain ⟨g10, rfl, hg10, hl10, hc10, -⟩ := own_open hown rfl (by decide)
    have hbb := below_alloc (Below.refl w10.heap.size w10) (.cells #[.int .i64 2, .slice (some ⟨g10, 0, none⟩) 3 c10, .int .i64 0] 24)
    have m0 : _ = some (Value.int .i64 1) := cell_keep hbb (hc10 0 (by decide))
    have m1 : _ = some (Value.int .i64 2) := cell_keep hbb (hc10 1 (by decide))
    have m2 : _ = some (Value.int .i64 3) := cell_keep hbb (hc10 2 (by decide))
    have HX := Lib.hid (B3.new w10 (.int .i64 2) (.slice (some ⟨g10, 0, none⟩) 3 c10) (.int .i64 0) 24)
    have HE := Lib.hid ((HC9.out.low hb).low hbb).below
    clear hown hb hc10 hbb HC9
    go_upto_region 16 with fail
    generalize w10.alloc (.cells #[.int .i64 2, .slice (some ⟨g10, 0, none⟩) 3 c10, .int .i64 0] 24) = W11 at m0 m1 m2 HX HE ⊢
    generalize w10.heap.size = r10 at HX ⊢
    obtain ⟨y0, y1, y2, -⟩ := HX.out
    go_wp2_with fail
    go_ret
    exact ⟨rfl, HE.out⟩
end Go.Proofs.YthiphdcbboapkaaGreatDoor
namespace Go.Proofs.YthiphdcbboapkaaGreatDoor
open Go.RowKit

def zsN (n : Nat) : List Int := (List.range n).map fun (k : Nat) => ((k : Int) + 1)
def zsO (n : Nat) (who : Int) : List Int := (zsN n).filter fun i => decide (i ≠ who)
theorem zsN_mem {n : Nat} {i : Int} : i ∈ zsN n ↔ 1 ≤ i ∧ i ≤ n := by
  unfold zsN
  simp only [List.mem_map, List.mem_range]
  constructor
  · rintro ⟨a, h, rfl⟩; omega
  · intro h; exact ⟨(i - 1).toNat, by omega, by omega⟩
theorem zsO_mem {n : Nat} {who i : Int} : i ∈ zsO n who ↔ (1 ≤ i ∧ i ≤ n) ∧ i ≠ who := by
  unfold zsO
  rw [List.mem_filter, zsN_mem]
  simp
theorem zsN_len (n : Nat) : (zsN n).length = n := by simp [zsN]
theorem zsN_snoc (n : Nat) : zsN (n + 1) = zsN n ++ [(n : Int) + 1] := by simp [zsN, List.range_succ]
theorem silent_fin {n : Nat} {who : Int} (h1 : 1 ≤ n) (h5 : n ≤ 5) (hw : 1 ≤ who) (hn : who ≤ n) : mayB 1 (zsN n) 0 = true ∧ (n = 1 → (dropF 1 (zsN n) 0 who).2.2.2 = false) ∧ (2 ≤ n → dropF 1 (zsN n) 0 who = (2, zsO n who, 0, true)) := by
  have hnn : n = 1 ∨ n = 2 ∨ n = 3 ∨ n = 4 ∨ n = 5 := by omega
  have hww : who = 1 ∨ who = 2 ∨ who = 3 ∨ who = 4 ∨ who = 5 := by omega
  rcases hnn with rfl | rfl | rfl | rfl | rfl <;> rcases hww with rfl | rfl | rfl | rfl | rfl <;> first | (exfalso; omega) | decide
theorem mute_none {zs : List Int} {hd : Int → Int} {now : Int} (h : ∀ i ∈ zs, now - hd i ≤ 9) : muteL zs hd now = 0 := by
  induction zs with
  | nil => rfl
  | cons x r ih =>
    have h1 := h x (by simp)
    show (if 9 < now - hd x then x else muteL r hd now) = 0
    rw [if_neg (by omega)]
    exact ih (fun i hi => h i (by simp [hi]))
theorem mute_one {zs : List Int} {hd : Int → Int} {now who : Int} (h : ∀ i ∈ zs, i ≠ who → now - hd i ≤ 9) (hw : who ∈ zs) (h9 : 9 < now - hd who) : muteL zs hd now = who := by
  induction zs with
  | nil => simp at hw
  | cons x r ih =>
    show (if 9 < now - hd x then x else muteL r hd now) = who
    by_cases e : x = who
    · subst e; rw [if_pos h9]
    · have h1 := h x (by simp) e
      rw [if_neg (by omega)]
      exact ih (fun i hi => h i (by simp [hi])) (by
        rcases List.mem_cons.1 hw with h2 | h2
        · exact absurd h2.symm e
        · exact h2)
/-! phases: in the midst of a time, behind so many members -/
structure MidA (n : Nat) (who now : Int) (k : Nat) (S : St) : Prop where
  e : S.e = 1
  zs : S.zs = zsN n
  nw : S.nw = 0
  e2 : S.e2 = 0
  asks : S.asks = 0
  lost : S.lost = false
  hd : ∀ i : Int, 1 ≤ i → i ≤ n → i ≠ who → S.hd i = if i ≤ k then now else now - 1
  hw : S.hd who = 0
  un : S.un ≤ now + 6
  ue : ∀ i : Int, 1 ≤ i → i ≤ k → i ≠ who → now ≠ 0 → S.un = now + 6
structure PhB (n : Nat) (who : Int) (S : St) : Prop where
  zs : S.zs = zsN n
  e2 : S.e2 = 2
  zs2 : S.zs2 = zsO n who
  nw2 : S.nw2 = 0
  lost : S.lost = false
  un : S.un = 15
structure MidC (n : Nat) (who now : Int) (k : Nat) (S : St) : Prop where
  zs : S.zs = zsO n who
  e2 : S.e2 = 0
  asks : S.asks = 0
  lost : S.lost = false
  hd : ∀ i : Int, 1 ≤ i → i ≤ n → i ≠ who → now - 1 ≤ S.hd i ∧ (i ≤ k → S.hd i = now)
structure PhD (who : Int) (S : St) : Prop where
  e : S.e = 1
  zs : S.zs = zsN 1
  nw : S.nw = 0
  e2 : S.e2 = 0
  hw : S.hd who = 0
  lost : S.lost = true
/-- A new chain of so many. -/
def newS0 (n : Nat) : St := newS 1 (zsN n) 0
def Mid (n : Nat) (who now : Int) (k : Nat) (S : St) : Prop :=
  (now ≤ 9 ∧ MidA n who now k S) ∨ (10 ≤ now ∧ now ≤ 15 ∧ 2 ≤ n ∧ PhB n who S) ∨ (16 ≤ now ∧ 2 ≤ n ∧ MidC n who now k S) ∨ (10 ≤ now ∧ n = 1 ∧ PhD who S)
theorem silent_new {n : Nat} {who : Int} (_ : 1 ≤ who) : Mid n who 0 n (newS0 n) := by
  refine Or.inl ⟨by omega, ⟨rfl, rfl, rfl, rfl, rfl, rfl, fun i h1 h2 h3 => ?_, ?_, (by show (0 : Int) ≤ 0 + 6; omega), fun i h1 h2 h3 h4 => absurd rfl h4⟩⟩
  · show (if i ∈ zsN n then (0 : Int) else 0) = _
    rw [if_pos h2]
    split <;> rfl
  · show (if who ∈ zsN n then (0 : Int) else 0) = _
    split <;> rfl
theorem silent_tick {n : Nat} {who t : Int} {S : St} (h1 : 1 ≤ n) (h5 : n ≤ 5) (hw : 1 ≤ who) (hn : who ≤ n) (ht : 0 ≤ t) (h : Mid n who t n S) : Mid n who (t + 1) 0 (tickS S (t + 1)) := by
  obtain ⟨hm, hd1, hd2⟩ := silent_fin h1 h5 hw hn
  rcases h with ⟨h9, A⟩ | ⟨h10, h15, h2, B⟩ | ⟨h16, h2, C⟩ | ⟨h10, hn1, D⟩
  · by_cases h : t + 1 ≤ 9
    · have hmute : muteL S.zs S.hd (t + 1) = 0 := mute_none (fun i hi => by
        rw [A.zs, zsN_mem] at hi
        by_cases e : i = who
        · rw [e, A.hw]; omega
        · rw [A.hd i hi.1 hi.2 e, if_pos (by omega)]; omega)
      have ht2 : tickS S (t + 1) = { S with lost := false } := by
        unfold tickS
        rw [if_neg (by rw [A.e2]; omega), hmute, if_neg (by omega), if_neg (by rw [A.asks]; omega)]
      rw [ht2]
      refine Or.inl ⟨h, ⟨A.e, A.zs, A.nw, A.e2, A.asks, rfl, fun i a b c => ?_, A.hw, ?_, fun i a b c d => ?_⟩⟩
      · rw [if_neg (by omega)]
        have := A.hd i a b c
        rw [if_pos (by omega)] at this
        show S.hd i = _
        omega
      · have := A.un; show S.un ≤ _; omega
      · omega
    · obtain rfl : t = 9 := by omega
      have hmute : muteL S.zs S.hd 10 = who := mute_one (fun i hi e => by
        rw [A.zs, zsN_mem] at hi
        rw [A.hd i hi.1 hi.2 e, if_pos (by omega)]; omega) (by rw [A.zs, zsN_mem]; omega) (by rw [A.hw]; omega)
      have ht2 : tickS S (9 + 1) = nextS { S with lost := !(dropF 1 (zsN n) 0 who).2.2.2 } (dropF 1 (zsN n) 0 who) := by
        unfold tickS
        rw [if_neg (by rw [A.e2]; omega), show (9 : Int) + 1 = 10 from rfl, hmute, if_pos (by omega), A.e, A.zs, A.nw]
      rw [ht2]
      rcases Nat.lt_or_ge n 2 with hlt | hge
      · obtain rfl : n = 1 := by omega
        have hr := hd1 rfl
        refine Or.inr (Or.inr (Or.inr ⟨by omega, rfl, ?_⟩))
        unfold nextS
        rw [hr, if_neg (by simp)]
        exact ⟨A.e, A.zs, A.nw, A.e2, A.hw, rfl⟩
      · have hr := hd2 hge
        refine Or.inr (Or.inl ⟨by omega, by omega, hge, ?_⟩)
        unfold nextS
        rw [hr, if_pos rfl]
        have hu : S.un = 15 := by
          by_cases h : 1 < who
          · have := A.ue 1 (by omega) (by omega) (by omega) (by omega); omega
          · have := A.ue 2 (by omega) (by omega) (by omega) (by omega); omega
        exact ⟨A.zs, rfl, rfl, rfl, rfl, hu⟩
  · by_cases h : t + 1 ≤ 15
    · have ht2 : tickS S (t + 1) = S := by
        unfold tickS
        rw [if_pos (by rw [B.e2]; omega), if_neg (by rw [B.un]; omega)]
      rw [ht2]
      exact Or.inr (Or.inl ⟨by omega, h, h2, B⟩)
    · obtain rfl : t = 15 := by omega
      have ht2 : tickS S (15 + 1) = roundS S 16 := by
        unfold tickS
        rw [if_pos (by rw [B.e2]; omega), if_pos (by rw [B.un]; omega)]; rfl
      rw [ht2]
      refine Or.inr (Or.inr (Or.inl ⟨by omega, h2, ⟨?_, rfl, rfl, ?_, fun i a b c => ?_⟩⟩))
      · show S.zs2 = _; exact B.zs2
      · show S.lost = _; exact B.lost
      · have : (roundS S 16).hd i = 16 := by
          show (if i ∈ S.zs2 then (16 : Int) else 0) = 16
          rw [if_pos (by rw [B.zs2, zsO_mem]; exact ⟨⟨a, b⟩, c⟩)]
        rw [this]
        exact ⟨by omega, fun _ => by omega⟩
  · have hmute : muteL S.zs S.hd (t + 1) = 0 := mute_none (fun i hi => by
      rw [C.zs, zsO_mem] at hi
      have := (C.hd i hi.1.1 hi.1.2 hi.2).1
      omega)
    have ht2 : tickS S (t + 1) = { S with lost := false } := by
      unfold tickS
      rw [if_neg (by rw [C.e2]; omega), hmute, if_neg (by omega), if_neg (by rw [C.asks]; omega)]
    rw [ht2]
    refine Or.inr (Or.inr (Or.inl ⟨by omega, h2, ⟨C.zs, C.e2, C.asks, rfl, fun i a b c => ⟨?_, fun hi => by omega⟩⟩⟩))
    have := (C.hd i a b c).2 (by omega)
    show t + 1 - 1 ≤ S.hd i
    omega
  · subst hn1
    obtain rfl : who = 1 := by omega
    have hmute : muteL S.zs S.hd (t + 1) = 1 := mute_one (fun i hi e => by
      rw [D.zs, zsN_mem] at hi
      omega) (by rw [D.zs, zsN_mem]; omega) (by rw [D.hw]; omega)
    have ht2 : tickS S (t + 1) = nextS { S with lost := !(dropF 1 (zsN 1) 0 1).2.2.2 } (dropF 1 (zsN 1) 0 1) := by
      unfold tickS
      rw [if_neg (by rw [D.e2]; omega), hmute, if_pos (by omega), D.e, D.zs, D.nw]
    rw [ht2]
    refine Or.inr (Or.inr (Or.inr ⟨by omega, rfl, ?_⟩))
    unfold nextS
    rw [hd1 rfl, if_neg (by simp)]
    exact ⟨D.e, D.zs, D.nw, D.e2, D.hw, rfl⟩
theorem silent_skip {n : Nat} {who now : Int} {k : Nat} {S : St} (hk : (k : Int) + 1 = who) (h : Mid n who now k S) : Mid n who now (k + 1) S := by
  rcases h with ⟨h9, A⟩ | h | ⟨h16, h2, C⟩ | h
  · refine Or.inl ⟨h9, ⟨A.e, A.zs, A.nw, A.e2, A.asks, A.lost, fun i a b c => ?_, A.hw, A.un, fun i a b c d => A.ue i a (by omega) c d⟩⟩
    rw [A.hd i a b c]
    by_cases e : i ≤ k
    · rw [if_pos e, if_pos (by omega)]
    · rw [if_neg e, if_neg (by omega)]
  · exact Or.inr (Or.inl h)
  · exact Or.inr (Or.inr (Or.inl ⟨h16, h2, ⟨C.zs, C.e2, C.asks, C.lost, fun i a b c => ⟨(C.hd i a b c).1, fun d => (C.hd i a b c).2 (by omega)⟩⟩⟩))
  · exact Or.inr (Or.inr (Or.inr h))
theorem silent_step {n : Nat} {who now ep : Int} {k : Nat} {S : St} (h5 : n ≤ 5) (hk : k + 1 ≤ n) (hw : (k : Int) + 1 ≠ who) (hw1 : 1 ≤ who) (hwn : who ≤ n) (h : Mid n who now k S) : Mid n who now (k + 1) (stepS S 1 ((k : Int) + 1) 0 ep now) := by
  have hst : ∀ zs : List Int, S.zs = zs → (k : Int) + 1 ∈ zs → stepS S 1 ((k : Int) + 1) 0 ep now = beatS S ((k : Int) + 1) now := fun zs hz hin => by
    unfold stepS
    rw [if_neg (by omega), if_pos rfl, if_neg (by rw [hz]; have := idx_in hin; omega)]
  rcases h with ⟨h9, A⟩ | ⟨h10, h15, h2, B⟩ | ⟨h16, h2, C⟩ | ⟨h10, hn1, D⟩
  · rw [hst _ A.zs (by rw [zsN_mem]; omega)]
    unfold beatS
    rw [if_neg (by rw [A.e2]; omega)]
    have hu : max S.un (now + 6) = now + 6 := by have := A.un; omega
    refine Or.inl ⟨h9, ⟨A.e, A.zs, A.nw, A.e2, A.asks, A.lost, fun i a b c => ?_, ?_, ?_, fun i a b c d => hu⟩⟩
    · show upd S.hd ((k : Int) + 1) now i = _
      unfold upd
      by_cases e : i = (k : Int) + 1
      · rw [if_pos e, if_pos (by omega)]
      · rw [if_neg e, A.hd i a b c]
        by_cases e2 : i ≤ k
        · rw [if_pos e2, if_pos (by omega)]
        · rw [if_neg e2, if_neg (by omega)]
    · show upd S.hd ((k : Int) + 1) now who = 0
      unfold upd
      rw [if_neg (fun e => hw e.symm)]; exact A.hw
    · show max S.un (now + 6) ≤ now + 6
      omega
  · rw [hst _ B.zs (by rw [zsN_mem]; omega)]
    unfold beatS
    rw [if_pos (by rw [B.e2]; omega)]
    exact Or.inr (Or.inl ⟨h10, h15, h2, ⟨B.zs, B.e2, B.zs2, B.nw2, B.lost, B.un⟩⟩)
  · rw [hst _ C.zs (by rw [zsO_mem]; omega)]
    unfold beatS
    rw [if_neg (by rw [C.e2]; omega)]
    refine Or.inr (Or.inr (Or.inl ⟨h16, h2, ⟨C.zs, C.e2, C.asks, C.lost, fun i a b c => ?_⟩⟩))
    show now - 1 ≤ upd S.hd ((k : Int) + 1) now i ∧ (i ≤ ((k + 1 : Nat) : Int) → upd S.hd ((k : Int) + 1) now i = now)
    unfold upd
    have h := C.hd i a b c
    by_cases e : i = (k : Int) + 1
    · rw [if_pos e]; exact ⟨by omega, fun _ => rfl⟩
    · rw [if_neg e]; exact ⟨h.1, fun d => h.2 (by omega)⟩
  · omega
/-- What the law asks at the end. -/
theorem silent_end {n : Nat} {who t : Int} {S : St} (h1 : 1 ≤ n) (hw : 1 ≤ who) (hn : who ≤ n) (h : Mid n who t n S) :
    (n = 1 → idx S.zs who = 0 ∧ (S.lost && !decide (0 < S.e2)) = decide (9 < t)) ∧
    (2 ≤ n → (decide (idx S.zs who < 0) || decide (0 < S.e2)) = decide (9 < t) ∧ (t < 17 ∨ idx S.zs who < 0) ∧ (S.lost && !decide (0 < S.e2)) = false) := by
  have hN : who ∈ zsN n := by rw [zsN_mem]; omega
  have hin : 0 ≤ idx (zsN n) who := idx_in hN
  have hout : idx (zsO n who) who < 0 := by rw [idx_no (by rw [zsO_mem]; omega)]; omega
  have h11 : n = 1 → idx (zsN n) who = 0 := fun e => by
    subst e
    obtain rfl : who = 1 := by omega
    decide
  rcases h with ⟨h9, A⟩ | ⟨h10, h15, h2, B⟩ | ⟨h16, h2, C⟩ | ⟨h10, hn1, D⟩
  · rw [A.zs, A.e2, A.lost, decide_eq_false (show ¬ 9 < t by omega), decide_eq_false (show ¬ idx (zsN n) who < 0 by omega)]
    exact ⟨fun e => ⟨h11 e, rfl⟩, fun _ => ⟨rfl, Or.inl (by omega), rfl⟩⟩
  · rw [B.zs, B.e2, B.lost, decide_eq_true (show 9 < t by omega)]
    refine ⟨fun e => by omega, fun _ => ⟨by simp, Or.inl (by omega), rfl⟩⟩
  · rw [C.zs, C.e2, C.lost, decide_eq_true (show 9 < t by omega), decide_eq_true hout]
    exact ⟨fun e => by omega, fun _ => ⟨rfl, Or.inr hout, rfl⟩⟩
  · subst hn1
    rw [D.zs, D.e2, D.lost, decide_eq_true (show 9 < t by omega)]
    exact ⟨fun _ => ⟨h11 rfl, rfl⟩, fun e => by omega⟩
end Go.Proofs.YthiphdcbboapkaaGreatDoor
namespace Go.Proofs.YthiphdcbboapkaaGreatDoor
open Go.RowKit Go.Maps

set_option maxRecDepth 100000
theorem lo_k {S : St} {T : Int} (h : OkS S T) : S.zs2.length ≤ 5 := by
  rcases h.nx with h1 | h1
  · rw [h1.2.1]; simp
  · exact (mayB_mayL h1.2.1).2.2
/-- What holds behind a time. -/
structure SilI (w wr : World) (x : Nat) (n : Nat) (who : Int) (t k kk m : Nat) (S : St) (f : Ft) : Prop where
  ch : CH w wr x S f
  ok : OkS S t
  md : Mid n who t k S
  kk' : S.k ≤ kk
  mm : S.m ≤ m
theorem SilI.tick {w wr w' : World} {x n : Nat} {who : Int} {t m : Nat} {S : St} {f f' : Ft} (h : SilI w wr x n who t n (t + 1) m S f) (h1 : 1 ≤ n) (h5 : n ≤ 5) (hw : 1 ≤ who) (hn : who ≤ n) (hm : 5 ≤ m) (hp : PostF w wr x f (tickS S (t + 1)) f' w') : SilI w w' x n who (t + 1) 0 (t + 2) m (tickS S (t + 1)) f' := by
  have hk := tickS_k S (t + 1)
  have hl := lo_k h.ok
  have h1' := h.kk'
  have h2' := h.mm
  exact ⟨hp.ch, tickS_ok (h.ok.mono (by omega)) (by omega), silent_tick h1 h5 hw hn (by omega) h.md, by omega, by omega⟩
theorem SilI.step {w wr w' : World} {x n : Nat} {who ep : Int} {t k kk m : Nat} {S : St} {f f' : Ft} (h : SilI w wr x n who t k kk m S f) (h5 : n ≤ 5) (hk : k + 1 ≤ n) (hw : (k : Int) + 1 ≠ who) (hw1 : 1 ≤ who) (hwn : who ≤ n) (hp : PostF w wr x f (stepS S 1 ((k : Int) + 1) 0 ep t) f' w') : SilI w w' x n who t (k + 1) kk (m + 1) (stepS S 1 ((k : Int) + 1) 0 ep t) f' := by
  have hk2 := stepS_k S 1 ((k : Int) + 1) 0 ep t
  have h1' := h.kk'
  have h2' := h.mm
  exact ⟨hp.ch, stepS_ok h.ok (by omega), silent_step h5 hk hw hw1 hwn h.md, by have := hk2.2.2 (by decide); omega, by omega⟩
theorem SilI.skip {w wr : World} {x n : Nat} {who : Int} {t k kk m : Nat} {S : St} {f : Ft} (h : SilI w wr x n who t k kk m S f) (hw : (k : Int) + 1 = who) : SilI w wr x n who t (k + 1) kk (m + 1) S f :=
  ⟨h.ch, h.ok, silent_skip hw h.md, h.kk', by have := h.mm; omega⟩
theorem SilI.low {w wr w' : World} {x n : Nat} {who : Int} {t k kk m : Nat} {S : St} {f : Ft} (h : SilI w wr x n who t k kk m S f) (hb : Below wr.heap.size wr w') : SilI w w' x n who t k kk m S f := ⟨h.ch.low hb, h.ok, h.md, h.kk', h.mm⟩
theorem chopen_is {w0 w : World} (LA : Laid w0) {g b : Nat} (H : ChS w0 w g b 1048576 []) {e : Int} {zs : List Int} {n : Nat} {a : Option Addr} {c : Nat} (hn : zs.length = n) (hm : mayB e zs 0 = true) (hz : IntsAt w a zs) (ha : ∀ q ∈ rowB a, q ≠ g ∧ q ≠ b) {now : Int} (hf : fitI now) :
    Calls Tryz.prog 15 #[.pointer (some ⟨g, 0, none⟩), .agg #[.int .i64 e, .slice a n c, .int .i64 0], .int .i64 now] w fun e' w' => ∃ x f, e' = .returned (.tuple #[.pointer (some ⟨x, 0, none⟩), .int .i64 0]) ∧ CH w0 w' x (newS e zs now) f ∧ Only [g, b] w w' := by
  subst hn
  refine (chopen_fresh LA H (by decide) (by decide) hm hz ha hf).mono ?_
  rintro e' w' ⟨x, f, rfl, hc, -, ho, -⟩
  exact ⟨x, f, rfl, hc, ho⟩
/-- What the law does not look at. -/
theorem silent_bad {n who time : Int} (h : ¬ (1 ≤ n ∧ n ≤ 5 ∧ 1 ≤ who ∧ who ≤ n ∧ 0 ≤ time ∧ time ≤ 40)) : decide (n < 1) = true ∨ (decide (n < 1) = false ∧ decide (5 < n) = true) ∨ (decide (n < 1) = false ∧ decide (5 < n) = false ∧ decide (who < 1) = true) ∨ (decide (n < 1) = false ∧ decide (5 < n) = false ∧ decide (who < 1) = false ∧ decide (n < who) = true) ∨ (decide (n < 1) = false ∧ decide (5 < n) = false ∧ decide (who < 1) = false ∧ decide (n < who) = false ∧ decide (time < 0) = true) ∨ (decide (n < 1) = false ∧ decide (5 < n) = false ∧ decide (who < 1) = false ∧ decide (n < who) = false ∧ decide (time < 0) = false ∧ decide (40 < time) = true) := by
  simp only [decide_eq_true_eq, decide_eq_false_iff_not]
  omega
set_option maxHeartbeats 3200000 in
theorem chiefSilent_no (n who time : Int) (w : World) (LA : Laid w) (h : ¬ (1 ≤ n ∧ n ≤ 5 ∧ 1 ≤ who ∧ who ≤ n ∧ 0 ≤ time ∧ time ≤ 40)) : Calls Tryz.prog 5 #[.int .i64 n, .int .i64 who, .int .i64 time] w fun e w' => e = .returned (.bool true) ∧ Below w.heap.size w w' := by
  have HL := Lib.hid LA
  have hb := silent_bad h
  clear LA h
  rcases hb with q1 | ⟨q1, q2⟩ | ⟨q1, q2, q3⟩ | ⟨q1, q2, q3, q4⟩ | ⟨q1, q2, q3, q4, q5⟩ | ⟨q1, q2, q3, q4, q5, q6⟩
  all_goals
    go_enter Tryz.func5, Tryz.ntmps5
    go_wp2_with (go_at_call 12; refine (begun10_any _ HL.out).mono ?_; rintro e' w' ⟨rfl, hb⟩; have HB := Lib.hid hb; clear hb)
    go_ret
    exact ⟨rfl, HB.out⟩
set_option maxHeartbeats 12800000 in
theorem chiefSilent_yes (N : Nat) (who : Int) (time : Nat) (w : World) (LA : Laid w) (h1 : 1 ≤ N) (h5 : N ≤ 5) (hw1 : 1 ≤ who) (hwn : who ≤ N) (ht : time ≤ 40) : Calls Tryz.prog 5 #[.int .i64 (N : Int), .int .i64 who, .int .i64 (time : Int)] w fun e w' => e = .returned (.bool true) ∧ Below w.heap.size w w' := by
  have HL := Lib.hid LA
  have q1 : decide ((N : Int) < 1) = false := by simp; omega
  have q2 : decide (5 < (N : Int)) = false := by simp; omega
  have q3 : decide (who < 1) = false := by simp; omega
  have q4 : decide ((N : Int) < who) = false := by simp; omega
  have q5 : decide ((time : Int) < 0) = false := by simp
  have q6 : decide (40 < (time : Int)) = false := by simp; omega
  clear LA
  go_enter Tryz.func5, Tryz.ntmps5
  go_upto_region 7 with (go_at_call 12; refine (begun10_any _ HL.out).mono ?_; rintro e' w0 ⟨rfl, hb⟩; have HB := Lib.hid hb; clear hb)
  have HX := Lib.hid (B3.new w0 (.int .i64 1) (.slice none 0 0) (.int .i64 0) 24)
  have HB1 := Lib.hid (below_alloc HB.out (.cells #[.int .i64 1, .slice none 0 0, .int .i64 0] 24))
  have hw0 : w.heap.size ≤ w0.heap.size := HB.out.size
  have hs1 : (w0.alloc (.cells #[.int .i64 1, .slice none 0 0, .int .i64 0] 24)).heap.size = w0.heap.size + 1 := by simp
  clear q1 q2 q3 q4 q5 q6
  generalize w0.alloc (.cells #[.int .i64 1, .slice none 0 0, .int .i64 0] 24) = V at HX HB1 hs1 ⊢
  generalize w0.heap.size = q at HX hw0 hs1 ⊢
  have HS1 := Lib.hid hs1
  clear hs1 HB
  go_wp2_with fail
  go_loopw [9] (fun i wr => ∃ (k : Nat) (a' : Option Addr) (c' : Nat), i = .int .i64 ((k : Int) + 1) ∧ k ≤ N ∧ B3 wr q (.int .i64 1) (.slice a' k c') (.int .i64 0) ∧ OwnI wr (q + 1) (.slice a' k c') (zsN k) ∧ Below w.heap.size w wr) (fun i _ => N + 1 - (intOf i).toNat)
  case atStart => exact ⟨0, none, 0, rfl, Nat.zero_le _, HX.out, World.ownsRow_nil _ _ _ _, HB1.out⟩
  case round =>
    obtain ⟨k, a', c', rfl, hk, hy, how, hbl⟩ := hrel
    have HYr := Lib.hid hy
    have HBr := Lib.hid hbl
    obtain ⟨y0, y1, y2, g0, g1, g2⟩ := hy
    have hqr : q < wr.heap.size := cell_old y0
    by_cases hlt : k < N
    · have p1 : decide ((k : Int) + 1 ≤ (N : Int)) = true := decide_eq_true (by omega)
      have HLen := Lib.hid (zsN_len k)
      have HOw := Lib.hid (ownI_at how (zsN_len k))
      have HT := Lib.hid (zsN_snoc k)
      obtain ⟨pre, hpre⟩ : ∃ pre, zsN k = pre := ⟨_, rfl⟩
      rw [hpre] at HOw HLen HT
      have hqb : ¬ (q = wr.heap.size) := Nat.ne_of_lt hqr
      have hw2 : IntKind.i64.wrap ((k : Int) + 1 + 1) = (k : Int) + 1 + 1 := IntWalk.i64_in _ (by omega)
      clear how hbl hpre
      go_wp2_with (at_builtin; refine wpList_append_any rfl _ _ 22 rfl (q + 1) 3 _ 1 8 tyInts _ k (pre.map (.int .i64)) rfl (ownsRow_below HOw.out (below_alloc (Below.refl _ _) _)) _ 1 1 [.int .i64 ((k : Int) + 1)] rfl rfl (RowAt.new _ _ _) (by simp [Value.oneCell']) (by unfold maxLen; omega) (by omega) ?c3 ?_; (case c3 => simp; omega); intro v' w' own' hb'; obtain ⟨a5, c5, rfl, -, -⟩ := own_cap (ownI_snoc HLen.out own'); have HO2 := Lib.hid (ownI_snoc HLen.out own'); have HX2 := Lib.hid ((HYr.out.keep (below_alloc (Below.refl _ _) _)).below hb' (Nat.lt_succ_self q) (by simp; omega)); have HW2 := Lib.hid ((below_alloc HBr.out _).trans (hb'.mono (by omega))); obtain ⟨s0, s1, s2, t0, t1, t2⟩ := HX2.out; clear own' hb')
      go_roundw
      case rel =>
        have hl6 := HLen.out
        have hl7 : (pre ++ [(k : Int) + 1]).length = k + 1 := by simp; omega
        have h3 := HX2.out.set1 (.slice a5 (pre.length + 1) c5)
        have h4 := HO2.out
        rw [hl7] at h4
        rw [hl6] at h3
        refine ⟨k + 1, a5, c5, by go_num, by omega, by rw [hl6]; exact h3, ?_, HW2.out.setCell (p := ⟨q, 1, none⟩) hw0 _⟩
        rw [HT.out, hl6]
        exact ownsRow_setCell_below h4 (a := ⟨q, 1, none⟩) (Nat.lt_succ_self q) _
      case measure => simp [intOf]; omega
    · obtain rfl : k = N := by omega
      have p1 : decide ((k : Int) + 1 ≤ (k : Int)) = false := decide_eq_false (by omega)
      obtain ⟨ga, rfl, hga, hgl, -, -⟩ := own_open how (zsN_len k).symm (by rw [zsN_len]; omega)
      have hm := (silent_fin h1 h5 hw1 hwn).1
      have HM := Lib.hid hm
      have HI := Lib.hid (own_ints how)
      have hww : w.heap.size ≤ wr.heap.size := hbl.size
      have HWW := Lib.hid hww
      have HLn := Lib.hid (zsN_len k)
      clear how hbl hm g0 g1 g2 hlt hk hww
      go_wp2_with fail
      go_region_held3 (fun U => U.cell? ⟨q, 0, none⟩ = some (.int .i64 1) ∧ U.cell? ⟨q, 1, none⟩ = some (.slice (some ⟨ga, 0, none⟩) k c') ∧ U.cell? ⟨q, 2, none⟩ = some (.int .i64 0) ∧ IntsAt U (some ⟨ga, 0, none⟩) (zsN k) ∧ Below wr.heap.size wr U)
        (first | exact ⟨y0, y1, y2, HI.out.drew, Below.drew (Below.refl _ _)⟩ | (obtain ⟨s1, s2, s3, s4, s5⟩ := (‹_ ∧ _ ∧ _ ∧ IntsAt _ _ _ ∧ Below _ _ _›); exact ⟨cell_keep hb s1, cell_keep hb s2, cell_keep hb s3, s4.keep hb, below_on s5 hb⟩) | exact ⟨cell_keep hb y0, cell_keep hb y1, cell_keep hb y2, HI.out.keep hb, hb⟩)
        (first
          | (go_at_call 14; have s5 := (‹_ ∧ _ ∧ _ ∧ IntsAt _ _ _ ∧ Below _ _ _›).2.2.2.2; refine (new_S (w0 := w) (below_on HBr.out s5) 1048576 1048576 (by decide)).mono ?_; rintro e' w2 ⟨g, b, rfl, hs, hb, hg1, hg2⟩; have HCs := Lib.hid hs; have HGe : Hid (wr.heap.size ≤ g ∧ wr.heap.size ≤ b) := Lib.hid ⟨Nat.le_trans s5.size hg1, Nat.le_trans s5.size hg2⟩; clear s5 hs hg1 hg2)
          | (go_at_call 15; have s4 := (‹_ ∧ _ ∧ _ ∧ IntsAt _ _ _ ∧ Below _ _ _›).2.2.2.1; have s5 := (‹_ ∧ _ ∧ _ ∧ IntsAt _ _ _ ∧ Below _ _ _›).2.2.2.2; refine (chopen_is HL.out HCs.out HLn.out HM.out s4 (fun i hi => by have := HGe.out; simp [rowB] at hi; omega) (now := 0) (fitI_of (by omega))).mono ?_; rintro e' w3 ⟨x, f, rfl, hc, hon⟩; have HC := Lib.hid hc; have hb : Below wr.heap.size wr w3 := Only.under s5 hon (fun i hi => by have := HGe.out; simp at hi; rcases hi with rfl | rfl; exact this.1; exact this.2); clear s4 s5 hc hon))
      all_goals
        have HI0 : Hid (SilI w w3 x k who 0 k 1 (5 + k) (newS0 k) f) := Lib.hid ⟨HC.out, newS_ok HM.out (by decide), silent_new hw1, by show 1 ≤ 1; omega, by show (zsN k).length ≤ 5 + k; rw [zsN_len]; omega⟩
        clear HC HCs HGe HI HM HYr HBr y0 y1 y2
        go_wp2_with fail
        obtain ⟨W3, rfl⟩ : ∃ W3 : World, W3 = w3 := ⟨_, rfl⟩
        have hf0 := run_ros0
        go_loopw [12] (fun n12 wr => ∃ (t : Nat) (S : St) (f : Ft), n12 = .int .i64 ((t : Int) + 1) ∧ t ≤ time ∧ SilI w wr x k who t k (t + 1) (5 + 5 * (t + 1)) S f) (fun n12 _ => time + 1 - (intOf n12).toNat)
        case atStart => exact ⟨0, _, f, rfl, Nat.zero_le _, HI0.out.ch, HI0.out.ok, HI0.out.md, HI0.out.kk', by have := HI0.out.mm; omega⟩
        case round =>
          obtain ⟨t, S, f2, rfl, htt, hsi⟩ := hrel
          have HSi := Lib.hid hsi
          clear hsi HI0
          by_cases hlt : t < time
          · have p1 : decide ((t : Int) + 1 ≤ (time : Int)) = true := decide_eq_true (by omega)
            have HTk := Lib.hid (tick_any HL.out HSi.out.ch (HSi.out.ok.mono (show (t : Int) ≤ (t : Int) + 1 by omega)) (by omega) (by have := HSi.out.kk'; omega) (now := (t : Int) + 1) (by omega))
            go_wp2_with (go_at_call 20; refine HTk.out.mono ?_; rintro e' w5 ⟨rfl, f5, hp5, -⟩; have HS5 := Lib.hid (HSi.out.tick h1 h5 hw1 hwn (by omega) hp5); clear hp5)
            go_loopw [13] (fun n13 wi => ∃ (j : Nat) (S : St) (f : Ft), n13 = .int .i64 ((j : Int) + 1) ∧ j ≤ k ∧ SilI w wi x k who (t + 1) j (t + 2) (5 + 5 * (t + 1) + j) S f) (fun n13 _ => k + 1 - (intOf n13).toNat)
            case atStart => exact ⟨0, _, f5, rfl, Nat.zero_le _, HS5.out⟩
            case round =>
              obtain ⟨j, S6, f6, rfl, hjk, hs6⟩ := hrel
              have HS6 := Lib.hid hs6
              clear hs6 HS5 HTk HSi
              by_cases hjt : j < k
              · have p2 : decide ((j : Int) + 1 ≤ (k : Int)) = true := decide_eq_true (by omega)
                have hw2 : IntKind.i64.wrap ((j : Int) + 1 + 1) = (j : Int) + 1 + 1 := IntWalk.i64_in _ (by omega)
                by_cases hwho : (j : Int) + 1 = who
                · have p3 : ((j : Int) + 1 != who) = false := by simp [hwho]
                  have HS7 := Lib.hid (HS6.out.skip hwho)
                  clear hwho
                  go_wp2_with fail
                  go_roundw
                  case rel => exact ⟨j + 1, _, f6, by go_num, by omega, HS7.out⟩
                  case measure => simp [intOf]; omega
                · have p3 : ((j : Int) + 1 != who) = true := by simpa using hwho
                  have HW6 := Lib.hid hwho
                  have hl6 : S6.zs.length ≤ 5 := (mayB_mayL HS6.out.ok.may).2.2
                  clear hwho
                  go_wp2_with fail
                  refine (chroster_is HS6.out.ch rfl rfl rfl rfl hl6).mono ?_
                  rintro e7 w7 ⟨ra, rc, rfl, -, hb7⟩
                  have HS7 := Lib.hid (HS6.out.low hb7)
                  clear hb7
                  go_wp2_with fail
                  refine (step_any HL.out HS7.out.ch HS7.out.ok (by omega) (by have := HS7.out.kk'; omega) (by have := HS7.out.mm; omega) (wd 1 ((j : Int) + 1) S6.e) (now := ((t + 1 : Nat) : Int)) (by omega)).mono ?_
                  rintro e8 w8 ⟨v8, f8, rfl, hp8, -, -⟩
                  have HS8 := Lib.hid (HS7.out.step h5 hjt HW6.out hw1 hwn hp8)
                  clear hp8
                  go_wp2_with fail
                  go_roundw
                  case rel => exact ⟨j + 1, _, f8, by go_num, by omega, HS8.out⟩
                  case measure => simp [intOf]; omega
              · obtain rfl : j = k := by omega
                have p2 : decide ((j : Int) + 1 ≤ (j : Int)) = false := decide_eq_false (by omega)
                have hw2 : IntKind.i64.wrap ((t : Int) + 1 + 1) = (t : Int) + 1 + 1 := IntWalk.i64_in _ (by omega)
                go_wp2_with fail
                go_roundw
                case rel => exact ⟨t + 1, S6, f6, by go_num, by omega, HS6.out.ch, HS6.out.ok, HS6.out.md, HS6.out.kk', by have := HS6.out.mm; omega⟩
                case measure => simp [intOf]; omega
          · obtain rfl : t = time := by omega
            have p1 : decide ((t : Int) + 1 ≤ (t : Int)) = false := decide_eq_false (by omega)
            have HE := Lib.hid (silent_end h1 hw1 hwn HSi.out.md)
            have hl6 : S.zs.length ≤ 5 := (mayB_mayL HSi.out.ok.may).2.2
            obtain ⟨ix, hix⟩ : ∃ ix, idx S.zs who = ix := ⟨_, rfl⟩
            have HIx := Lib.hid hix
            rw [hix] at HE
            obtain ⟨ch, hch⟩ : ∃ ch, decide (0 < S.e2) = ch := ⟨_, rfl⟩
            have HCh := Lib.hid hch
            rw [hch] at HE
            obtain ⟨lo, hlo⟩ : ∃ lo, (S.lost && !ch) = lo := ⟨_, rfl⟩
            have HLo : Hid ((S.lost && !decide (0 < S.e2)) = lo) := Lib.hid (by rw [hch]; exact hlo)
            rw [hlo] at HE
            clear hix hch hlo
            have HSp : Hid (∀ W a c, IntsAt W a S.zs → Calls Tryz.prog 28 #[.agg #[.int .i64 S.e, .slice a S.zs.length c, .int .i64 S.nw], .int .i64 who] W fun e w' => e = .returned (.int .i64 ix) ∧ Below W.heap.size W w') := Lib.hid (fun W a c hz => by rw [← HIx.out]; exact spot_any S.e S.nw who a c S.zs W (by omega) hz)
            rcases Nat.lt_or_ge k 2 with hk1 | hk2
            · obtain rfl : k = 1 := by omega
              obtain ⟨rfl, e2⟩ := HE.out.1 rfl
              have HE2 := Lib.hid e2
              clear HE e2
              have q9 : (lo == decide (9 < (t : Int))) = true := by rw [HE2.out]; simp
              go_wp2_with (first
                | (go_at_call 24; refine (chroster_is HSi.out.ch rfl rfl rfl rfl hl6).mono ?_; rintro e' w' ⟨ra, rc, rfl, hown, hb⟩; have HSi := Lib.hid (HSi.out.low hb); have HZa := Lib.hid (own_ints hown); clear hb hown)
                | (go_at_call 28; refine (HSp.out _ _ _ HZa.out).mono ?_; rintro e' w' ⟨rfl, hb⟩; have HSi := Lib.hid (HSi.out.low hb); clear hb)
                | (go_at_call 27; refine (lost_is HSi.out.ch HLo.out).mono ?_; rintro e' w' ⟨rfl, rfl⟩))
              go_ret
              exact ⟨rfl, HSi.out.ch.below⟩
            · obtain ⟨e1, e2, e3⟩ := HE.out.2 hk2
              subst e3
              have p4 : ((k : Int) == 1) = false := by simp; omega
              have HE1 := Lib.hid e1
              have HE2 := Lib.hid e2
              obtain ⟨gn, hgn⟩ : ∃ gn, decide (ix < 0) = gn := ⟨_, rfl⟩
              have HGn := Lib.hid hgn
              rw [hgn] at HE1
              have q9 : ((gn || ch) == decide (9 < (t : Int))) = true := by rw [HE1.out]; simp
              have q10 : (decide ((t : Int) < 17) || gn) = true := by
                rcases HE2.out with h | h
                · simp [h]
                · rw [← HGn.out]; simp [h]
              clear HE e1 e2 HE1 HE2
              obtain ⟨g9, h9⟩ : ∃ g9, decide (9 < (t : Int)) = g9 := ⟨_, rfl⟩
              obtain ⟨g17, h17⟩ : ∃ g17, decide ((t : Int) < 17) = g17 := ⟨_, rfl⟩
              rw [h9] at q9
              rw [h17] at q10
              have HSq := Lib.hid q9
              have HSq2 := Lib.hid q10
              clear q9 q10
              cases gn <;> cases ch <;> cases g9 <;> cases g17 <;> first | (exfalso; have h := HSq.out; simp at h; done) | (exfalso; have h := HSq2.out; simp at h; done) | skip
              all_goals
                go_wp2_with (first
                  | (go_at_call 24; refine (chroster_is HSi.out.ch rfl rfl rfl rfl hl6).mono ?_; rintro e' w' ⟨ra, rc, rfl, hown, hb⟩; have HSi := Lib.hid (HSi.out.low hb); have HZa := Lib.hid (own_ints hown); clear hb hown)
                  | (go_at_call 28; refine (HSp.out _ _ _ HZa.out).mono ?_; rintro e' w' ⟨rfl, hb⟩; have HSi := Lib.hid (HSi.out.low hb); clear hb)
                  | (go_at_call 25; refine (changing_is HSi.out.ch HCh.out).mono ?_; rintro e' w' ⟨rfl, rfl⟩)
                  | (go_at_call 27; refine (lost_is HSi.out.ch HLo.out).mono ?_; rintro e' w' ⟨rfl, rfl⟩))
                go_ret
                exact ⟨rfl, HSi.out.ch.below⟩
/-- The law, whatever comes in. -/
theorem chiefSilent_walk (n who time : Int) (w : World) (LA : Laid w) : Calls Tryz.prog 5 #[.int .i64 n, .int .i64 who, .int .i64 time] w fun e w' => e = .returned (.bool true) ∧ Below w.heap.size w w' := by
  by_cases h : 1 ≤ n ∧ n ≤ 5 ∧ 1 ≤ who ∧ who ≤ n ∧ 0 ≤ time ∧ time ≤ 40
  · obtain ⟨N, rfl⟩ : ∃ N : Nat, n = N := ⟨n.toNat, by omega⟩
    obtain ⟨T, rfl⟩ : ∃ T : Nat, time = T := ⟨time.toNat, by omega⟩
    exact chiefSilent_yes N who T w LA (by omega) (by omega) h.2.2.1 h.2.2.2.1 (by omega)
  · exact chiefSilent_no n who time w LA h
end Go.Proofs.YthiphdcbboapkaaGreatDoor
namespace Go.Proofs.YthiphdcbboapkaaGreatDoor
open Go.RowKit Go.Maps

set_option maxRecDepth 100000
theorem stepS_stay {S : St} {kind fr tt ep now : Int} (h : S.nw = 0) : (stepS S kind fr tt ep now).e2 = S.e2 ∧ (stepS S kind fr tt ep now).zs = S.zs ∧ (stepS S kind fr tt ep now).nw = 0 ∧ (stepS S kind fr tt ep now).e = S.e := by
  have hb : (beatS S fr now).e2 = S.e2 ∧ (beatS S fr now).zs = S.zs ∧ (beatS S fr now).nw = 0 ∧ (beatS S fr now).e = S.e := by
    unfold beatS; split <;> exact ⟨rfl, rfl, h, rfl⟩
  unfold stepS
  split
  · exact ⟨rfl, rfl, h, rfl⟩
  · split
    · split
      · exact ⟨rfl, rfl, h, rfl⟩
      · exact hb
    · split
      · exact ⟨rfl, rfl, rfl, rfl⟩
      · exact ⟨rfl, rfl, h, rfl⟩
def wS : St := newS 2 [1, 2, 3] 0
theorem wS_lease (kind fr tt : Int) : leaseB wS kind fr tt = decide (tt = 0 ∧ kind = 1 ∧ 1 ≤ fr ∧ fr ≤ 3) := by
  unfold leaseB
  have h : (0 ≤ idx wS.zs fr) ↔ (fr = 1 ∨ fr = 2 ∨ fr = 3) := by
    rw [idx_yes]
    show fr ∈ [1, 2, 3] ↔ _
    simp
  have h2 : ¬ 0 < wS.e2 := by decide
  apply Bool.eq_iff_iff.2
  simp only [decide_eq_true_eq, h]
  constructor
  · rintro ⟨a, b, c, d, e, f⟩; omega
  · rintro ⟨a, b, c, d⟩; exact ⟨a, by omega, by omega, b, by omega, h2⟩
structure WAll (w : World) (q : Nat) (W : Wd) : Prop where
  cs : ∀ (i : Nat) (v : Value), (wordC W)[i]? = some v → w.cell? ⟨q, i, none⟩ = some v
theorem WAll.new (w : World) (W : Wd) (ty : TypeId) : WAll (w.alloc (.cells (wordC W) ty)) w.heap.size W := ⟨fun i _ hv => (World.cell?_alloc_new w _ ty i).trans hv⟩
theorem WAll.keepO {S : List Nat} {w w' : World} {q : Nat} {W : Wd} (h : WAll w q W) (k : Only S w w') (hq : q ∉ S) : WAll w' q W := ⟨fun i v hv => k.cellK (p := ⟨q, i, none⟩) hq (h.cs i v hv)⟩
theorem WAll.low {w w' : World} {q : Nat} {W : Wd} (h : WAll w q W) (k : Below w.heap.size w w') : WAll w' q W := h.keepO (S := []) (Only.of_below k) (by simp)
theorem WAll.wat {w : World} {q : Nat} {W : Wd} (h : WAll w q W) : WAt w q W := ⟨h.cs 0 _ rfl, h.cs 1 _ rfl, h.cs 2 _ rfl, h.cs 3 _ rfl⟩
theorem WAll.rng {w : World} {q : Nat} {W : Wd} (h : WAll w q W) : w.rangeAt q 0 (wordC W).toList := fun j v hv => by rw [Nat.zero_add]; exact h.cs j v (by simpa using hv)
theorem wordI : (Tryz.prog.info? 46).map (·.size) = some 21 := by kernel_rfl
set_option maxHeartbeats 12800000 in
theorem chiefWords_walk (W : Wd) (now : Int) (w : World) (LA : Laid w) : Calls Tryz.prog 11 #[wordV W, .int .i64 now] w fun e w' => e = .returned (.bool true) ∧ Below w.heap.size w w' := by
  have HL := Lib.hid LA
  have HA := Lib.hid (WAll.new w W 46)
  have HB0 := Lib.hid (below_alloc (Below.refl w.heap.size w) (.cells (wordC W) 46))
  have hs : w.heap.size < (w.alloc (.cells (wordC W) 46)).heap.size := by simp
  have HS := Lib.hid hs
  clear LA hs
  unfold wordC at HA HB0 HS
  go_enter Tryz.func11, Tryz.ntmps11
  go_upto_region 1 with fail
  generalize w.alloc _ = V at HA HB0 HS ⊢
  obtain ⟨rb, hrb⟩ : ∃ rb, w.heap.size = rb := ⟨_, rfl⟩
  have HRB := Lib.hid hrb
  rw [hrb] at HA HS ⊢
  clear hrb
  have HA' : Hid (WAll V rb W) := HA
  clear HA
  go_wp2_with fail
  refine (begun10_any _ (HL.out.keep HB0.out)).mono ?_
  rintro e w1 ⟨rfl, hb⟩
  have HA1 := Lib.hid (HA'.out.low hb)
  have HB1 := Lib.hid (below_on HB0.out hb)
  have HS1 : Hid (rb < w1.heap.size) := Lib.hid (Nat.lt_of_lt_of_le HS.out hb.size)
  clear hb HA' HB0 HS
  go_wp2_with fail
  refine (new_S (w0 := w) HB1.out 1048576 1048576 (by decide)).mono ?_
  rintro e w2 ⟨g, b, rfl, hs, hb, hg, hbb⟩
  have HCs := Lib.hid hs
  have HA2 := Lib.hid (HA1.out.low hb)
  have HGe : Hid (rb < g ∧ rb < b) := Lib.hid ⟨by have := HS1.out; omega, by have := HS1.out; omega⟩
  have HSz2 : Hid (w1.heap.size ≤ w2.heap.size) := Lib.hid hb.size
  clear hs hb hg hbb
  go_wp2_with fail
  have hb3 := below_alloc (Below.refl w2.heap.size w2) (.cells #[.int .i64 1, .int .i64 2, .int .i64 3] 3)
  refine (chopen_fresh HL.out (HCs.out.low hb3) (by decide) (by decide) (zs := [1, 2, 3]) (e := 2) (by decide) (ints_litW w2 [1, 2, 3] 3) (fun q hq => by
    have h1 := HCs.out.1.ltg
    have h2 := HCs.out.1.ltb
    simp [rowB] at hq
    omega) (now := 0) (fitI_of (by omega))).mono ?_
  rintro e w3 ⟨x, f, rfl, hc, -, ho, hft⟩
  have HC : Hid (CH w w3 x wS f) := Lib.hid hc
  have HA3 := Lib.hid ((HA2.out.low hb3).keepO ho (by have := HGe.out; simp; omega))
  have HNF : Hid (∀ i ∈ foot x f, ¬ (i = rb)) := Lib.hid (fun i hi e => by
    rcases hft i hi with h | h | h
    · have := HGe.out; omega
    · have := HGe.out; omega
    · have h1 := HCs.out.2.1.size
      have h2 := HS1.out
      have h3 := HSz2.out
      simp at h; omega)
  clear hc ho hft hb3 HA2 HCs
  by_cases hnow : 0 ≤ now ∧ now ≤ 1073741824
  · have q1 : decide (now < 0) = false := by simp; omega
    have q2 : decide (1073741824 < now) = false := by simp; omega
    have k0 : w3.cell? ⟨rb, 0, none⟩ = some (Value.int .i64 W.kind) := HA3.out.cs 0 _ rfl
    have k1 : w3.cell? ⟨rb, 1, none⟩ = some (Value.int .i64 W.fr) := HA3.out.cs 1 _ rfl
    have k2 : w3.cell? ⟨rb, 2, none⟩ = some (Value.int .i64 W.tt) := HA3.out.cs 2 _ rfl
    have HRng := Lib.hid HA3.out.rng
    have HNow := Lib.hid hnow
    clear hnow
    go_wp2_with (refine wpList_load_mid rfl 46 _ rfl rb 0 rfl (wordC W).toList _ HRng.out Tryz.underlying46 rfl wordI ?_)
    refine (step_any HL.out HC.out ((newS_ok (by decide) (by decide) : OkS wS 0).mono HNow.out.1) (by have := HNow.out.2; omega) (by decide) (by decide) W (now := now) ⟨HNow.out.1, Int.le_refl _⟩).mono ?_
    rintro e w4 ⟨v, f4, rfl, hp, -, ht⟩
    have hnf : rb ∉ foot x f := fun hm => HNF.out rb hm rfl
    have hst := stepS_stay (S := wS) (kind := W.kind) (fr := W.fr) (tt := W.tt) (ep := W.ep) (now := now) (by decide)
    have HC4 := Lib.hid hp.ch
    have hk0 : w4.cell? ⟨rb, 0, none⟩ = some (.int .i64 W.kind) := hp.only.cellK (p := ⟨rb, 0, none⟩) (fun h => hnf (own_foot h)) k0
    have hk1 : w4.cell? ⟨rb, 1, none⟩ = some (.int .i64 W.fr) := hp.only.cellK (p := ⟨rb, 1, none⟩) (fun h => hnf (own_foot h)) k1
    have hk2 : w4.cell? ⟨rb, 2, none⟩ = some (.int .i64 W.tt) := hp.only.cellK (p := ⟨rb, 2, none⟩) (fun h => hnf (own_foot h)) k2
    have HSt := Lib.hid hst
    have hch : decide (0 < (stepS wS W.kind W.fr W.tt W.ep now).e2) = false := by rw [hst.1]; decide
    have hzs : (stepS wS W.kind W.fr W.tt W.ep now).zs = [1, 2, 3] := hst.2.1.trans rfl
    have hlb := wS_lease W.kind W.fr W.tt
    have hmm : (∃ q, v = .slice (some ⟨q, 0, none⟩) 1 1 ∧ W.tt = 0 ∧ W.kind = 1 ∧ 1 ≤ W.fr ∧ W.fr ≤ 3) ∨ (v = .slice none 0 0 ∧ ¬ (W.tt = 0 ∧ W.kind = 1 ∧ 1 ≤ W.fr ∧ W.fr ≤ 3)) := by
      rcases ht with ⟨h, rfl⟩ | ⟨h, q, a, c, rfl, -⟩
      · rw [hlb] at h; exact Or.inr ⟨rfl, by simpa using h⟩
      · rw [hlb] at h; exact Or.inl ⟨q, rfl, by simpa using h⟩
    have hf2 := run_ros2
    clear k0 k1 k2 hp ht hnf hst hlb q1 q2 HC HA3
    have hcase : (∃ q, v = .slice (some ⟨q, 0, none⟩) 1 1 ∧ (W.tt == 0) = true ∧ (W.kind == 1) = true ∧ decide (1 ≤ W.fr) = true ∧ decide (W.fr ≤ 3) = true) ∨ (v = .slice none 0 0 ∧ ((W.tt == 0) = false ∨ ((W.tt == 0) = true ∧ (W.kind == 1) = false) ∨ ((W.tt == 0) = true ∧ (W.kind == 1) = true ∧ decide (1 ≤ W.fr) = false) ∨ ((W.tt == 0) = true ∧ (W.kind == 1) = true ∧ decide (1 ≤ W.fr) = true ∧ decide (W.fr ≤ 3) = false))) := by
      rcases hmm with ⟨q, h, a, b, c, d⟩ | ⟨h, n⟩
      · exact Or.inl ⟨q, h, by simp [a], by simp [b], by simp [c], by simp [d]⟩
      · refine Or.inr ⟨h, ?_⟩
        by_cases a : W.tt = 0
        · by_cases b : W.kind = 1
          · by_cases c : 1 ≤ W.fr
            · exact Or.inr (Or.inr (Or.inr ⟨by simp [a], by simp [b], by simp [c], by simp; omega⟩))
            · exact Or.inr (Or.inr (Or.inl ⟨by simp [a], by simp [b], by simp; omega⟩))
          · exact Or.inr (Or.inl ⟨by simp [a], by simp [b]⟩)
        · exact Or.inl (by simp [a])
    clear hmm
    rcases hcase with ⟨q, rfl, p0, p1, p2, p3⟩ | ⟨rfl, p0 | ⟨p0, p1⟩ | ⟨p0, p1, p2⟩ | ⟨p0, p1, p2, p3⟩⟩
    all_goals
      go_wp2_with (first
        | (go_at_call 25; refine (changing_is HC4.out hch).mono ?_; rintro e' w' ⟨rfl, rfl⟩)
        | (go_at_call 24; refine (chroster_is HC4.out HSt.out.2.2.2 hzs HSt.out.2.2.1 (n := 3) rfl (by decide)).mono ?_; rintro e' w' ⟨ra, rc, rfl, -, hb⟩; have HC4 := Lib.hid (HC4.out.low hb); clear hb))
      go_ret
      exact ⟨rfl, HC4.out.below⟩
  · have hq : decide (now < 0) = true ∨ (decide (now < 0) = false ∧ decide (1073741824 < now) = true) := by
      simp only [decide_eq_true_eq, decide_eq_false_iff_not]; omega
    clear hnow HA3
    rcases hq with q1 | ⟨q1, q2⟩
    all_goals
      go_wp2_with fail
      go_ret
      exact ⟨rfl, HC.out.below⟩
end Go.Proofs.YthiphdcbboapkaaGreatDoor
namespace Go.Proofs.YthiphdcbboapkaaGreatDoor
open Go.RowKit

/-- The first one stands ahead of at most one that has to learn. -/
def OneK (zs : List Int) (nw : Int) : Prop := (zs = [1] ∧ nw = 0) ∨ ∃ k, k ≠ 1 ∧ zs = [1, k] ∧ nw = k
structure LastI (S : St) : Prop where
  r : OneK S.zs S.nw
  n : 0 < S.e2 → OneK S.zs2 S.nw2
theorem mute_mem {zs : List Int} {hd : Int → Int} {now : Int} (h : 0 < muteL zs hd now) : muteL zs hd now ∈ zs := by
  induction zs with
  | nil => exact absurd h (by show ¬ (0 : Int) < 0; omega)
  | cons x r ih =>
    have e : muteL (x :: r) hd now = if 9 < now - hd x then x else muteL r hd now := rfl
    rw [e] at h ⊢
    split
    · simp
    · rename_i hc
      rw [if_neg hc] at h
      exact List.mem_cons_of_mem _ (ih h)
theorem idx_first (k : Int) : idx [1, k] 1 = 0 := by unfold idx idxFrom; rfl
theorem idx_second {k : Int} (h : k ≠ 1) : idx [1, k] k = 1 := by
  have h1 : ¬ (1 : Int) = k := fun e => h e.symm
  simp [idx, idxFrom, nthI, h1]
theorem OneK_drop {e nw n : Int} {zs : List Int} (h : OneK zs nw) (hm : mayB e zs nw = true) (hn : n ∈ zs) (ho : (dropF e zs nw n).2.2.2 = true) : OneK (dropF e zs nw n).2.1 (dropF e zs nw n).2.2.1 := by
  have h0 := dropF_may ho
  rcases h with ⟨rfl, rfl⟩ | ⟨k, hk, rfl, rfl⟩
  · obtain rfl : n = 1 := by simpa using hn
    exfalso
    unfold dropF at ho
    split at ho
    · rename_i h1
      have := (mayB_mayL h1.2.2).2.1
      simp [idx, idxFrom, nthI] at this
    · cases ho
  · simp only [List.mem_cons, List.mem_nil_iff, or_false] at hn
    rcases hn with rfl | rfl
    · exfalso
      unfold dropF at ho
      split at ho
      · rename_i h1
        have h2 := h1.2.2
        rw [idx_first] at h2
        have h3 : newD nw 1 = nw := by unfold newD; rw [if_neg hk]
        rw [h3] at h2
        obtain ⟨-, -, -, -, hmem, -⟩ := mayB_ok hm
        have h4 := (hmem nw (by simp)).1
        have h5 := (mayB_iff.1 h2).2.2.2
        unfold newB at h5
        simp at h5
        omega
      · cases ho
    · unfold dropF at ho ⊢
      split at ho
      · rename_i h1
        rw [if_pos h1]
        left
        rw [idx_second hk]
        exact ⟨rfl, by unfold newD; rw [if_pos rfl]⟩
      · cases ho
theorem OneK_add {e nw a : Int} {zs : List Int} (h : OneK zs nw) (hm : mayB e zs nw = true) (ho : (addF e zs nw a).2.2.2 = true) : OneK (addF e zs nw a).2.1 (addF e zs nw a).2.2.1 := by
  unfold addF at ho ⊢
  split at ho
  · rename_i h1
    rw [if_pos h1]
    rcases h with ⟨rfl, rfl⟩ | ⟨k, hk, rfl, rfl⟩
    · right
      have h2 := (mayB_mayL h1.2.2).1
      have h3 := (mayL_add.1 h2).2.2.2
      exact ⟨a, by simpa using h3, rfl, rfl⟩
    · exfalso
      obtain ⟨-, -, -, -, hmem, -⟩ := mayB_ok hm
      have h4 := (hmem nw (by simp)).1
      have := h1.2.1
      omega
  · cases ho
theorem LastI.tick {S : St} {T now : Int} (h : LastI S) (hok : OkS S T) : LastI (tickS S now) := by
  unfold tickS
  split
  · rename_i h0
    split
    · exact ⟨h.n h0, fun h1 => absurd h1 (by show ¬ (0 : Int) < 0; omega)⟩
    · exact h
  · rename_i h0
    split
    · rename_i h1
      unfold nextS
      split
      · rename_i h2
        exact ⟨h.r, fun _ => OneK_drop h.r hok.may (mute_mem h1) h2⟩
      · exact ⟨h.r, fun h3 => absurd h3 h0⟩
    · split
      · unfold nextS
        split
        · rename_i h2
          exact ⟨h.r, fun _ => OneK_add h.r hok.may h2⟩
        · exact ⟨h.r, fun h3 => absurd h3 h0⟩
      · exact ⟨h.r, fun h3 => absurd h3 h0⟩
theorem LastI.step {S : St} {fr ep now : Int} (h : LastI S) : LastI (stepS S 1 fr 0 ep now) := by
  have hb : LastI (beatS S fr now) := by
    unfold beatS; split <;> exact ⟨h.r, h.n⟩
  unfold stepS
  split
  · exact h
  · rw [if_pos rfl]
    split
    · exact ⟨h.r, h.n⟩
    · exact hb
theorem LastI.first {S : St} (h : LastI S) : idx S.zs 1 = 0 := by
  rcases h.r with ⟨h1, _⟩ | ⟨k, _, h1, _⟩
  · rw [h1]; decide
  · rw [h1]; exact idx_first k
theorem last_new : LastI (newS 1 [1] 0) := ⟨Or.inl ⟨rfl, rfl⟩, fun h => absurd h (by decide)⟩
end Go.Proofs.YthiphdcbboapkaaGreatDoor
namespace Go.Proofs.YthiphdcbboapkaaGreatDoor
open Go.RowKit Go.Maps

set_option maxRecDepth 100000
theorem below_setCells {B g : Nat} {a : World} : ∀ (vs : List Value) (o : Nat) (w : World), Below B a w → B ≤ g → Below B a (w.setCells g o vs)
  | [], _, _, h, _ => h
  | v :: r, o, w, h, hg => below_setCells r (o + 1) (w.setCell ⟨g, o, none⟩ v) (h.setCell (p := ⟨g, o, none⟩) hg v) hg
theorem there_new (w : World) (cs : Array Value) (ty : TypeId) {n : Nat} (h : cs.size = n) : (w.alloc (.cells cs ty)).there w.heap.size 0 n := fun j hj => by
  subst h
  rw [Nat.zero_add, World.cell?_alloc_new]
  exact ⟨by simp [hj], World.frozen?_alloc_new _ _ _ _⟩
theorem cop_len (o : COp) : o.cells.length = 25 := rfl
theorem cop_one (o : COp) : ∀ v ∈ o.cells, v.oneCell' = true := fun v hv => by
  simp only [COp.cells, wordC, List.mem_cons, List.mem_nil_iff, or_false] at hv
  rcases hv with rfl | rfl | rfl | rfl | rfl | rfl | rfl | rfl | rfl | rfl | rfl | rfl | rfl | rfl | rfl | rfl | rfl | rfl | rfl | rfl | rfl | rfl | rfl | rfl | rfl <;> rfl
theorem op_made {w : World} {zs : Array Value} {ty : TypeId} (o : COp) (hz : zs.size = 25) : Below w.heap.size w ((w.alloc (.cells zs ty)).setCells w.heap.size 0 o.cells) ∧ ((w.alloc (.cells zs ty)).setCells w.heap.size 0 o.cells).rangeAt w.heap.size 0 o.cells :=
  ⟨below_setCells _ _ _ (below_alloc (Below.refl _ _) _) (Nat.le_refl _), World.rangeAt_setCells_same _ _ _ _ (there_new w zs ty hz)⟩
theorem opI : (Tryz.prog.info? 48).map (·.size) = some 25 := by kernel_rfl
/-- One of five. -/
theorem five (n : Int) : ∃ d j : Int, n.tmod 5 = d ∧ (d + 5).tmod 5 = j ∧ (d + 5) % 5 = j ∧ d % 5 = j ∧ -5 < d ∧ d < 5 ∧ 0 ≤ j ∧ j ≤ 4 := by
  obtain ⟨d, hd⟩ : ∃ d, n.tmod 5 = d := ⟨_, rfl⟩
  have h1 : d < 5 := by rw [← hd]; exact Int.tmod_lt_of_pos _ (by omega)
  have h2 : -5 < d := by rw [← hd]; have := Int.tmod_lt_of_pos (-n) (show (0 : Int) < 5 by omega); rw [Int.neg_tmod] at this; omega
  have h3 : (d + 5).tmod 5 = (d + 5) % 5 := Int.tmod_eq_emod_of_nonneg (by omega)
  exact ⟨d, (d + 5) % 5, hd, h3, rfl, by omega, h2, h1, by omega, by omega⟩
theorem six (n : Int) : ∃ d j : Int, n.tmod 6 = d ∧ (d + 6).tmod 6 = j ∧ (d + 6) % 6 = j ∧ d % 6 = j ∧ -6 < d ∧ d < 6 ∧ 0 ≤ j ∧ j ≤ 5 := by
  obtain ⟨d, hd⟩ : ∃ d, n.tmod 6 = d := ⟨_, rfl⟩
  have h1 : d < 6 := by rw [← hd]; exact Int.tmod_lt_of_pos _ (by omega)
  have h2 : -6 < d := by rw [← hd]; have := Int.tmod_lt_of_pos (-n) (show (0 : Int) < 6 by omega); rw [Int.neg_tmod] at this; omega
  have h3 : (d + 6).tmod 6 = (d + 6) % 6 := Int.tmod_eq_emod_of_nonneg (by omega)
  exact ⟨d, (d + 6) % 6, hd, h3, rfl, by omega, h2, h1, by omega, by omega⟩
/-- What holds behind so many operations. -/
structure LstW (w wr : World) (x : Nat) (k : Nat) (t : Int) (S : St) (f : Ft) : Prop where
  ch : CH w wr x S f
  ok : OkS S t
  la : LastI S
  kk : S.k ≤ k + 1
  mm : S.m ≤ k + 5
  t0 : 0 ≤ t
  t1 : t ≤ 5 * (k : Int)
set_option maxHeartbeats 12800000 in
theorem chiefLast_walk (a : Option Addr) (c : Nat) (L : List COp) (w : World) (hz : RowsAt w a 25 (L.map COp.cells)) (_ : L.length ≤ 9223372036854775807) (LA : Laid w) : Calls Tryz.prog 6 #[.slice a L.length c] w fun e w' => e = .returned (.bool true) ∧ Below w.heap.size w w' := by
  have HL := Lib.hid LA
  have HZ := Lib.hid hz
  clear LA hz
  go_enter Tryz.func6, Tryz.ntmps6
  go_wp2_with fail
  refine (begun10_any _ HL.out).mono ?_
  rintro e w1 ⟨rfl, hb⟩
  have HB1 := Lib.hid hb
  clear hb
  go_wp2_with fail
  refine (new_S (w0 := w) HB1.out 1048576 1048576 (by decide)).mono ?_
  rintro e w2 ⟨g, b, rfl, hs, -, -, -⟩
  have HCs := Lib.hid hs
  clear hs
  go_wp2_with fail
  have hb3 := below_alloc (Below.refl w2.heap.size w2) (.cells #[.int .i64 1] 3)
  refine (chopen_is HL.out (HCs.out.low hb3) (zs := [1]) (n := 1) rfl (e := 1) (by decide) (ints_litW w2 [1] 3) (fun q hq => by
    have h1 := HCs.out.1.ltg
    have h2 := HCs.out.1.ltb
    simp [rowB] at hq
    omega) (now := 0) (fitI_of (by omega))).mono ?_
  rintro e w3 ⟨x, f, rfl, hc, -⟩
  have HI : Hid (LstW w w3 x 0 0 (newS 1 [1] 0) f) := Lib.hid ⟨hc, newS_ok (by decide) (by decide), last_new, by decide, by decide, by decide, by decide⟩
  clear hc hb3 HCs HB1
  go_wp2_with fail
  go_loopw [6, 7] (fun n6 n7 wr => ∃ (k : Nat) (t : Int) (S : St) (f : Ft), n6 = .int .i64 t ∧ n7 = .int .i64 (k : Int) ∧ k ≤ L.length ∧ k ≤ 60 ∧ LstW w wr x k t S f) (fun _ n7 _ => 61 - (intOf n7).toNat)
  case atStart => exact ⟨0, 0, _, f, rfl, rfl, Nat.zero_le _, by decide, HI.out⟩
  case round =>
    obtain ⟨k, t, S, f2, rfl, rfl, hk, hk60, hi⟩ := hrel
    have HI2 := Lib.hid hi
    clear hi HI
    by_cases hlt : k < L.length ∧ k < 60
    · obtain ⟨hlt, h60⟩ := hlt
      have p1 : decide ((k : Int) < (L.length : Int)) = true := decide_eq_true (by omega)
      have p2 : decide ((k : Int) < 60) = true := decide_eq_true (by omega)
      rcases HZ.out with h | ⟨q, o, rfl, hq, hcs⟩
      · exfalso; have : L = [] := by simpa using h
        rw [this] at hlt; simp at hlt
      obtain ⟨op, hop⟩ : ∃ op, L[k]? = some op := ⟨_, List.getElem?_eq_getElem hlt⟩
      have hr0 : w.rangeAt q (o + k * 25) op.cells := fun j v hv => hcs k _ (by rw [List.getElem?_map, hop]; rfl) j v hv
      have hr1 : wr.rangeAt q (o + k * 25) op.cells := fun j v hv => cell_keep HI2.out.ch.below (hr0 j v hv)
      have HRng := Lib.hid hr1
      have HOne := Lib.hid (all_oneCell_toArray (cop_one op))
      clear hr0 hr1 hcs hop hq
      go_upto_region 12 with (first
        | (refine wpList_load_mid rfl 48 _ rfl q (o + k * 25) rfl op.cells _ HRng.out Tryz.underlying48 rfl opI ?_)
        | (refine wpList_store_mid rfl 48 _ _ rfl _ 0 op.cells.toArray rfl rfl (there_new _ _ _ rfl) opI HOne.out ?_))
      obtain ⟨hbW, hrW⟩ := op_made (w := wr) (zs := #[.int .i64 0, .int .i64 0, .int .i64 0, .bool false, .int .i64 0, .int .i64 0, .int .i64 0, .int .i64 0, .int .i64 0, .int .i64 0, .int .i64 0, .int .i64 0, .int .i64 0, .int .i64 0, .slice none 0 0, .int .i64 0, .slice none 0 0, .int .i64 0, .slice none 0 0, .slice none 0 0, .int .i64 0, .int .i64 0, .int .i64 0, .int .i64 0, .int .i64 0]) (ty := 48) op rfl
      have HC1 := Lib.hid (HI2.out.ch.low hbW)
      have k0 := hrW 0 _ rfl
      have k1 := hrW 1 _ rfl
      have k2 := hrW 2 _ rfl
      rw [Nat.zero_add] at k0 k1 k2
      change _ = some (Value.int .i64 op.kind) at k0
      change _ = some (Value.int .i64 op.n) at k1
      change _ = some (Value.int .i64 op.fr) at k2
      clear hbW hrW HRng HOne
      generalize World.setCells (wr.alloc _) wr.heap.size 0 op.cells = W1 at HC1 k0 k1 k2 ⊢
      generalize wr.heap.size = qb at k0 k1 k2 ⊢
      have hwk : IntKind.i64.wrap ((k : Int) + 1) = (k : Int) + 1 := IntWalk.i64_in _ (by omega)
      have hT0 := HI2.out.t0
      have hT1 := HI2.out.t1
      by_cases h3 : op.kind < 3
      case' pos =>
        have p3 : decide (op.kind < 3) = true := decide_eq_true h3
        obtain ⟨d, j, m1, m2, m3, m4, m5, m6, m7, m8⟩ := five op.fr
        have n1 : IntKind.i64.wrap (d + 5) = d + 5 := IntWalk.i64_in _ (by omega)
        have n2 : IntKind.i64.wrap (1 + j) = 1 + j := IntWalk.i64_in _ (by omega)
        have n3 : IntKind.i64.wrap d = d := IntWalk.i64_in _ (by omega)
        have n4 : IntKind.i64.wrap j = j := IntWalk.i64_in _ (by omega)
        have HSt := Lib.hid (step_any HL.out HC1.out HI2.out.ok (by omega) (by have := HI2.out.kk; omega) (by have := HI2.out.mm; omega) (wd 1 (1 + j) 0) (now := t) ⟨hT0, Int.le_refl _⟩)
        clear h3
        go_wp2_with (go_at_call 18; refine HSt.out.mono ?_; rintro e' w6 ⟨v6, f6, rfl, hp6, -, -⟩; obtain ⟨S6, hS6⟩ : ∃ S6, stepS S (wd 1 (1 + j) 0).kind (wd 1 (1 + j) 0).fr (wd 1 (1 + j) 0).tt (wd 1 (1 + j) 0).ep t = S6 := ⟨_, rfl⟩; have HN : Hid (LstW w w6 x (k + 1) t S6 f6) := Lib.hid (by rw [← hS6]; have hk6 := stepS_k S 1 (1 + j) 0 0 t; have h6 := hk6.2.2 (by decide); have h7 := HI2.out.kk; have h8 := HI2.out.mm; exact ⟨hp6.ch, stepS_ok HI2.out.ok ⟨hT0, Int.le_refl _⟩, HI2.out.la.step, (by show (stepS S 1 (1 + j) 0 0 t).k ≤ k + 1 + 1; omega), (by show (stepS S 1 (1 + j) 0 0 t).m ≤ k + 1 + 5; omega), hT0, by omega⟩); clear hp6 hS6)
      case' neg =>
        have p3 : decide (op.kind < 3) = false := decide_eq_false h3
        obtain ⟨d, j, m1, m2, m3, m4, m5, m6, m7, m8⟩ := six op.n
        have n1 : IntKind.i64.wrap (d + 6) = d + 6 := IntWalk.i64_in _ (by omega)
        have n2 : IntKind.i64.wrap (t + j) = t + j := IntWalk.i64_in _ (by omega)
        have n3 : IntKind.i64.wrap d = d := IntWalk.i64_in _ (by omega)
        have n4 : IntKind.i64.wrap j = j := IntWalk.i64_in _ (by omega)
        have HTk := Lib.hid (tick_any HL.out HC1.out (HI2.out.ok.mono (show t ≤ t + j by omega)) (by omega) (by have := HI2.out.kk; omega) (now := t + j) ⟨by omega, Int.le_refl _⟩)
        clear h3
        go_wp2_with (go_at_call 20; refine HTk.out.mono ?_; rintro e' w6 ⟨rfl, f6, hp6, -⟩; obtain ⟨S6, hS6⟩ : ∃ S6, tickS S (t + j) = S6 := ⟨_, rfl⟩; have HN : Hid (LstW w w6 x (k + 1) (t + j) S6 f6) := Lib.hid (by rw [← hS6]; have hk6 := tickS_k S (t + j); have h7 := HI2.out.kk; have h8 := HI2.out.mm; have h9 := lo_k HI2.out.ok; exact ⟨hp6.ch, tickS_ok (HI2.out.ok.mono (by omega)) ⟨by omega, Int.le_refl _⟩, HI2.out.la.tick HI2.out.ok, by omega, by omega, by omega, by omega⟩); clear hp6 hS6)
      all_goals
        have hl6 : S6.zs.length ≤ 5 := (mayB_mayL HN.out.ok.may).2.2
        have HF6 := Lib.hid HN.out.la.first
        have HM6 := Lib.hid HN.out.ok.may
        refine (chroster_is HN.out.ch rfl rfl rfl rfl hl6).mono ?_
        rintro e7 w7 ⟨ra, rc, rfl, hown, hb7⟩
        have hb8 := below_alloc (Below.refl w7.heap.size w7) (.cells #[.int .i64 S6.e, .slice ra S6.zs.length rc, .int .i64 S6.nw] 24)
        have HX8 := Lib.hid (B3.new w7 (.int .i64 S6.e) (.slice ra S6.zs.length rc) (.int .i64 S6.nw) 24)
        have HZ8 : Hid (IntsAt _ ra S6.zs) := Lib.hid ((own_ints hown).keep hb8)
        have HC8 := Lib.hid ((HN.out.ch.low hb7).low hb8)
        clear hown hb7 hb8 HC1 k0 k1 k2
        go_upto_region 17 with fail
        generalize w7.alloc (.cells #[.int .i64 S6.e, .slice ra S6.zs.length rc, .int .i64 S6.nw] 24) = W8 at HX8 HZ8 HC8 ⊢
        generalize w7.heap.size = r8 at HX8 ⊢
        obtain ⟨y0, y1, y2, -⟩ := HX8.out
        go_wp2_with (first
          | (go_at_call 28; refine (spot_any S6.e S6.nw 1 ra rc S6.zs _ (by omega) HZ8.out).mono ?_; rw [HF6.out]; rintro e' w' ⟨rfl, hb⟩; have HX9 := Lib.hid (HX8.out.keep hb); have HZ9 := Lib.hid (HZ8.out.keep hb); have HC9 := Lib.hid (HC8.out.low hb); clear hb y0 y1 y2; obtain ⟨y0, y1, y2, -⟩ := HX9.out)
          | (go_at_call 29; refine (mayRoster_any S6.e S6.nw ra rc S6.zs _ (by omega) HZ9.out).mono ?_; rw [HM6.out]; rintro e' w' ⟨rfl, hb⟩; have HC10 := Lib.hid (HC9.out.low hb); clear hb))
        go_roundw
        case rel => exact ⟨k + 1, _, S6, f6, rfl, by go_num, by omega, by omega, HC10.out, HN.out.ok, HN.out.la, HN.out.kk, HN.out.mm, HN.out.t0, HN.out.t1⟩
        case measure => simp [intOf]; omega
    · by_cases h1 : k < L.length
      · have p1 : decide ((k : Int) < (L.length : Int)) = true := decide_eq_true (by omega)
        have p2 : decide ((k : Int) < 60) = false := decide_eq_false (by omega)
        clear hlt
        go_wp2_with fail
        go_ret
        exact ⟨rfl, HI2.out.ch.below⟩
      · have p1 : decide ((k : Int) < (L.length : Int)) = false := decide_eq_false (by omega)
        clear hlt
        go_wp2_with fail
        go_ret
        exact ⟨rfl, HI2.out.ch.below⟩
end Go.Proofs.YthiphdcbboapkaaGreatDoor
namespace Go.Proofs.YthiphdcbboapkaaGreatDoor
open Go.RowKit Go.Maps

set_option maxRecDepth 100000
theorem beatS_un (S : St) (n now : Int) : S.un ≤ (beatS S n now).un ∧ (beatS S n now).e = S.e := by unfold beatS; split <;> exact ⟨by simp only; omega, rfl⟩
theorem stepS_un (S : St) (kind fr tt ep now : Int) : S.un ≤ (stepS S kind fr tt ep now).un ∧ (stepS S kind fr tt ep now).e = S.e := by
  have hb := beatS_un S fr now
  unfold stepS
  split
  · exact ⟨Int.le_refl _, rfl⟩
  · split
    · split
      · exact ⟨Int.le_refl _, rfl⟩
      · exact hb
    · split <;> exact ⟨Int.le_refl _, rfl⟩
theorem nextS_un (S : St) (r : Int × List Int × Int × Bool) : (nextS S r).un = S.un ∧ (nextS S r).e = S.e := by unfold nextS; split <;> exact ⟨rfl, rfl⟩
theorem tickS_un {S : St} {T now : Int} (h : OkS S T) : (tickS S now).un = S.un ∧ ((tickS S now).e = S.e ∨ (tickS S now).e = S.e + 1 ∧ S.un < now) := by
  unfold tickS
  split
  · rename_i h0
    split
    · rename_i h1
      refine ⟨rfl, Or.inr ⟨?_, h1⟩⟩
      show S.e2 = S.e + 1
      rcases h.nx with h2 | h2
      · omega
      · exact h2.2.2.1
    · exact ⟨rfl, Or.inl rfl⟩
  · split
    · exact ⟨(nextS_un _ _).1, Or.inl (nextS_un _ _).2⟩
    · split
      · exact ⟨(nextS_un _ _).1, Or.inl (nextS_un _ _).2⟩
      · exact ⟨rfl, Or.inl rfl⟩
theorem three (n : Int) : ∃ d j : Int, n.tmod 3 = d ∧ (d + 3).tmod 3 = j ∧ (d + 3) % 3 = j ∧ d % 3 = j ∧ -3 < d ∧ d < 3 ∧ 0 ≤ j ∧ j ≤ 2 := by
  obtain ⟨d, hd⟩ : ∃ d, n.tmod 3 = d := ⟨_, rfl⟩
  have h1 : d < 3 := by rw [← hd]; exact Int.tmod_lt_of_pos _ (by omega)
  have h2 : -3 < d := by rw [← hd]; have := Int.tmod_lt_of_pos (-n) (show (0 : Int) < 3 by omega); rw [Int.neg_tmod] at this; omega
  have h3 : (d + 3).tmod 3 = (d + 3) % 3 := Int.tmod_eq_emod_of_nonneg (by omega)
  exact ⟨d, (d + 3) % 3, hd, h3, rfl, by omega, h2, h1, by omega, by omega⟩
structure LsW (w wr : World) (x : Nat) (k : Nat) (t u : Int) (S : St) (f : Ft) : Prop where
  ch : CH w wr x S f
  ok : OkS S t
  kk : S.k ≤ k + 1
  mm : S.m ≤ k + 5
  t0 : 0 ≤ t
  t1 : t ≤ 2 * (k : Int)
  u0 : 0 ≤ u
  u1 : u ≤ S.un
theorem WAll.set0 {w : World} {q : Nat} {ep j K : Int} (h : WAll w q (wd K (1 + j) ep)) (K' : Int) : WAll (w.setCell ⟨q, 0, none⟩ (.int .i64 K')) q (wd K' (1 + j) ep) := ⟨fun i v hv => by
  match i with
  | 0 =>
    have e : v = .int .i64 K' := (Option.some.inj hv).symm
    subst e
    exact World.cell?_setCell_same _ _ _ (h.cs 0 _ rfl)
  | i + 1 =>
    rw [World.cell?_setCell_other _ _ _ _ (fun e => by injection e with h1 h2; omega)]
    refine h.cs (i + 1) v ?_
    rw [← hv]
    simp [wordC, wd]⟩
/-- The word that the law makes. -/
abbrev lw (K j ep : Int) : Wd := wd K (1 + j) ep
theorem lease_one {fr e un : Int} {a : Option Addr} {n c : Nat} {nw : Int} : ∀ v ∈ (leaseA fr e a n c nw un).toList, v.oneCell' = true := fun v hv => by
  simp only [leaseA, List.mem_cons, List.mem_nil_iff, or_false] at hv
  rcases hv with rfl | rfl | rfl | rfl | rfl | rfl | rfl | rfl | rfl | rfl | rfl | rfl | rfl | rfl | rfl | rfl | rfl | rfl | rfl | rfl | rfl <;> rfl
theorem LeaseAt.rng {w : World} {q : Nat} {fr e : Int} {zs : List Int} {nw un : Int} {a : Option Addr} {c : Nat} (h : LeaseAt w q fr e zs nw un a c) : w.rangeAt q 0 (leaseA fr e a zs.length c nw un).toList := fun j v hv => by rw [Nat.zero_add]; exact h.cs j v (by simpa using hv)
theorem lease_made {w : World} {zs : Array Value} {ty : TypeId} {fr e un : Int} {a : Option Addr} {n c : Nat} {nw : Int} (hz : zs.size = 21) : Below w.heap.size w ((w.alloc (.cells zs ty)).setCells w.heap.size 0 (leaseA fr e a n c nw un).toList) ∧ ((w.alloc (.cells zs ty)).setCells w.heap.size 0 (leaseA fr e a n c nw un).toList).rangeAt w.heap.size 0 (leaseA fr e a n c nw un).toList :=
  ⟨below_setCells _ _ _ (below_alloc (Below.refl _ _) _) (Nat.le_refl _), World.rangeAt_setCells_same _ _ _ _ (there_new w zs ty hz)⟩
/-- A lease's cells in a row. -/
def leaseL (fr e : Int) (a : Option Addr) (n c : Nat) (nw un : Int) : List Value := (leaseA fr e a n c nw un).toList
theorem lease_oneL {fr e un : Int} {a : Option Addr} {n c : Nat} {nw : Int} : ((leaseL fr e a n c nw un).toArray.all fun v => v.oneCell') = true := all_oneCell_toArray lease_one
theorem lease_rngL {w : World} {q : Nat} {fr e : Int} {zs : List Int} {nw un : Int} {a : Option Addr} {c : Nat} (h : LeaseAt w q fr e zs nw un a c) : w.rangeAt q 0 (leaseL fr e a zs.length c nw un) := h.rng
theorem lease_madeL {w : World} {zs : Array Value} {ty : TypeId} {fr e un : Int} {a : Option Addr} {n c : Nat} {nw : Int} (hz : zs.size = 21) : Below w.heap.size w ((w.alloc (.cells zs ty)).setCells w.heap.size 0 (leaseL fr e a n c nw un)) ∧ ((w.alloc (.cells zs ty)).setCells w.heap.size 0 (leaseL fr e a n c nw un)).rangeAt w.heap.size 0 (leaseL fr e a n c nw un) := lease_made hz
theorem stepS_lease (S : St) (fr ep now : Int) (hl : leaseB S 1 fr 0 = true) : now + 6 ≤ (stepS S 1 fr 0 ep now).un := by
  unfold leaseB at hl
  have h := of_decide_eq_true hl
  unfold stepS
  rw [if_neg (by omega), if_pos rfl, if_neg (by omega)]
  unfold beatS
  rw [if_neg h.2.2.2.2.2]
  show now + 6 ≤ max S.un (now + 6)
  omega
theorem word_rng {w : World} {zs : Array Value} {ty : TypeId} {W : Wd} (hz : zs.size = 21) : ((w.alloc (.cells zs ty)).setCells w.heap.size 0 (wordC W).toList).rangeAt w.heap.size 0 (wordC W).toList := World.rangeAt_setCells_same _ _ _ _ (there_new w zs ty hz)
/-- A word in a block that was made for it. -/
theorem word_made {w : World} {zs : Array Value} {ty : TypeId} {W : Wd} (hz : zs.size = 21) : Below w.heap.size w ((w.alloc (.cells zs ty)).setCells w.heap.size 0 (wordC W).toList) ∧ WAll ((w.alloc (.cells zs ty)).setCells w.heap.size 0 (wordC W).toList) w.heap.size W ∧ ((w.alloc (.cells zs ty)).setCells w.heap.size 0 (wordC W).toList).frozen? ⟨w.heap.size, 0, none⟩ = false :=
  ⟨below_setCells _ _ _ (below_alloc (Below.refl _ _) _) (Nat.le_refl _), ⟨fun i v hv => by
    have h := word_rng (w := w) (ty := ty) (W := W) hz i v (by simpa using hv)
    rwa [Nat.zero_add] at h⟩, (World.frozen?_setCells _ _ _ _ _).trans (World.frozen?_alloc_new _ _ _ _)⟩
theorem word_oneL {kind fr ep : Int} : ∀ v ∈ (wordC (wd kind fr ep)).toList, v.oneCell' = true := fun v hv => by
  simp only [wordC, wd, List.mem_cons, List.mem_nil_iff, or_false] at hv
  rcases hv with rfl | rfl | rfl | rfl | rfl | rfl | rfl | rfl | rfl | rfl | rfl | rfl | rfl | rfl | rfl | rfl | rfl | rfl | rfl | rfl | rfl <;> rfl
theorem word_one {kind fr ep : Int} : ((wordC (wd kind fr ep)).all fun v => v.oneCell') = true := all_oneCell_toArray word_oneL
set_option maxHeartbeats 25600000 in
theorem chiefLeases_walk (a : Option Addr) (c : Nat) (L : List COp) (w : World) (hz : RowsAt w a 25 (L.map COp.cells)) (_ : L.length ≤ 9223372036854775807) (LA : Laid w) : Calls Tryz.prog 4 #[.slice a L.length c] w fun e w' => e = .returned (.bool true) ∧ Below w.heap.size w w' := by
  have HL := Lib.hid LA
  have HZ := Lib.hid hz
  clear LA hz
  go_enter Tryz.func4, Tryz.ntmps4
  go_wp2_with fail
  refine (begun10_any _ HL.out).mono ?_
  rintro e w1 ⟨rfl, hb⟩
  have HB1 := Lib.hid hb
  clear hb
  go_wp2_with fail
  refine (new_S (w0 := w) HB1.out 1048576 1048576 (by decide)).mono ?_
  rintro e w2 ⟨g, b, rfl, hs, -, -, -⟩
  have HCs := Lib.hid hs
  clear hs
  go_wp2_with fail
  have hb3 := below_alloc (Below.refl w2.heap.size w2) (.cells #[.int .i64 1, .int .i64 2, .int .i64 3] 3)
  refine (chopen_is HL.out (HCs.out.low hb3) (zs := [1, 2, 3]) (n := 3) rfl (e := 1) (by decide) (ints_litW w2 [1, 2, 3] 3) (fun q hq => by
    have h1 := HCs.out.1.ltg
    have h2 := HCs.out.1.ltb
    simp [rowB] at hq
    omega) (now := 0) (fitI_of (by omega))).mono ?_
  rintro e w3 ⟨x, f, rfl, hc, -⟩
  have HI : Hid (LsW w w3 x 0 0 0 (newS 1 [1, 2, 3] 0) f) := Lib.hid ⟨hc, newS_ok (by decide) (by decide), by decide, by decide, by decide, by decide, by decide, by decide⟩
  clear hc hb3 HCs HB1
  go_wp2_with fail
  go_loopw [5, 8, 9, 10] (fun n5 n8 n9 n10 wr => ∃ (k : Nat) (t u : Int) (S : St) (f : Ft), n5 = .int .i64 t ∧ n8 = .int .i64 u ∧ n9 = .int .i64 S.e ∧ n10 = .int .i64 (k : Int) ∧ k ≤ L.length ∧ k ≤ 80 ∧ LsW w wr x k t u S f) (fun _ _ _ n10 _ => 81 - (intOf n10).toNat)
  case atStart => exact ⟨0, 0, 0, _, f, rfl, rfl, rfl, rfl, Nat.zero_le _, by decide, HI.out⟩
  case round =>
    obtain ⟨k, t, u, S, f2, rfl, rfl, rfl, rfl, hk, hk60, hi⟩ := hrel
    have HI2 := Lib.hid hi
    clear hi HI
    by_cases hlt : k < L.length ∧ k < 80
    · obtain ⟨hlt, h60⟩ := hlt
      have p1 : decide ((k : Int) < (L.length : Int)) = true := decide_eq_true (by omega)
      have p2 : decide ((k : Int) < 80) = true := decide_eq_true (by omega)
      rcases HZ.out with h | ⟨q, o, rfl, hq, hcs⟩
      · exfalso; have : L = [] := by simpa using h
        rw [this] at hlt; simp at hlt
      obtain ⟨op, hop⟩ : ∃ op, L[k]? = some op := ⟨_, List.getElem?_eq_getElem hlt⟩
      have hr0 : w.rangeAt q (o + k * 25) op.cells := fun j v hv => hcs k _ (by rw [List.getElem?_map, hop]; rfl) j v hv
      have hr1 : wr.rangeAt q (o + k * 25) op.cells := fun j v hv => cell_keep HI2.out.ch.below (hr0 j v hv)
      have HRng := Lib.hid hr1
      have HOne := Lib.hid (all_oneCell_toArray (cop_one op))
      clear hr0 hr1 hcs hop hq
      go_upto_region 14 with (first
        | (refine wpList_load_mid rfl 48 _ rfl q (o + k * 25) rfl op.cells _ HRng.out Tryz.underlying48 rfl opI ?_)
        | (refine wpList_store_mid rfl 48 _ _ rfl _ 0 op.cells.toArray rfl rfl (there_new _ _ _ rfl) opI HOne.out ?_))
      obtain ⟨hbW, hrW⟩ := op_made (w := wr) (zs := #[.int .i64 0, .int .i64 0, .int .i64 0, .bool false, .int .i64 0, .int .i64 0, .int .i64 0, .int .i64 0, .int .i64 0, .int .i64 0, .int .i64 0, .int .i64 0, .int .i64 0, .int .i64 0, .slice none 0 0, .int .i64 0, .slice none 0 0, .int .i64 0, .slice none 0 0, .slice none 0 0, .int .i64 0, .int .i64 0, .int .i64 0, .int .i64 0, .int .i64 0]) (ty := 48) op rfl
      have HC1 := Lib.hid (HI2.out.ch.low hbW)
      have k0 := hrW 0 _ rfl
      have k1 := hrW 1 _ rfl
      have k2 := hrW 2 _ rfl
      rw [Nat.zero_add] at k0 k1 k2
      change _ = some (Value.int .i64 op.kind) at k0
      change _ = some (Value.int .i64 op.n) at k1
      change _ = some (Value.int .i64 op.fr) at k2
      clear hbW hrW HRng HOne
      generalize World.setCells (wr.alloc _) wr.heap.size 0 op.cells = W1 at HC1 k0 k1 k2 ⊢
      generalize wr.heap.size = qb at k0 k1 k2 ⊢
      have hwk : IntKind.i64.wrap ((k : Int) + 1) = (k : Int) + 1 := IntWalk.i64_in _ (by omega)
      have hT0 := HI2.out.t0
      have hT1 := HI2.out.t1
      have hkd : (op.kind = 0 ∨ op.kind = 2) ∨ op.kind = 1 ∨ ((op.kind == 0) = false ∧ (op.kind == 1) = false ∧ (op.kind == 2) = false) := by
        by_cases a1 : op.kind = 0
        · exact Or.inl (Or.inl a1)
        · by_cases a2 : op.kind = 2
          · exact Or.inl (Or.inr a2)
          · by_cases a3 : op.kind = 1
            · exact Or.inr (Or.inl a3)
            · exact Or.inr (Or.inr ⟨by simpa using a1, by simpa using a3, by simpa using a2⟩)
      have HKd := Lib.hid hkd
      clear hkd
      go_upto_block 2 with fail
      go_cut [5, 8, 12, 14] from 30 to 127 (fun n5 n8 _n12 _n14 wx => ∃ (t' u' : Int) (S6 : St) (f6 : Ft), n5 = .int .i64 t' ∧ n8 = .int .i64 u' ∧ LsW w wx x (k + 1) t' u' S6 f6 ∧ (S6.e = S.e ∨ S6.e = S.e + 1 ∧ u' < t'))
      case first =>
        rcases HKd.out with hkd | hkd | ⟨c0, c1, c2⟩
        case inr.inr =>
          obtain ⟨d, j, m1, m2, m3, m4, m5, m6, m7, m8⟩ := three op.n
          have n1 : IntKind.i64.wrap (d + 3) = d + 3 := IntWalk.i64_in _ (by omega)
          have n2 : IntKind.i64.wrap (t + j) = t + j := IntWalk.i64_in _ (by omega)
          have n3 : IntKind.i64.wrap d = d := IntWalk.i64_in _ (by omega)
          have n4 : IntKind.i64.wrap j = j := IntWalk.i64_in _ (by omega)
          have HTk := Lib.hid (tick_any HL.out HC1.out (HI2.out.ok.mono (show t ≤ t + j by omega)) (by omega) (by have := HI2.out.kk; omega) (now := t + j) ⟨by omega, Int.le_refl _⟩)
          have hun := tickS_un (now := t + j) HI2.out.ok
          obtain ⟨S6, hS6⟩ : ∃ S6, tickS S (t + j) = S6 := ⟨_, rfl⟩
          have HN0 : Hid (∀ w6 f6, CH w w6 x S6 f6 → LsW w w6 x (k + 1) (t + j) u S6 f6) := Lib.hid (fun w6 f6 hc => by
            have hk6 := tickS_k S (t + j)
            rw [hS6] at hk6 hun
            have h7 := HI2.out.kk
            have h8 := HI2.out.mm
            have h9 := lo_k HI2.out.ok
            have h10 := HI2.out.u1
            exact ⟨hc, by rw [← hS6]; exact tickS_ok (HI2.out.ok.mono (by omega)) ⟨by omega, Int.le_refl _⟩, by omega, by omega, by omega, by omega, HI2.out.u0, by rw [hun.1]; exact h10⟩)
          rw [hS6] at HTk hun
          have HCs : Hid (S6.e = S.e ∨ S6.e = S.e + 1 ∧ u < t + j) := Lib.hid (by
            have h10 := HI2.out.u1
            rcases hun.2 with h | ⟨h, h'⟩
            · exact Or.inl h
            · exact Or.inr ⟨h, by omega⟩)
          clear hS6 hun
          go_wp2_with (go_at_call 20; refine HTk.out.mono ?_; rintro e' w6 ⟨rfl, f6, hp6, -⟩; have HN := Lib.hid (HN0.out _ _ hp6.ch); clear hp6)
          go_meet
          exact ⟨t + j, u, S6, f6, rfl, rfl, HN.out, HCs.out⟩
        case inr.inl =>
          have c0 : (op.kind == 0) = false := by simp [hkd]
          have c1 : (op.kind == 1) = true := by simp [hkd]
          clear hkd
          obtain ⟨d, j, m1, m2, m3, m4, m5, m6, m7, m8⟩ := five op.fr
          have n1 : IntKind.i64.wrap (d + 5) = d + 5 := IntWalk.i64_in _ (by omega)
          have n2 : IntKind.i64.wrap (1 + j) = 1 + j := IntWalk.i64_in _ (by omega)
          have n3 : IntKind.i64.wrap d = d := IntWalk.i64_in _ (by omega)
          have n4 : IntKind.i64.wrap j = j := IntWalk.i64_in _ (by omega)
          have HOw := Lib.hid (word_one (kind := 1) (fr := 1 + j) (ep := S.e))
          go_upto_region 21 with (refine wpList_store_mid rfl 46 _ _ rfl _ 0 (wordC (lw 1 j S.e)) rfl rfl (there_new _ _ _ rfl) wordI HOw.out ?_)
          obtain ⟨hbv, hav, fv⟩ := word_made (w := W1) (zs := #[.int .i64 0, .int .i64 0, .int .i64 0, .int .i64 0, .int .i64 0, .int .i64 0, .int .i64 0, .int .i64 0, .int .i64 0, .int .i64 0, .slice none 0 0, .int .i64 0, .slice none 0 0, .int .i64 0, .slice none 0 0, .slice none 0 0, .int .i64 0, .int .i64 0, .int .i64 0, .int .i64 0, .int .i64 0]) (ty := 46) (W := lw 1 j S.e) rfl
          have k0' := cell_keep hbv k0
          have HC2 := Lib.hid (HC1.out.low hbv)
          have HVn : Hid (∀ i ∈ foot x f2, ¬ (i = W1.heap.size)) := Lib.hid (fun i hi e => by have := HC1.out.lt i hi; omega)
          have HWv : Hid (w.heap.size ≤ W1.heap.size) := Lib.hid HC1.out.below.size
          have hqv : ¬ (qb = W1.heap.size) := by have := cell_old k0; exact Nat.ne_of_lt this
          clear k0 k1 k2 hbv
          generalize World.setCells (W1.alloc _) W1.heap.size 0 _ = W2 at k0' HC2 hav fv ⊢
          generalize W1.heap.size = vb at hav fv HVn HWv hqv ⊢
          have HAv : Hid (WAll W2 vb (lw 1 j S.e)) := Lib.hid hav
          have v0 : W2.cell? ⟨vb, 0, none⟩ = some (.int .i64 1) := hav.cs 0 _ rfl
          clear hav
          have HAw : Hid (WAll (W2.setCell ⟨vb, 0, none⟩ (.int .i64 11)) vb (lw 11 j S.e)) := Lib.hid (HAv.out.set0 11)
          have HC3 : Hid (CH w (W2.setCell ⟨vb, 0, none⟩ (.int .i64 11)) x S f2) := Lib.hid (HC2.out.keep (only_one 0 _) (fun i hi hm => by simp at hm; exact HVn.out i hi hm) (fun i hi => by simp at hi; have := HWv.out; omega))
          go_upto_region 23 with fail
          clear k0' v0 fv HAv HC2
          generalize W2.setCell ⟨vb, 0, none⟩ (.int .i64 11) = W3 at HAw HC3 ⊢
          have HRw := Lib.hid HAw.out.rng
          have HSt := Lib.hid (step_any HL.out HC3.out HI2.out.ok (by omega) (by have := HI2.out.kk; omega) (by have := HI2.out.mm; omega) (lw 11 j S.e) (now := t) ⟨hT0, Int.le_refl _⟩)
          have hun := stepS_un S 11 (1 + j) 0 S.e t
          have hk6 := stepS_k S 11 (1 + j) 0 S.e t
          obtain ⟨S6, hS6⟩ : ∃ S6, stepS S 11 (1 + j) 0 S.e t = S6 := ⟨_, rfl⟩
          have HSt2 : Hid (Calls Tryz.prog 18 #[.pointer (some ⟨x, 0, none⟩), .agg (wordC (lw 11 j S.e)), .int .i64 t] W3 fun e' w' => e' = .returned (.slice none 0 0) ∧ ∃ f6, LsW w w' x (k + 1) t u S6 f6) := Lib.hid (HSt.out.mono (by
            rintro e' w' ⟨v, f6, rfl, hp, -, ht⟩
            obtain rfl := told_no ht (by unfold leaseB; exact decide_eq_false (fun h => absurd (show (11 : Int) = 1 from h.2.2.2.1) (by decide)))
            have hc : CH w w' x S6 f6 := by rw [← hS6]; exact hp.ch
            have h7 := HI2.out.kk
            have h8 := HI2.out.mm
            have h10 := HI2.out.u1
            rw [hS6] at hk6 hun
            exact ⟨rfl, f6, hc, by rw [← hS6]; exact stepS_ok HI2.out.ok ⟨hT0, Int.le_refl _⟩, by omega, by omega, hT0, by omega, HI2.out.u0, by omega⟩))
          have HEq : Hid (S6.e = S.e) := Lib.hid (by rw [← hS6]; exact hun.2)
          clear hun hk6 hS6 HSt
          go_wp2_with (first
            | (refine wpList_load_mid rfl 46 _ rfl vb 0 rfl (wordC (lw 11 j S.e)).toList _ HRw.out Tryz.underlying46 rfl wordI ?_)
            | (go_at_call 18; refine HSt2.out.mono ?_; rintro e' w6 ⟨rfl, f6, hn6⟩; have HN := Lib.hid hn6; clear hn6))
          go_loopw [8, 77] (fun n8 n77 wi => n8 = .int .i64 u ∧ n77 = .int .i64 0 ∧ wi = w6) (fun _ _ _ => 0)
          case atStart => exact ⟨rfl, rfl, rfl⟩
          case round =>
            obtain ⟨rfl, rfl, rfl⟩ := hrel
            go_wp2_with fail
            go_meet
            exact ⟨t, u, S6, f6, rfl, rfl, HN.out, Or.inl HEq.out⟩
        case inl =>
          have c1 : (op.kind == 1) = false := by rcases hkd with h | h <;> simp [h]
          obtain ⟨d, j, m1, m2, m3, m4, m5, m6, m7, m8⟩ := five op.fr
          have n1 : IntKind.i64.wrap (d + 5) = d + 5 := IntWalk.i64_in _ (by omega)
          have n2 : IntKind.i64.wrap (1 + j) = 1 + j := IntWalk.i64_in _ (by omega)
          have n3 : IntKind.i64.wrap d = d := IntWalk.i64_in _ (by omega)
          have n4 : IntKind.i64.wrap j = j := IntWalk.i64_in _ (by omega)
          have HOw := Lib.hid (word_one (kind := 1) (fr := 1 + j) (ep := S.e))
          have n5 : IntKind.i64.wrap (t + 6) = t + 6 := IntWalk.i64_in _ (by omega)
          have HKe := Lib.hid hkd
          clear hkd
          go_upto_if 56 with fail
          go_cut [56] from 57 to 59 (fun v wx => v = .bool true ∧ W1 = wx)
          case first =>
            rcases HKe.out with hkd | hkd
            · have c0 : (op.kind == 0) = true := by simp [hkd]
              clear hkd
              go_wp2_with fail
              go_meet
              first | exact ⟨rfl, rfl⟩ | exact ⟨congrArg Value.bool c0, rfl⟩
            · have c0 : (op.kind == 0) = false := by simp [hkd]
              have c2 : (op.kind == 2) = true := by simp [hkd]
              clear hkd
              go_wp2_with fail
              go_meet
              first | exact ⟨rfl, rfl⟩ | exact ⟨congrArg Value.bool c2, rfl⟩
          case rest =>
            obtain ⟨rfl, rfl⟩ := hcut
            go_upto_region 21 with (refine wpList_store_mid rfl 46 _ _ rfl _ 0 (wordC (lw 1 j S.e)) rfl rfl (there_new _ _ _ rfl) wordI HOw.out ?_)
            obtain ⟨hbv, hav, -⟩ := word_made (w := W1) (zs := #[.int .i64 0, .int .i64 0, .int .i64 0, .int .i64 0, .int .i64 0, .int .i64 0, .int .i64 0, .int .i64 0, .int .i64 0, .int .i64 0, .slice none 0 0, .int .i64 0, .slice none 0 0, .int .i64 0, .slice none 0 0, .slice none 0 0, .int .i64 0, .int .i64 0, .int .i64 0, .int .i64 0, .int .i64 0]) (ty := 46) (W := lw 1 j S.e) rfl
            have k0' := cell_keep hbv k0
            have HC2 := Lib.hid (HC1.out.low hbv)
            clear k0 k1 k2 hbv
            generalize World.setCells (W1.alloc _) W1.heap.size 0 _ = W2 at k0' HC2 hav ⊢
            generalize W1.heap.size = vb at hav ⊢
            have HAv : Hid (WAll W2 vb (lw 1 j S.e)) := Lib.hid hav
            clear hav
            go_upto_region 23 with fail
            clear k0'
            have HRw := Lib.hid HAv.out.rng
            have HSt := Lib.hid (step_any HL.out HC2.out HI2.out.ok (by omega) (by have := HI2.out.kk; omega) (by have := HI2.out.mm; omega) (lw 1 j S.e) (now := t) ⟨hT0, Int.le_refl _⟩)
            have hun := stepS_un S 1 (1 + j) 0 S.e t
            have hk6 := stepS_k S 1 (1 + j) 0 S.e t
            have hlg := stepS_lease S (1 + j) S.e t
            have hne : S.zs ≠ [] := by have h := (mayB_mayL HI2.out.ok.may).2.1; intro h0; rw [h0] at h; simp at h
            obtain ⟨S6, hS6⟩ : ∃ S6, stepS S 1 (1 + j) 0 S.e t = S6 := ⟨_, rfl⟩
            have HN0 : Hid (∀ w6 f6 u', CH w w6 x S6 f6 → 0 ≤ u' → u' ≤ S6.un → LsW w w6 x (k + 1) t u' S6 f6) := Lib.hid (fun w6 f6 u' hc hu0 hu1 => by
              have h7 := HI2.out.kk
              have h8 := HI2.out.mm
              rw [hS6] at hk6 hun
              exact ⟨hc, by rw [← hS6]; exact stepS_ok HI2.out.ok ⟨hT0, Int.le_refl _⟩, by omega, by omega, hT0, by omega, hu0, hu1⟩)
            have hu0 := HI2.out.u0
            have hu1 := HI2.out.u1
            have HEq : Hid (S6.e = S.e) := Lib.hid (by rw [← hS6]; exact hun.2)
            have hcs : leaseB S 1 (1 + j) 0 = false ∨ leaseB S 1 (1 + j) 0 = true := by cases leaseB S 1 (1 + j) 0 <;> simp
            rcases hcs with hl' | hl'
            · have HSt2 : Hid (Calls Tryz.prog 18 #[.pointer (some ⟨x, 0, none⟩), .agg (wordC (lw 1 j S.e)), .int .i64 t] W2 fun e' w' => e' = .returned (.slice none 0 0) ∧ ∃ f6, LsW w w' x (k + 1) t u S6 f6) := Lib.hid (HSt.out.mono (by
                rintro e' w' ⟨v, f6, rfl, hp, -, ht⟩
                obtain rfl := told_no ht hl'
                have hc : CH w w' x S6 f6 := by rw [← hS6]; exact hp.ch
                exact ⟨rfl, f6, HN0.out _ _ _ hc hu0 (by rw [hS6] at hun; omega)⟩))
              clear hun hk6 hS6 HSt HN0 hl' hlg hu0 hu1 hne
              go_wp2_with (first
                | (refine wpList_load_mid rfl 46 _ rfl vb 0 rfl (wordC (lw 1 j S.e)).toList _ HRw.out Tryz.underlying46 rfl wordI ?_)
                | (go_at_call 18; refine HSt2.out.mono ?_; rintro e' w6 ⟨rfl, f6, hn6⟩; have HN := Lib.hid hn6; clear hn6))
              go_loopw [8, 77] (fun n8 n77 wi => n8 = .int .i64 u ∧ n77 = .int .i64 0 ∧ wi = w6) (fun _ _ _ => 0)
              case atStart => exact ⟨rfl, rfl, rfl⟩
              case round =>
                obtain ⟨rfl, rfl, rfl⟩ := hrel
                go_wp2_with fail
                go_meet
                exact ⟨t, u, S6, f6, rfl, rfl, HN.out, Or.inl HEq.out⟩
            · have HSt2 : Hid (Calls Tryz.prog 18 #[.pointer (some ⟨x, 0, none⟩), .agg (wordC (lw 1 j S.e)), .int .i64 t] W2 fun e' w' => ∃ qn ca cc f6, e' = .returned (.slice (some ⟨qn, 0, none⟩) 1 1) ∧ LsW w w' x (k + 1) t (max u (t + 6)) S6 f6 ∧ LeaseAt w' qn (1 + j) S.e S.zs S.nw (t + 6) ca cc) := Lib.hid (HSt.out.mono (by
                rintro e' w' ⟨v, f6, rfl, hp, -, ht⟩
                obtain ⟨qn, ca, cc, rfl, hls⟩ := told_ls ht hl' hne
                have hc : CH w w' x S6 f6 := by rw [← hS6]; exact hp.ch
                have h3 := hlg hl'
                exact ⟨qn, ca, cc, f6, rfl, HN0.out _ _ _ hc (by omega) (by rw [hS6] at hun h3; omega), hls.la⟩))
              have pE : (S.e != S.e) = false := by simp
              have pF : (t + 6 != t + 6) = false := by simp
              obtain ⟨ix, hix⟩ : ∃ ix, idx S.zs (1 + j) = ix := ⟨_, rfl⟩
              have hp0 : decide (ix < 0) = false := decide_eq_false (by
                unfold leaseB at hl'
                have h := of_decide_eq_true hl'
                rw [hix] at h
                omega)
              have HIx := Lib.hid hix
              have hl5 := (mayB_mayL HI2.out.ok.may).2.2
              clear hun hk6 hS6 HSt HN0 hl' hlg hu0 hu1 hne hix
              go_wp2_with (first
                | (refine wpList_load_mid rfl 46 _ rfl vb 0 rfl (wordC (lw 1 j S.e)).toList _ HRw.out Tryz.underlying46 rfl wordI ?_)
                | (go_at_call 18; refine HSt2.out.mono ?_; rintro e' w6 ⟨qn, ca, cc, f6, rfl, hn6, hla6⟩; have HN := Lib.hid hn6; have HLa := Lib.hid hla6; clear hn6 hla6))
              go_loopw [8, 77] (fun n8 n77 wi => (n8 = .int .i64 u ∧ n77 = .int .i64 0 ∧ wi = w6) ∨ (n8 = .int .i64 (max u (t + 6)) ∧ n77 = .int .i64 1 ∧ LsW w wi x (k + 1) t (max u (t + 6)) S6 f6)) (fun _ n77 _ => 1 - (intOf n77).toNat)
              case atStart => exact Or.inl ⟨rfl, rfl, rfl⟩
              case round =>
                rcases hrel with ⟨rfl, rfl, rfl⟩ | ⟨rfl, rfl, hi6⟩
                · have HRl := Lib.hid (lease_rngL HLa.out)
                  have HOl := Lib.hid (lease_oneL (fr := 1 + j) (e := S.e) (un := t + 6) (a := ca) (n := S.zs.length) (c := cc) (nw := S.nw))
                  go_upto_region 26 with (first
                    | (refine wpList_load_mid rfl 46 _ rfl qn 0 rfl (leaseL (1 + j) S.e ca S.zs.length cc S.nw (t + 6)) _ HRl.out Tryz.underlying46 rfl wordI ?_)
                    | (refine wpList_store_mid rfl 46 _ _ rfl _ 0 (leaseL (1 + j) S.e ca S.zs.length cc S.nw (t + 6)).toArray rfl rfl (there_new _ _ _ rfl) wordI HOl.out ?_))
                  obtain ⟨hbW, hrW⟩ := lease_madeL (w := wr) (zs := #[.int .i64 0, .int .i64 0, .int .i64 0, .int .i64 0, .int .i64 0, .int .i64 0, .int .i64 0, .int .i64 0, .int .i64 0, .int .i64 0, .slice none 0 0, .int .i64 0, .slice none 0 0, .int .i64 0, .slice none 0 0, .slice none 0 0, .int .i64 0, .int .i64 0, .int .i64 0, .int .i64 0, .int .i64 0]) (ty := 46) (fr := 1 + j) (e := S.e) (un := t + 6) (a := ca) (n := S.zs.length) (c := cc) (nw := S.nw) rfl
                  have y2 := hrW 2 (.int .i64 (1 + j)) rfl
                  have y6 := hrW 6 (.int .i64 (t + 6)) rfl
                  have y9 := hrW 9 (.int .i64 S.e) rfl
                  have y10 := hrW 10 (.slice ca S.zs.length cc) rfl
                  have y11 := hrW 11 (.int .i64 S.nw) rfl
                  rw [Nat.zero_add] at y2 y6 y9 y10 y11
                  have HC8 := Lib.hid (HN.out.ch.low hbW)
                  have HZ8 := Lib.hid (HLa.out.rz.keep hbW)
                  clear hbW hrW HRl HOl
                  generalize World.setCells (wr.alloc _) wr.heap.size 0 _ = W8 at HC8 HZ8 y2 y6 y9 y10 y11 ⊢
                  generalize wr.heap.size = r8 at y2 y6 y9 y10 y11 ⊢
                  go_wp2_with (go_at_call 28; refine (spot_any S.e S.nw (1 + j) ca cc S.zs _ (by omega) HZ8.out).mono ?_; rw [HIx.out]; rintro e' w' ⟨rfl, hb⟩; have HC9 := Lib.hid (HC8.out.low hb); have y6' := cell_keep hb y6; clear y2 y6 y9 y10 y11 hb)
                  go_roundw
                  case rel => exact Or.inr ⟨rfl, rfl, HC9.out, HN.out.ok, HN.out.kk, HN.out.mm, HN.out.t0, HN.out.t1, HN.out.u0, HN.out.u1⟩
                  case measure => simp [intOf]
                · have HN2 := Lib.hid hi6
                  clear hi6
                  go_wp2_with fail
                  go_meet
                  exact ⟨t, _, S6, f6, rfl, rfl, HN2.out, Or.inl HEq.out⟩
      case rest =>
        obtain ⟨t', u', S6, f6, rfl, rfl, hn, he⟩ := hcut
        have HN := Lib.hid hn
        have hlu : decide (S6.un < u') = false := decide_eq_false (by have := hn.u1; omega)
        have hse := mayB_ep HI2.out.ok.may
        clear hn
        rcases he with he | ⟨he, hlate⟩
        · have pA : (S6.e != S.e) = false := by simp [he]
          have HE := Lib.hid he
          clear he
          go_wp2_with (first
            | (go_at_call 24; refine (chroster_is HN.out.ch rfl rfl rfl rfl (mayB_mayL HN.out.ok.may).2.2).mono ?_; rintro e' w7 ⟨ra, rc, rfl, -, hb⟩; have HC7 := Lib.hid ((HN.out.ch.low hb).low (below_alloc (Below.refl _ _) (.cells #[.int .i64 S6.e, .slice ra S6.zs.length rc, .int .i64 S6.nw] 24))); clear hb)
            | (go_at_call 26; refine (until_ch HC7.out).mono ?_; rintro e' w' ⟨rfl, rfl⟩))
          go_roundw
          case rel =>
            exact ⟨k + 1, t', u', S6, f6, rfl, rfl, by rw [HE.out], by go_num, by omega, by omega, HC7.out, HN.out.ok, HN.out.kk, HN.out.mm, HN.out.t0, HN.out.t1, HN.out.u0, HN.out.u1⟩
          case measure => simp [intOf]; omega
        · have pA : (S6.e != S.e) = true := by simp [he]; omega
          have pB : (S6.e != S.e + 1) = false := by simp [he]
          have pC : decide (t' ≤ u') = false := decide_eq_false (by omega)
          have pD : IntKind.i64.wrap (S.e + 1) = S.e + 1 := IntWalk.i64_in _ (by omega)
          clear he hlate
          go_wp2_with (first
            | (go_at_call 24; refine (chroster_is HN.out.ch rfl rfl rfl rfl (mayB_mayL HN.out.ok.may).2.2).mono ?_; rintro e' w7 ⟨ra, rc, rfl, -, hb⟩; have HC7 := Lib.hid ((HN.out.ch.low hb).low (below_alloc (Below.refl _ _) (.cells #[.int .i64 S6.e, .slice ra S6.zs.length rc, .int .i64 S6.nw] 24))); clear hb)
            | (go_at_call 26; refine (until_ch HC7.out).mono ?_; rintro e' w' ⟨rfl, rfl⟩))
          go_roundw
          case rel =>
            exact ⟨k + 1, t', u', S6, f6, rfl, rfl, rfl, by go_num, by omega, by omega, HC7.out, HN.out.ok, HN.out.kk, HN.out.mm, HN.out.t0, HN.out.t1, HN.out.u0, HN.out.u1⟩
          case measure => simp [intOf]; omega
    · by_cases h1 : k < L.length
      · have p1 : decide ((k : Int) < (L.length : Int)) = true := decide_eq_true (by omega)
        have p2 : decide ((k : Int) < 80) = false := decide_eq_false (by omega)
        clear hlt
        go_wp2_with fail
        go_ret
        exact ⟨rfl, HI2.out.ch.below⟩
      · have p1 : decide ((k : Int) < (L.length : Int)) = false := decide_eq_false (by omega)
        clear hlt
        go_wp2_with fail
        go_ret
        exact ⟨rfl, HI2.out.ch.below⟩
end Go.Proofs.YthiphdcbboapkaaGreatDoor
