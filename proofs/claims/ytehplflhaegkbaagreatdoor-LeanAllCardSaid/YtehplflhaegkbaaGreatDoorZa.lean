/- LeanAll: plain laws; the document's Pick. -/
import Derived.Test.YtehplflhaegkbaaGreatDoorNe
import Derived.Test.YtehplflhaegkbaaGreatDoorRoK
namespace Go.Proofs.YtehplflhaegkbaaGreatDoor
open Go.RowKit

theorem cut_h (s A : ByteArray) (n : Nat) (m : Int) (w : World) (hA : Hid (cutS s n = A)) (hs : s.size ≤ 9223372036854775807) (hn : n ≤ 9223372036854775807) (hm : m = (n : Int)) :
    Calls Tryz.prog 7 #[.string s, .int .i64 m] w fun e w' => e = .returned (.string A) ∧ w = w' := by
  rw [← hA.out, hm]; exact cut_any s n w hs hn
theorem mem_nth {zs : List Int} {x : Int} (h : x ∈ zs) : ∃ k, k < zs.length ∧ nthI zs k = x := by
  obtain ⟨k, hk, e⟩ := List.getElem_of_mem h
  refine ⟨k, hk, ?_⟩
  unfold nthI
  rw [List.getD_eq_getElem?_getD, List.getElem?_eq_getElem hk, e]; rfl
theorem nth_mem {zs : List Int} {k : Nat} (hk : k < zs.length) : nthI zs k ∈ zs := by
  unfold nthI
  rw [List.getD_eq_getElem?_getD, List.getElem?_eq_getElem hk]
  exact List.getElem_mem hk
theorem idx_no {zs : List Int} {x : Int} (h : x ∉ zs) : idx zs x = -1 := idx_miss fun _ hi e => h (e ▸ nth_mem hi)
theorem idx_in {zs : List Int} {x : Int} (h : x ∈ zs) : 0 ≤ idx zs x := by
  refine Classical.byContradiction fun hn => ?_
  obtain ⟨k, hk, e⟩ := mem_nth h
  -- the least such place
  have : ∀ m : Nat, ∀ j : Nat, j < m → j < zs.length → nthI zs j ≠ x := by
    intro m
    induction m with
    | zero => intro j hj; omega
    | succ m ih =>
      intro j hj hl e2
      by_cases hjm : j < m
      · exact ih j hjm hl e2
      · obtain rfl : j = m := by omega
        have := idx_hit hl e2 (fun i hi => ih i hi (by omega))
        omega
  exact this zs.length k hk hk e
theorem idx_yes {zs : List Int} {x : Int} : 0 ≤ idx zs x ↔ x ∈ zs :=
  ⟨fun h => Classical.byContradiction fun hn => by rw [idx_no hn] at h; omega, idx_in⟩
theorem mayL_iff {zs : List Int} : mayL zs = true ↔ (∀ n ∈ zs, 1 ≤ n ∧ n ≤ 5) ∧ zs.Nodup := by unfold mayL; simp

/-- One goes ahead of another. -/
def beats (l : List UInt8) (x b : Int) : Prop := wgt b l < wgt x l ∨ (wgt x l = wgt b l ∧ x < b)
theorem beats_trans {l : List UInt8} {x y z : Int} (h : beats l x y) (k : beats l y z) : beats l x z := by unfold beats at *; omega
theorem beats_total (l : List UInt8) (x y : Int) : x = y ∨ beats l x y ∨ beats l y x := by unfold beats; omega
theorem beats_asym {l : List UInt8} {x y : Int} (h : beats l x y) (k : beats l y x) : False := by unfold beats at *; omega
theorem better_iff (l : List UInt8) (nw b z : Int) : better l nw b z = true ↔ z ≠ nw ∧ (b = 0 ∨ beats l z b) := by
  unfold better beats
  simp only [Bool.and_eq_true, Bool.not_eq_true', beq_eq_false_iff_ne, Bool.or_eq_true, beq_iff_eq, decide_eq_true_eq, ne_eq]
  constructor
  · rintro ⟨h1, (h2 | h2) | h2⟩
    · exact ⟨h1, Or.inl h2⟩
    · exact ⟨h1, Or.inr (Or.inl h2)⟩
    · exact ⟨h1, Or.inr (Or.inr h2)⟩
  · rintro ⟨h1, h2 | h2 | h2⟩
    · exact ⟨h1, Or.inl (Or.inl h2)⟩
    · exact ⟨h1, Or.inl (Or.inr h2)⟩
    · exact ⟨h1, Or.inr h2⟩
theorem pick_top (l : List UInt8) (nw : Int) (zs : List Int) (h0 : ∀ z ∈ zs, z ≠ 0) (b : Int) :
    (b ≠ 0 → zs.foldl (pickStep l nw) b = b ∨ beats l (zs.foldl (pickStep l nw) b) b) ∧ ∀ z ∈ zs, z ≠ nw → zs.foldl (pickStep l nw) b = z ∨ beats l (zs.foldl (pickStep l nw) b) z := by
  induction zs generalizing b with
  | nil => exact ⟨fun _ => Or.inl rfl, fun z hz => absurd hz (by simp)⟩
  | cons z zs ih =>
    rw [List.foldl_cons]
    have hz0 : z ≠ 0 := h0 z List.mem_cons_self
    obtain ⟨i1, i2⟩ := ih (fun y hy => h0 y (List.mem_cons_of_mem _ hy)) (pickStep l nw b z)
    generalize hr : zs.foldl (pickStep l nw) (pickStep l nw b z) = r at i1 i2 ⊢
    by_cases hb : better l nw b z = true
    · have hs : pickStep l nw b z = z := if_pos hb
      rw [hs] at i1
      have h1 := i1 hz0
      have h2 := (better_iff l nw b z).1 hb
      refine ⟨fun h => ?_, fun y hy hn => ?_⟩
      · rcases h2.2 with h3 | h3
        · exact absurd h3 h
        · rcases h1 with h1 | h1
          · rw [h1]; exact Or.inr h3
          · exact Or.inr (beats_trans h1 h3)
      · rcases List.mem_cons.1 hy with rfl | hy
        · exact h1
        · exact i2 y hy hn
    · have hs : pickStep l nw b z = b := if_neg hb
      rw [hs] at i1
      refine ⟨i1, fun y hy hn => ?_⟩
      rcases List.mem_cons.1 hy with rfl | hy
      · have h3 : ¬ (y ≠ nw ∧ (b = 0 ∨ beats l y b)) := fun h => hb ((better_iff l nw b y).2 h)
        have hb0 : b ≠ 0 := fun e => h3 ⟨hn, Or.inl e⟩
        have hnb : ¬ beats l y b := fun e => h3 ⟨hn, Or.inr e⟩
        have hyb : b = y ∨ beats l b y := by
          rcases beats_total l b y with h | h | h
          · exact Or.inl h
          · exact Or.inr h
          · exact absurd h hnb
        rcases i1 hb0 with h1 | h1
        · rw [h1]; exact hyb
        · rcases hyb with e | h
          · rw [← e]; exact Or.inr h1
          · exact Or.inr (beats_trans h1 h)
      · exact i2 y hy hn
/-- The one that is picked is told by: it is there, and it is ahead of all. -/
theorem pick_eq (l : List UInt8) (nw : Int) (zs : List Int) (h0 : ∀ z ∈ zs, z ≠ 0) (p : Int) (hp : p ∈ zs) (hn : p ≠ nw) (ht : ∀ z ∈ zs, z ≠ nw → p = z ∨ beats l p z) : pick l nw zs = p := by
  have h1 := pick_in l nw zs (pick_ne l nw zs h0 p hp hn)
  rcases ht _ h1.1 h1.2 with h | h
  · exact h.symm
  · rcases (pick_top l nw zs h0 0).2 p hp hn with h2 | h2
    · exact h2
    · exact absurd h2 (fun h2 => beats_asym h h2)
theorem pick_same (l : List UInt8) (nw : Int) (xs ys : List Int) (h0 : ∀ z ∈ xs, z ≠ 0) (h : ∀ z, z ∈ ys ↔ z ∈ xs) : pick l nw ys = pick l nw xs := by
  by_cases hx : ∃ x, x ∈ xs ∧ x ≠ nw
  · obtain ⟨x, h1, h2⟩ := hx
    have h3 := pick_in l nw xs (pick_ne l nw xs h0 x h1 h2)
    exact pick_eq l nw ys (fun z hz => h0 z ((h z).1 hz)) _ ((h _).2 h3.1) h3.2 (fun z hz hn => (pick_top l nw xs h0 0).2 z ((h z).1 hz) hn)
  · have e1 : ∀ zs : List Int, (∀ z ∈ zs, z = nw) → pick l nw zs = 0 := fun zs hz => by
      rcases pick_or l nw zs 0 with h4 | h4
      · exact h4
      · exact absurd (hz _ h4.1) h4.2
    have hall : ∀ z ∈ xs, z = nw := fun z hz => Classical.byContradiction fun hn => hx ⟨z, hz, hn⟩
    rw [e1 xs hall, e1 ys (fun z hz => hall z ((h z).1 hz))]
/-- Those of the first so many nodes that are there. -/
def fil (zs : List Int) : Nat → List Int
  | 0 => []
  | m + 1 => if ((m : Int) + 1) ∈ zs then fil zs m ++ [(m : Int) + 1] else fil zs m
theorem fil_mem (zs : List Int) (m : Nat) (z : Int) : z ∈ fil zs m ↔ z ∈ zs ∧ 1 ≤ z ∧ z ≤ m := by
  induction m with
  | zero => simp [fil]; intro _ h; omega
  | succ m ih =>
    unfold fil
    split
    · rename_i h
      rw [List.mem_append, ih, List.mem_singleton]
      constructor
      · rintro (⟨h1, h2, h3⟩ | rfl)
        · exact ⟨h1, h2, by omega⟩
        · exact ⟨h, by omega, by omega⟩
      · rintro ⟨h1, h2, h3⟩
        by_cases e : z = (m : Int) + 1
        · exact Or.inr e
        · exact Or.inl ⟨h1, h2, by omega⟩
    · rename_i h
      rw [ih]
      constructor
      · rintro ⟨h1, h2, h3⟩; exact ⟨h1, h2, by omega⟩
      · rintro ⟨h1, h2, h3⟩
        refine ⟨h1, h2, ?_⟩
        have : z ≠ (m : Int) + 1 := fun e => h (e ▸ h1)
        omega
theorem fil_bd (l : List UInt8) (nw : Int) (zs : List Int) (m : Nat) : 0 ≤ pick l nw (fil zs m) ∧ pick l nw (fil zs m) ≤ m := by
  rcases pick_or l nw (fil zs m) 0 with h | h
  · have : pick l nw (fil zs m) = 0 := h
    omega
  · have := (fil_mem zs m _).1 h.1
    have e : pick l nw (fil zs m) = List.foldl (pickStep l nw) 0 (fil zs m) := rfl
    omega
theorem fil_pick (l : List UInt8) (nw : Int) (zs : List Int) (h : ∀ z ∈ zs, 1 ≤ z ∧ z ≤ 5) : pick l nw (fil zs 5) = pick l nw zs :=
  pick_same l nw zs (fil zs 5) (fun z hz => by have := h z hz; omega) (fun z => by rw [fil_mem]; exact ⟨fun h1 => h1.1, fun h1 => ⟨h1, (h z h1).1, (h z h1).2⟩⟩)
/-- The document's step. -/
theorem fil_step (l : List UInt8) (nw : Int) (zs : List Int) (m : Nat) (b n : Int) (hb : pick l nw (fil zs m) = b) (hn : (m : Int) + 1 = n) :
    pick l nw (fil zs (m + 1)) = if n ∈ zs ∧ n ≠ nw ∧ (b = 0 ∨ wgt b l < wgt n l) then n else b := by
  have hbd := fil_bd l nw zs m
  rw [hb] at hbd
  unfold fil
  rw [hn]
  by_cases h : n ∈ zs
  · rw [if_pos h, pick_snoc, hb]
    unfold pickStep
    by_cases hq : n ≠ nw ∧ (b = 0 ∨ wgt b l < wgt n l)
    · rw [if_pos ((better_iff l nw b n).2 ⟨hq.1, hq.2.imp id (fun x => Or.inl x)⟩), if_pos ⟨h, hq⟩]
    · rw [if_neg, if_neg (fun x => hq x.2)]
      intro hx
      have hy := (better_iff l nw b n).1 hx
      refine hq ⟨hy.1, hy.2.imp id (fun x => ?_)⟩
      unfold beats at x
      omega
  · rw [if_neg h, if_neg (fun x => h x.1), hb]
set_option maxRecDepth 100000 in
set_option maxHeartbeats 3200000 in
theorem rpick_fil (e : Int) (a : Option Addr) (c : Nat) (zs : List Int) (nw : Int) (s : ByteArray) (w : World) (hl : zs.length ≤ 9223372036854775807) (hz : IntsAt w a zs) (hs : s.size ≤ 9223372036854775807) :
    Calls Tryz.prog 8 #[.agg #[.int .i64 e, .slice a zs.length c, .int .i64 nw], .string s] w fun e' w' => e' = .returned (.int .i64 (pick s.data.toList nw (fil zs 5))) ∧ Below w.heap.size w w' := by
  obtain ⟨l, hL⟩ : ∃ l, s.data.toList = l := ⟨_, rfl⟩
  have HWt : Hid (∀ n w, Calls Tryz.prog 11 #[.int .i64 n, .string s] w fun e w' => e = .returned (.int .i64 (wgt n l)) ∧ Below w.heap.size w w') := Lib.hid (fun n w => by rw [← hL]; exact rweight_any n s w hs)
  rw [hL]
  have HZ := Lib.hid hz
  obtain ⟨y0, y1, y2, -⟩ := new3 w (.int .i64 e) (.slice a zs.length c) (.int .i64 nw) 24
  have HB : Hid (Below w.heap.size w (w.alloc (.cells #[.int .i64 e, .slice a zs.length c, .int .i64 nw] 24))) := Lib.hid (below_alloc (Below.refl _ _) _)
  clear hz hL
  go_enter Tryz.func8, Tryz.ntmps8
  go_wp2_with fail
  have Y0 := Lib.hid y0
  have Y1 := Lib.hid y1
  have Y2 := Lib.hid y2
  generalize w.alloc (.cells #[.int .i64 e, .slice a zs.length c, .int .i64 nw] 24) = V at HB Y0 Y1 Y2 ⊢
  clear y0 y1 y2
  go_loopw [5, 6] (fun b i wr => ∃ (m : Nat), m ≤ 5 ∧ i = .int .i64 ((m : Int) + 1) ∧ b = .int .i64 (pick l nw (fil zs m)) ∧ Below V.heap.size V wr) (fun _ i _ => 6 - (intOf i).toNat)
  case atStart => exact ⟨0, by omega, rfl, rfl, Below.refl _ _⟩
  case round =>
    obtain ⟨m, hm, rfl, rfl, hb⟩ := hrel
    have HBr := Lib.hid hb
    have x0 := cell_keep hb Y0.out
    have x1 := cell_keep hb Y1.out
    have x2 := cell_keep hb Y2.out
    have HZr := Lib.hid (HZ.out.below (HB.out.trans (hb.mono HB.out.size)) (Nat.le_refl _))
    clear hb
    by_cases hlt : m < 5
    · have p1 : decide ((m : Int) + 1 ≤ 5) = true := decide_eq_true (by omega)
      have wr1 : IntKind.i64.wrap ((m : Int) + 1 + 1) = (m : Int) + 1 + 1 := IntWalk.i64_in _ (by omega)
      obtain ⟨b, hb0⟩ : ∃ b, pick l nw (fil zs m) = b := ⟨_, rfl⟩
      obtain ⟨n, hn⟩ : ∃ n, (m : Int) + 1 = n := ⟨_, rfl⟩
      have HT := Lib.hid (fil_step l nw zs m b n hb0 hn)
      have HNm : Hid (n + 1 = ((m + 1 : Nat) : Int) + 1) := Lib.hid (by omega)
      have HMe : Hid (6 - (n + 1).toNat < 6 - n.toNat) := Lib.hid (by omega)
      rw [hb0]
      rw [hn] at p1 wr1 ⊢
      clear hb0 hn
      have HS : Hid (∀ w0, Below wr.heap.size wr w0 → Calls Tryz.prog 12 #[.agg #[.int .i64 e, .slice a zs.length c, .int .i64 nw], .int .i64 n] w0 fun e' w' => e' = .returned (.int .i64 (idx zs n)) ∧ Below w0.heap.size w0 w') := Lib.hid (fun w0 h0 => spot_any e nw n a c zs w0 hl (HZr.out.keep h0))
      obtain ⟨ix, hix⟩ : ∃ ix, idx zs n = ix := ⟨_, rfl⟩
      obtain ⟨x, hx⟩ : ∃ x, wgt n l = x := ⟨_, rfl⟩
      obtain ⟨y, hy⟩ : ∃ y, wgt b l = y := ⟨_, rfl⟩
      have HN : Hid (∀ w, Calls Tryz.prog 11 #[.int .i64 n, .string s] w fun e w' => e = .returned (.int .i64 x) ∧ Below w.heap.size w w') := Lib.hid (fun w => by rw [← hx]; exact HWt.out n w)
      have HM : Hid (∀ w, Calls Tryz.prog 11 #[.int .i64 b, .string s] w fun e w' => e = .returned (.int .i64 y) ∧ Below w.heap.size w w') := Lib.hid (fun w => by rw [← hy]; exact HWt.out b w)
      have hT := HT.out
      rw [hx, hy] at hT
      rw [hix] at HS
      have q1 : n ∈ zs ↔ 0 ≤ ix := by rw [← hix]; exact idx_yes.symm
      clear hx hy hix HT
      by_cases h1 : 0 ≤ ix
      · by_cases h2 : n = nw
        · have g1 : decide (0 ≤ ix) = true := decide_eq_true h1
          have g1' : decide (ix ≥ 0) = true := decide_eq_true h1
          have g2 : (n != nw) = false := by rw [bne_eq_false_iff_eq]; exact h2
          have g2' : (n == nw) = true := by rw [beq_iff_eq]; exact h2
          have HE : Hid (pick l nw (fil zs (m + 1)) = b) := Lib.hid (by rw [hT]; exact if_neg (fun h => h.2.1 h2))
          clear hT q1 h2
          go_wp2_with fail
          refine (HS.out _ (Below.refl _ _)).mono ?_
          rintro e' w1 ⟨rfl, hb⟩
          have HBq := Lib.hid (below_on HBr.out hb)
          have z0 := cell_keep hb x0
          have z1 := cell_keep hb x1
          have z2 := cell_keep hb x2
          clear hb x0 x1 x2 HS
          go_wp2_with fail
          go_roundw
          case rel => exact ⟨m + 1, by omega, by rw [HNm.out], by rw [HE.out], HBq.out⟩
          case measure => have := HMe.out; simpa [intOf] using this
        · by_cases h3 : b = 0
          · have g1 : decide (0 ≤ ix) = true := decide_eq_true h1
            have g1' : decide (ix ≥ 0) = true := decide_eq_true h1
            have g2 : (n != nw) = true := by rw [bne_iff_ne]; exact h2
            have g2' : (n == nw) = false := by rw [beq_eq_false_iff_ne]; exact h2
            have g3 : (b == 0) = true := by rw [beq_iff_eq]; exact h3
            have HE : Hid (pick l nw (fil zs (m + 1)) = n) := Lib.hid (by rw [hT]; exact if_pos ⟨q1.2 h1, h2, Or.inl h3⟩)
            clear hT q1 h3
            go_wp2_with fail
            refine (HS.out _ (Below.refl _ _)).mono ?_
            rintro e' w1 ⟨rfl, hb⟩
            have HBq := Lib.hid (below_on HBr.out hb)
            have z0 := cell_keep hb x0
            have z1 := cell_keep hb x1
            have z2 := cell_keep hb x2
            clear hb x0 x1 x2 HS
            go_wp2_with fail
            go_roundw
            case rel => exact ⟨m + 1, by omega, by rw [HNm.out], by rw [HE.out], HBq.out⟩
            case measure => have := HMe.out; simpa [intOf] using this
          · by_cases h4 : y < x
            · have g1 : decide (0 ≤ ix) = true := decide_eq_true h1
              have g1' : decide (ix ≥ 0) = true := decide_eq_true h1
              have g2 : (n != nw) = true := by rw [bne_iff_ne]; exact h2
              have g2' : (n == nw) = false := by rw [beq_eq_false_iff_ne]; exact h2
              have g3 : (b == 0) = false := by rw [beq_eq_false_iff_ne]; exact h3
              have g4 : decide (y < x) = true := decide_eq_true h4
              have g4' : decide (x > y) = true := decide_eq_true h4
              have HE : Hid (pick l nw (fil zs (m + 1)) = n) := Lib.hid (by rw [hT]; exact if_pos ⟨q1.2 h1, h2, Or.inr h4⟩)
              clear hT q1
              go_wp2_with fail
              refine (HS.out _ (Below.refl _ _)).mono ?_
              rintro e' w1 ⟨rfl, hb⟩
              have HBq := Lib.hid (below_on HBr.out hb)
              have z0 := cell_keep hb x0
              have z1 := cell_keep hb x1
              have z2 := cell_keep hb x2
              clear hb x0 x1 x2 HS
              go_wp2_with fail
              refine (HN.out _).mono ?_
              rintro e' w2 ⟨rfl, hb⟩
              replace HBq := Lib.hid (below_on HBq.out hb)
              clear hb
              go_wp2_with fail
              refine (HM.out _).mono ?_
              rintro e' w3 ⟨rfl, hb⟩
              replace HBq := Lib.hid (below_on HBq.out hb)
              clear hb
              go_wp2_with fail
              go_roundw
              case rel => exact ⟨m + 1, by omega, by rw [HNm.out], by rw [HE.out], HBq.out⟩
              case measure => have := HMe.out; simpa [intOf] using this
            · have g1 : decide (0 ≤ ix) = true := decide_eq_true h1
              have g1' : decide (ix ≥ 0) = true := decide_eq_true h1
              have g2 : (n != nw) = true := by rw [bne_iff_ne]; exact h2
              have g2' : (n == nw) = false := by rw [beq_eq_false_iff_ne]; exact h2
              have g3 : (b == 0) = false := by rw [beq_eq_false_iff_ne]; exact h3
              have g4 : decide (y < x) = false := decide_eq_false h4
              have g4' : decide (x > y) = false := decide_eq_false h4
              have HE : Hid (pick l nw (fil zs (m + 1)) = b) := Lib.hid (by rw [hT]; exact if_neg (fun h => h.2.2.elim h3 h4))
              clear hT q1
              go_wp2_with fail
              refine (HS.out _ (Below.refl _ _)).mono ?_
              rintro e' w1 ⟨rfl, hb⟩
              have HBq := Lib.hid (below_on HBr.out hb)
              have z0 := cell_keep hb x0
              have z1 := cell_keep hb x1
              have z2 := cell_keep hb x2
              clear hb x0 x1 x2 HS
              go_wp2_with fail
              refine (HN.out _).mono ?_
              rintro e' w2 ⟨rfl, hb⟩
              replace HBq := Lib.hid (below_on HBq.out hb)
              clear hb
              go_wp2_with fail
              refine (HM.out _).mono ?_
              rintro e' w3 ⟨rfl, hb⟩
              replace HBq := Lib.hid (below_on HBq.out hb)
              clear hb
              go_wp2_with fail
              go_roundw
              case rel => exact ⟨m + 1, by omega, by rw [HNm.out], by rw [HE.out], HBq.out⟩
              case measure => have := HMe.out; simpa [intOf] using this
      · have g1 : decide (0 ≤ ix) = false := decide_eq_false h1
        have g1' : decide (ix ≥ 0) = false := decide_eq_false h1
        have HE : Hid (pick l nw (fil zs (m + 1)) = b) := Lib.hid (by rw [hT]; exact if_neg (fun h => h1 (q1.1 h.1)))
        clear hT q1
        go_wp2_with fail
        refine (HS.out _ (Below.refl _ _)).mono ?_
        rintro e' w1 ⟨rfl, hb⟩
        have HBq := Lib.hid (below_on HBr.out hb)
        have z0 := cell_keep hb x0
        have z1 := cell_keep hb x1
        have z2 := cell_keep hb x2
        clear hb x0 x1 x2 HS
        go_wp2_with fail
        go_roundw
        case rel => exact ⟨m + 1, by omega, by rw [HNm.out], by rw [HE.out], HBq.out⟩
        case measure => have := HMe.out; simpa [intOf] using this
    · obtain rfl : m = 5 := by omega
      go_wp2_with fail
      go_ret
      exact ⟨rfl, HB.out.trans (HBr.out.mono HB.out.size)⟩
end Go.Proofs.YtehplflhaegkbaaGreatDoor
