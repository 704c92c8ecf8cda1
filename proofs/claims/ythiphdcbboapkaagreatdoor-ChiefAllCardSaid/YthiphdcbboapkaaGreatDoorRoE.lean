/- Walks of the document's MayRoster, AddNode, DropNode, Side. -/
import Derived.Test.YthiphdcbboapkaaGreatDoorRoD
namespace Go.Proofs.YthiphdcbboapkaaGreatDoor
open Go.RowKit

theorem mayL_take (zs : List Int) (k : Nat) (h : mayL zs = true) : mayL (zs.take k) = true := by
  unfold mayL at *
  have h' := of_decide_eq_true h
  exact decide_eq_true ⟨fun n hn => h'.1 n (List.mem_of_mem_take hn), h'.2.sublist (List.take_sublist _ _)⟩

theorem idx_mem {zs : List Int} {x : Int} {k : Nat} (hk : k < zs.length) (h : nthI zs k = x) : (idx zs x = k) ↔ x ∉ zs.take k := by
  constructor
  · intro hi hm
    obtain ⟨j, hj, hx⟩ := List.getElem_of_mem hm
    simp at hj hx
    have h1 : idx zs x ≤ j := by
      -- the least place
      have hb : ∀ m, m ≤ j → (∀ i, i < m → nthI zs i ≠ x) → idx zs x ≤ j := by
        intro m
        induction hd : j - m generalizing m with
        | zero =>
          intro hm hn
          have : m = j := by omega
          subst this
          rw [idx_hit (by omega) (by unfold nthI; simpa [show m < zs.length from by omega] using hx) hn]
          omega
        | succ d ih =>
          intro hm hn
          by_cases e : nthI zs m = x
          · rw [idx_hit (by omega) e hn]; omega
          · exact ih (m + 1) (by omega) (by omega) (fun i hi => by
              by_cases c : i = m
              · subst c; exact e
              · exact hn i (by omega))
      exact hb 0 (Nat.zero_le _) (fun i hi => absurd hi (Nat.not_lt_zero _))
    omega
  · intro hm
    refine idx_hit hk h (fun i hi e => hm ?_)
    have : nthI zs i ∈ zs.take k := by
      unfold nthI
      rw [List.getD_eq_getElem?_getD]
      have h1 : i < zs.length := by omega
      simp only [List.getElem?_eq_getElem h1, Option.getD_some]
      rw [← List.getElem_take (j := k) (h := by simp; omega)]
      exact List.getElem_mem _
    rw [e] at this
    exact this

theorem mayL_dupI (zs : List Int) (k : Nat) (h : k < zs.length) (hx : ¬ idx zs (nthI zs k) = k) : mayL zs = false :=
  mayL_dup zs k h (Classical.byContradiction fun hn => hx ((idx_mem h rfl).2 hn))

def MayRel2 (w : World) (e : Int) (a : Option Addr) (zs : List Int) (c : Nat) (nw : Int) (k : Nat) (wr : World) : Prop :=
  mayL (zs.take k) = true ∧ Below w.heap.size w wr ∧ wr.cell? ⟨w.heap.size, 0, none⟩ = some (.int .i64 e) ∧ wr.cell? ⟨w.heap.size, 1, none⟩ = some (.slice a zs.length c) ∧ wr.cell? ⟨w.heap.size, 2, none⟩ = some (.int .i64 nw)

theorem newB_not {zs : List Int} {nw : Int} (h0 : ¬ nw = 0) (h : zs.length < 2 ∨ ¬ nthI zs (zs.length - 1) = nw) : newB zs nw = false := by
  unfold newB
  apply decide_eq_false
  rintro (h1 | ⟨h1, h2⟩)
  · exact h0 h1
  · rcases h with h | h
    · omega
    · apply h
      rw [h2, show ((zs.length : Int) - 1) = ((zs.length - 1 : Nat) : Int) from by omega, atI_in (by omega)]
theorem newB_yes {zs : List Int} {nw : Int} (h : nw = 0 ∨ (2 ≤ zs.length ∧ nthI zs (zs.length - 1) = nw)) : newB zs nw = true := by
  unfold newB
  apply decide_eq_true
  rcases h with h | ⟨h1, h2⟩
  · exact Or.inl h
  · right
    refine ⟨by omega, ?_⟩
    rw [show ((zs.length : Int) - 1) = ((zs.length - 1 : Nat) : Int) from by omega, atI_in (by omega), h2]

/-- The loop of MayRoster, from a world in which New may be. -/
theorem mayB_low {e : Int} {zs : List Int} {nw : Int} (h : mayL zs = false) : mayB e zs nw = false := by
  unfold mayB; rw [h]; simp
theorem mayB_all {e : Int} {zs : List Int} {nw : Int} (h1 : 1 ≤ e) (h2 : e ≤ 1099511627776) (h3 : 1 ≤ zs.length) (h4 : zs.length ≤ 5) (hN : newB zs nw = true) (hM : mayL zs = true) : mayB e zs nw = true := by
  unfold mayB epB lenB
  rw [hM, hN, decide_eq_true (And.intro h1 h2), decide_eq_true (And.intro h3 h4)]; rfl

set_option maxRecDepth 100000 in
set_option maxHeartbeats 1600000 in
theorem mayRoster_no (e nw : Int) (a : Option Addr) (c : Nat) (zs : List Int) (w : World) (hl : zs.length ≤ 9223372036854775807) (hz : IntsAt w a zs) (h : epB e = false ∨ lenB zs = false ∨ newB zs nw = false) :
    Calls Tryz.prog 29 #[rosV e a zs c nw] w fun e' w' => e' = .returned (.bool false) ∧ Below w.heap.size w w' := by
  by_cases h1 : e < 1
  · go_enter Tryz.func29, Tryz.ntmps29
    go_wp2_with fail
    go_quiet (fail)
    go_wp2_with fail
    go_ret
    exact ⟨rfl, below_drewN (below_alloc (Below.refl _ _) _) _⟩
  have h1' : decide (e < 1) = false := by simp; omega
  by_cases h2 : 1099511627776 < e
  · go_enter Tryz.func29, Tryz.ntmps29
    go_wp2_with fail
    go_quiet (fail)
    go_wp2_with fail
    go_ret
    exact ⟨rfl, below_drewN (below_alloc (Below.refl _ _) _) _⟩
  have h2' : decide (1099511627776 < e) = false := by simp; omega
  by_cases h3 : (zs.length : Int) < 1
  · have h3' : decide ((zs.length : Int) < 1) = true := by simp; omega
    go_enter Tryz.func29, Tryz.ntmps29
    go_wp2_with fail
    go_quiet (fail)
    go_wp2_with fail
    go_ret
    exact ⟨rfl, below_drewN (below_alloc (Below.refl _ _) _) _⟩
  have h3' : decide ((zs.length : Int) < 1) = false := by simp; omega
  by_cases h4 : (5 : Int) < (zs.length : Int)
  · have h4' : decide ((5 : Int) < (zs.length : Int)) = true := by simp; omega
    go_enter Tryz.func29, Tryz.ntmps29
    go_wp2_with fail
    go_quiet (fail)
    go_wp2_with fail
    go_ret
    exact ⟨rfl, below_drewN (below_alloc (Below.refl _ _) _) _⟩
  have h4' : decide ((5 : Int) < (zs.length : Int)) = false := by simp; omega
  have hN : newB zs nw = false := by
    rcases h with h | h | h
    · unfold epB at h; simp at h; omega
    · unfold lenB at h; simp at h; omega
    · exact h
  clear h
  by_cases h5 : nw = 0
  · rw [newB_yes (Or.inl h5)] at hN; cases hN
  have h5' : (nw != 0) = true := by simpa using h5
  by_cases h6 : (zs.length : Int) < 2
  · have h6' : decide ((zs.length : Int) < 2) = true := by simp; omega
    clear hN h5
    go_enter Tryz.func29, Tryz.ntmps29
    go_wp2_with fail
    go_quiet (fail)
    go_wp2_with fail
    go_ret
    exact ⟨rfl, below_drewN (below_alloc (Below.refl _ _) _) _⟩
  have h6' : decide ((zs.length : Int) < 2) = false := by simp; omega
  by_cases h7 : nthI zs (zs.length - 1) = nw
  · rw [newB_yes (Or.inr ⟨by omega, h7⟩)] at hN; cases hN
  have h7' : (nthI zs (zs.length - 1) != nw) = true := by simpa using h7
  rcases hz with rfl | ⟨b, off, rfl, hbs, hc⟩
  · simp at h3
  have hcell := hc (zs.length - 1) (by omega)
  have hw : IntKind.i64.wrap ((zs.length : Int) - 1) = (zs.length : Int) - 1 := IntWalk.i64_in _ (by omega)
  have hn0 : ((zs.length : Int) - 1).toNat = zs.length - 1 := by omega
  have hn1 : (0 : Int) ≤ (zs.length : Int) - 1 := by omega
  have hn2 : (zs.length : Int) - 1 < (zs.length : Int) := by omega
  clear hN h5 h7 hc
  go_enter Tryz.func29, Tryz.ntmps29
  go_wp2_with fail
  go_quiet (fail)
  go_wp2_with fail
  go_ret
  exact ⟨rfl, below_drewN (below_alloc (Below.refl _ _) _) _⟩

set_option maxRecDepth 100000 in
set_option maxHeartbeats 1600000 in
theorem mayRoster_go (e nw : Int) (a : Option Addr) (c : Nat) (zs : List Int) (w : World) (hl : zs.length ≤ 9223372036854775807) (hz : IntsAt w a zs) (he : epB e = true) (hL : lenB zs = true) (hN : newB zs nw = true) :
    Calls Tryz.prog 29 #[rosV e a zs c nw] w fun e' w' => e' = .returned (.bool (mayB e zs nw)) ∧ Below w.heap.size w w' := by
  have he' : 1 ≤ e ∧ e ≤ 1099511627776 := by unfold epB at he; simpa using he
  have hL' : 1 ≤ zs.length ∧ zs.length ≤ 5 := by unfold lenB at hL; simpa using hL
  obtain ⟨he1, he2⟩ := he'
  obtain ⟨hL1, hL2⟩ := hL'
  have h1' : decide (e < 1) = false := by simp; omega
  have h2' : decide (1099511627776 < e) = false := by simp; omega
  have h3' : decide ((zs.length : Int) < 1) = false := by simp; omega
  have h4' : decide ((5 : Int) < (zs.length : Int)) = false := by simp; omega
  have HB : Hid (mayL zs = true → mayB e zs nw = true) := mayB_all he1 he2 hL1 hL2 hN
  have HN := Lib.hid hN
  clear he hL hN
  go_enter Tryz.func29, Tryz.ntmps29
  go_wp2_with fail
  go_cut [47] (fun s wx => s = .bool false ∧ MayRel2 w e a zs c nw 0 wx)
  case first =>
    by_cases h5 : nw = 0
    · have h5' : (nw != 0) = false := by simpa using h5
      clear h5
      go_quiet (fail)
      go_wp2_with fail
      go_meet
      refine ⟨rfl, by simp [mayL], below_drewN (below_alloc (Below.refl _ _) _) _, ?_, ?_, ?_⟩ <;> simp [go_sem]
    · have h5' : (nw != 0) = true := by simpa using h5
      have h67 : 2 ≤ zs.length ∧ nthI zs (zs.length - 1) = nw := by
        refine Classical.byContradiction fun hn => ?_
        have := newB_not h5 (zs := zs) (nw := nw) (by omega)
        rw [HN.out] at this; cases this
      obtain ⟨h6, h7⟩ := h67
      have h6' : decide ((zs.length : Int) < 2) = false := by simp; omega
      have h7' : (nthI zs (zs.length - 1) != nw) = false := by simpa using h7
      rcases hz with rfl | ⟨b, off, rfl, hbs, hc⟩
      · simp at h6
      have hcell := hc (zs.length - 1) (by omega)
      have hw : IntKind.i64.wrap ((zs.length : Int) - 1) = (zs.length : Int) - 1 := IntWalk.i64_in _ (by omega)
      have hn0 : ((zs.length : Int) - 1).toNat = zs.length - 1 := by omega
      have hn1 : (0 : Int) ≤ (zs.length : Int) - 1 := by omega
      have hn2 : (zs.length : Int) - 1 < (zs.length : Int) := by omega
      clear h5 h7 hc
      go_quiet (fail)
      go_wp2_with fail
      go_meet
      refine ⟨rfl, by simp [mayL], below_drewN (below_alloc (Below.refl _ _) _) _, ?_, ?_, ?_⟩ <;> simp [go_sem]
  case rest =>
    obtain ⟨rfl, hM0⟩ := hcut
    go_wp2_with fail
    go_loopw [3] (fun i wr => ∃ k : Nat, k ≤ zs.length ∧ i = .int .i64 k ∧ MayRel2 w e a zs c nw k wr) (fun i _ => zs.length - (intOf i).toNat)
    case atStart => exact ⟨0, Nat.zero_le _, rfl, hM0⟩
    case round =>
      obtain ⟨k, hk, rfl, hM, hB, q0, q1, q2⟩ := hrel
      by_cases hlt : k < zs.length
      · have hki : (k : Int) < (zs.length : Int) := by omega
        have hk0 : (0 : Int) ≤ (k : Int) := by omega
        have hzr := hz.below hB (Nat.le_refl _)
        have hzrH := Lib.hid hzr
        rcases hzr with rfl | ⟨b, off, rfl, hbs, hc⟩
        · simp at hlt
        have hcell := hc k hlt
        have HM := Lib.hid hM
        clear hc hM hM0
        by_cases x1 : nthI zs k < 1
        · have x1' : decide (nthI zs k < 1) = true := by simpa using x1
          have HX := Lib.hid x1
          clear x1
          go_wp2_with fail
          go_quiet (fail)
          go_wp2_with fail
          go_ret
          exact ⟨ret_bool (mayB_low (mayL_low zs k hlt (Or.inl HX.out))).symm, below_drewN hB _⟩
        have x1' : decide (nthI zs k < 1) = false := by simpa using x1
        by_cases x5 : 5 < nthI zs k
        · have x5' : decide (5 < nthI zs k) = true := by simpa using x5
          have HX := Lib.hid x5
          clear x1 x5
          go_wp2_with fail
          go_quiet (fail)
          go_wp2_with fail
          go_ret
          exact ⟨ret_bool (mayB_low (mayL_low zs k hlt (Or.inr HX.out))).symm, below_drewN hB _⟩
        have x5' : decide (5 < nthI zs k) = false := by simpa using x5
        by_cases hd : idx zs (nthI zs k) = k
        · have hd' : (idx zs (nthI zs k) != (k : Int)) = false := by simpa using hd
          have HD := Lib.hid hd
          have HX := Lib.hid (And.intro x1 x5)
          clear hd x1 x5
          go_wp2_with fail
          go_region_held3 (fun w' => w'.cell? ⟨w.heap.size, 0, none⟩ = some (.int .i64 e) ∧ w'.cell? ⟨w.heap.size, 1, none⟩ = some (.slice (some ⟨b, off, none⟩) zs.length c) ∧ w'.cell? ⟨w.heap.size, 2, none⟩ = some (.int .i64 nw) ∧ w'.cell? ⟨b, off + k, none⟩ = some (.int .i64 (nthI zs k)) ∧ IntsAt w' (some ⟨b, off, none⟩) zs ∧ Below w.heap.size w w')
            (first | exact ⟨q0, q1, q2, hcell, hzrH.out.drew, hB.drew⟩ | (obtain ⟨s1, s2, s3, s4, s5, s6⟩ := ‹_ ∧ _ ∧ _ ∧ _ ∧ _ ∧ _›; exact ⟨cell_keep hb s1, cell_keep hb s2, cell_keep hb s3, cell_keep hb s4, s5.keep hb, below_on s6 hb⟩))
            ((go_at_call 28; refine (spot_any _ _ _ _ _ _ _ hl ?_).mono ?_; (go_split_ands; assumption); rintro e w' ⟨rfl, hb⟩))
          all_goals
            obtain ⟨s1, s2, s3, s4, s5, s6⟩ := ‹_ ∧ _ ∧ _ ∧ _ ∧ _ ∧ _›
            go_wp2_with fail
            go_roundw
            case rel =>
              exact ⟨k + 1, by omega, by go_num, mayL_step zs k hlt HM.out (by have := HX.out; omega) ((idx_mem hlt rfl).1 HD.out), s6, s1, s2, s3⟩
            case measure => simp [intOf]; omega
        · have hd' : (idx zs (nthI zs k) != (k : Int)) = true := by simpa using hd
          have HD := Lib.hid hd
          clear hd x1 x5
          go_wp2_with fail
          go_region_held3 (fun w' => w'.cell? ⟨w.heap.size, 0, none⟩ = some (.int .i64 e) ∧ w'.cell? ⟨w.heap.size, 1, none⟩ = some (.slice (some ⟨b, off, none⟩) zs.length c) ∧ w'.cell? ⟨w.heap.size, 2, none⟩ = some (.int .i64 nw) ∧ w'.cell? ⟨b, off + k, none⟩ = some (.int .i64 (nthI zs k)) ∧ IntsAt w' (some ⟨b, off, none⟩) zs ∧ Below w.heap.size w w')
            (first | exact ⟨q0, q1, q2, hcell, hzrH.out.drew, hB.drew⟩ | (obtain ⟨s1, s2, s3, s4, s5, s6⟩ := ‹_ ∧ _ ∧ _ ∧ _ ∧ _ ∧ _›; exact ⟨cell_keep hb s1, cell_keep hb s2, cell_keep hb s3, cell_keep hb s4, s5.keep hb, below_on s6 hb⟩))
            ((go_at_call 28; refine (spot_any _ _ _ _ _ _ _ hl ?_).mono ?_; (go_split_ands; assumption); rintro e w' ⟨rfl, hb⟩))
          all_goals
            obtain ⟨s1, s2, s3, s4, s5, s6⟩ := ‹_ ∧ _ ∧ _ ∧ _ ∧ _ ∧ _›
            go_wp2_with fail
            go_ret
            exact ⟨ret_bool (mayB_low (mayL_dupI zs k hlt HD.out)).symm, s6⟩
      · have hke : k = zs.length := by omega
        subst hke
        rw [List.take_length] at hM
        have HM := Lib.hid hM
        clear hM hM0
        go_wp2_with fail
        go_ret
        exact ⟨ret_bool (HB.out HM.out).symm, hB⟩

theorem mayRoster_any (e nw : Int) (a : Option Addr) (c : Nat) (zs : List Int) (w : World) (hl : zs.length ≤ 9223372036854775807) (hz : IntsAt w a zs) :
    Calls Tryz.prog 29 #[rosV e a zs c nw] w fun e' w' => e' = .returned (.bool (mayB e zs nw)) ∧ Below w.heap.size w w' := by
  by_cases h : epB e = false ∨ lenB zs = false ∨ newB zs nw = false
  · have hm : mayB e zs nw = false := by
      unfold mayB
      rcases h with h | h | h <;> rw [h] <;> simp
    rw [hm]
    exact mayRoster_no e nw a c zs w hl hz h
  · simp only [not_or, Bool.not_eq_false] at h
    exact mayRoster_go e nw a c zs w hl hz h.1 h.2.1 h.2.2

end Go.Proofs.YthiphdcbboapkaaGreatDoor
