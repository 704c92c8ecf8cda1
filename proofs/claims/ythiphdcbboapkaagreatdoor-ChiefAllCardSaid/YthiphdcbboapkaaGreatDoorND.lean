/- Walk of journal.Open. -/
import Derived.Test.YthiphdcbboapkaaGreatDoorNC
import Derived.BigRegion
namespace Go.Proofs.YthiphdcbboapkaaGreatDoor
open Go.RowKit

set_option maxRecDepth 100000 in
set_option maxHeartbeats 6400000 in
theorem open_any {w0 w : World} (LA : Laid w0) {g b : Nat} {r r1 r2 r3 ec ec2 : Int} {L L1 L2 L3 : List Rl} (H : ChS w0 w g b r L) (hL : L.length < 900) (hk : OkL r L) (hR : Rising L)
    (hcall : callS r L bNEW.data.toList bOLD.data.toList = (ec, r1, L1)) {s : ByteArray} (hs : s.size < 900000)
    (hread : ((lookL bLOG.data.toList L1).isSome = true ∧ (atL bLOG.data.toList L1).s = s ∧ r2 = r1 ∧ L2 = L1) ∨ ((lookL bLOG.data.toList L1).isSome = false ∧ s = leafB ⟨#[]⟩ ∧ ∃ La, writeS r1 L1 bLOG.data.toList s = (0, r2, La) ∧ pressS La bLOG.data.toList = (0, L2)))
    {all : List ByteArray} {at' er : Nat} (hp : PRun s 0 all at' er)
    (hcut : (at' = s.size ∧ r3 = r2 ∧ L3 = L2) ∨ (at' < s.size ∧ cutSp r2 L2 bLOG.data.toList at' = (ec2, r3, L3))) :
    Calls Tryz.prog 32 #[.pointer (some ⟨g, 0, none⟩)] w (OpenR w0 w g b r3 L3 all er) := by
  have HLA := Lib.hid LA
  have hc1 := callS_ok hk hR bNEW.data.toList bOLD.data.toList
  rw [hcall] at hc1
  have hk1 : OkL r1 L1 := hc1.1
  have hR1 : Rising L1 := hc1.2.1
  have hL1 : L1.length < 950 := by have := hc1.2.2.1; simp only at this; omega
  have HC := Lib.hid (rcall_S H (by omega) hk ⟨#[78, 69, 87]⟩ ⟨#[79, 76, 68]⟩ (by decide) (by decide) hcall)
  have HP := Lib.hid hp
  have HK1 := Lib.hid hk1
  have HR1 := Lib.hid hR1
  have HT := Lib.hid hread
  have HU := Lib.hid hcut
  have hwg : w0.heap.size ≤ w.heap.size := H.2.1.size
  have HK2 : Hid (OkL r2 L2 ∧ L2.length < 1000) := Lib.hid (by
    rcases hread with ⟨-, -, rfl, rfl⟩ | ⟨-, -, La, h1, h2⟩
    · exact ⟨hk1, by omega⟩
    · have h3 := writeS_ok hk1 hR1 bLOG.data.toList s
      rw [h1] at h3
      have h5 : La.length ≤ L1.length + 1 := h3.2.2.1
      have h6 := pressS_ok h3.1 h3.2.1 bLOG.data.toList
      rw [h2] at h6
      have h7 : L2.length ≤ La.length + 1 := h6.2.2.1
      exact ⟨h6.1, by omega⟩)
  clear H hk hR hcall hread hp hcut hc1 hk1 hR1 LA
  go_enter Tryz.func32, Tryz.ntmps32
  go_wp2_with fail
  refine HC.out.mono ?_
  rintro e w1 ⟨rfl, hc, ho⟩
  have HJ := Lib.hid (JS.start hc 92)
  have HO := Lib.hid (ho.alloc (.cells #[.pointer (some ⟨g, 0, none⟩), .string ⟨#[]⟩, .slice none 0 0, .bool false] 92))
  have hJw : Hid (w.heap.size ≤ w1.heap.size) := Lib.hid ho.size
  clear hc ho
  go_wp2_with fail
  generalize w1.alloc (.cells #[.pointer (some ⟨g, 0, none⟩), .string ⟨#[]⟩, .slice none 0 0, .bool false] 92) = W at HJ HO ⊢
  generalize w1.heap.size = J at HJ hJw ⊢
  obtain ⟨s0, hs0⟩ : ∃ s0, (atL bLOG.data.toList L1).s = s0 := ⟨_, rfl⟩
  obtain ⟨t, ht⟩ : ∃ t, (lookL bLOG.data.toList L1).isSome = t := ⟨_, rfl⟩
  refine (read_S HJ.out.ch ⟨#[76, 79, 71]⟩ (by decide) hs0 ht).mono ?_
  rintro e w2 ⟨rfl, hb⟩
  have HJ2 := Lib.hid (HJ.out.low hb)
  have HO2 := Lib.hid (HO.out.top hb)
  have hlt : J < w2.heap.size := HJ2.out.j.lt
  have HS0 := Lib.hid hs0
  have HTT := Lib.hid ht
  clear hb hs0 ht HJ HO
  have c2 := HJ2.out.j.c2
  go_upto_if 26 with fail
  go_cut [5] (fun s5 wx => s5 = .string s ∧ JS w0 wx J g b (.slice none 0 0) r2 L2 ⟨#[]⟩ [] false ∧ Only [g, b] w wx)
  case first =>
    rcases HT.out with ⟨h1, h2, h3, h4⟩ | ⟨h1, h2, La, h3, h4⟩
    · rw [HTT.out] at h1
      rw [HS0.out] at h2
      subst h1 h2 h3 h4
      go_wp2_with fail
      go_meet
      exact ⟨rfl, HJ2.out, HO2.out⟩
    · rw [HTT.out] at h1
      subst h1 h2
      have HW := Lib.hid h3
      have HPr := Lib.hid h4
      clear h3 h4 HT
      have HLf := Lib.hid (leaf_any ⟨#[]⟩ w2 (HLA.out.keep HJ2.out.ch.2.1) (by decide))
      have HG : Hid (∀ w3, Below w2.heap.size w2 w3 → Calls Tryz.prog 52 #[.pointer (some ⟨J, 0, none⟩), .string ⟨#[76, 79, 71]⟩, .string (leafB ⟨#[]⟩)] w3 fun e w' => e = .returned (.int .i64 0) ∧ ChS w0 w' g b r2 L2 ∧ Only [g, b] w3 w') := Lib.hid (fun w3 hb => jwrites_ok (HJ2.out.low hb) (by omega) HK1.out HR1.out ⟨#[76, 79, 71]⟩ (leafB ⟨#[]⟩) (by decide) HW.out HPr.out)
      go_wp2_with fail
      refine HLf.out.mono ?_
      rintro e w3 ⟨rfl, hb⟩
      have HB3 := Lib.hid hb
      clear hb
      go_wp2_with fail
      refine (HG.out _ HB3.out).mono ?_
      rintro e w4 ⟨rfl, hc, ho⟩
      have HJ4 := Lib.hid ((HJ2.out.low HB3.out).chest hc ho)
      have HO4 := Lib.hid ((HO2.out.top HB3.out).trans ho)
      clear hc ho
      go_wp2_with fail
      go_meet
      exact ⟨rfl, HJ4.out, HO4.out⟩
  case rest =>
    obtain ⟨rfl, hj, ho⟩ := hcut
    have HJ := Lib.hid hj
    have HO := Lib.hid ho
    clear hj ho HJ2 HO2 HT HS0 HTT c2 hlt HC
    have HRw := Lib.hid (RowS.nil w.heap.size wc J g b)
    go_wp2_with fail
    go_loopw [8, 9] (fun i v wr => ∃ (k : Nat) (done rest : List ByteArray), i = .int .i64 (k : Int) ∧ k ≤ s.size ∧ done.length ≤ k ∧ all = done ++ rest ∧ PRun s k rest at' er ∧ JS w0 wr J g b (.slice none 0 0) r2 L2 ⟨#[]⟩ [] false ∧ Only [g, b] w wr ∧ RowS w.heap.size wr J g b v done) (fun i _ _ => s.size - (intOf i).toNat)
    case atStart => exact ⟨0, [], all, rfl, by omega, by simp, rfl, HP.out, HJ.out, HO.out, HRw.out⟩
    case round =>
      obtain ⟨k, done, rest, rfl, hks, hdk, hall, hrun, hj, ho, hrw⟩ := hrel
      have HJ := Lib.hid hj
      have HO := Lib.hid ho
      have HR := Lib.hid hrw
      obtain ⟨a, c, rfl⟩ := hrw.mr.form
      clear hj ho hrw HRw
      by_cases hlt : k < s.size
      · have q0 : decide ((k : Int) < (s.size : Int)) = true := decide_eq_true (by omega)
        obtain ⟨⟨x, n, e5⟩, hx⟩ : ∃ x, turnS (s.extract k s.size) = x := ⟨_, rfl⟩
        have HTn : Hid (∀ W, Below wr.heap.size wr W → Calls Tryz.prog 53 #[.string (s.extract k s.size)] W fun e w' => e = .returned (.tuple #[.string x, .int .i64 n, .int .i64 e5]) ∧ Below W.heap.size W w') := Lib.hid (fun W hb => by
          have := turn_any (s.extract k s.size) W ((HLA.out.keep HJ.out.ch.2.1).keep hb) (by rw [ByteArray.size_extract]; omega)
          unfold TurnR at this
          rw [hx] at this
          exact this)
        have hsl : ∀ w, (Instr.slice 9 (.string s) (some (.int .i64 (k : Int))) none none).run Tryz.prog w = .ok (.string (s.extract k s.size)) w := fun w => by
          rw [run_slice_string_l w _ _ Tryz.underlying9 _ _ (by omega) (by omega)]; simp
        have hinv := hrun.inv hlt hx
        generalize s.extract k s.size = X at hsl HTn hx
        clear hx hrun
        rcases hinv with ⟨rfl, rest', rfl, hrun', hn, hkn⟩ | ⟨rfl, rfl, hak, rfl⟩ | ⟨rfl, rfl, hak, rfl⟩
        · have HRun := Lib.hid hrun'
          have HAl := Lib.hid hall
          clear hrun' hall
          have hl := Lib.hid (show done.length < 1000000 by omega)
          go_wp2_with fail
          refine (HTn.out _ (Below.refl _ _)).mono ?_
          rintro e w5 ⟨rfl, hb⟩
          have HJ5 := Lib.hid (HJ.out.low hb)
          have HR5 := Lib.hid (HR.out.low hb)
          have HO5 := Lib.hid (HO.out.top hb)
          clear hb
          have HM : Hid (∀ o, MidRow (w5.alloc o) (.slice a done.length c) done) := Lib.hid (fun o => HR5.out.mr.low (below_alloc (Below.refl _ _) _))
          go_wp2_with (at_builtin; refine wpList_more rfl _ _ rfl (.slice a done.length c) done rfl (HM.out _) x w5.heap.size rfl (by simp) hl.out ?_; intro v' w6 hm ho hq; obtain ⟨a', c', rfl⟩ := hm.form; obtain ⟨g1, g2, g3⟩ := HR5.out.more HJ5.out hwg HO5.out (below_alloc (Below.refl _ _) _) ho hm hq; have HR6 := Lib.hid g1; have HJ6 := Lib.hid g2; have HO6 := Lib.hid g3; clear hm ho hq g1 g2 g3)
          have hR6 := HR6.out
          simp only [List.length_append, List.length_cons, List.length_nil, Nat.zero_add] at hR6
          exact ⟨⟨k + n, done ++ [x], rest', by go_num, hkn, by simp; omega, by rw [HAl.out]; simp, HRun.out, HJ6.out, HO6.out, hR6⟩, by simp [intOf]; omega⟩
        · replace hak := hak.symm
          subst hak
          have HAl : Hid (all = done) := Lib.hid (by rw [hall, List.append_nil])
          clear hall
          have hcu : cutSp r2 L2 bLOG.data.toList k = (ec2, r3, L3) := by
            rcases HU.out with ⟨h, -⟩ | ⟨-, h⟩
            · omega
            · exact h
          have HCu : Hid (∀ W, ChS w0 W g b r2 L2 → Calls Tryz.prog 54 #[.pointer (some ⟨g, 0, none⟩), .string ⟨#[76, 79, 71]⟩, .int .i64 (k : Int)] W fun e w' => e = .returned (.int .i64 ec2) ∧ ChS w0 w' g b r3 L3 ∧ Only [g, b] W w') := Lib.hid (fun W h => rcut_S h (by have := HK2.out.2; omega) HK2.out.1 ⟨#[76, 79, 71]⟩ k (by decide) hcu)
          clear hcu
          cases done with
          | nil =>
            simp only [List.length_nil]
            go_wp2_with fail
            refine (HTn.out _ (Below.refl _ _)).mono ?_
            rintro e w5 ⟨rfl, hb⟩
            have HJ5 := Lib.hid (HJ.out.low hb)
            clear hb
            go_wp2_with fail
            go_ret2
            exact Or.inl ⟨Or.inr HAl.out, rfl, HJ5.out.ch.2.1⟩
          | cons f rs =>
            have hz : ((rs.length : Int) + 1 == 0) = false := by simp; omega
            simp only [List.length_cons]
            go_wp2_with fail
            refine (HTn.out _ (Below.refl _ _)).mono ?_
            rintro e w5 ⟨rfl, hb⟩
            have HJ5 := Lib.hid (HJ.out.low hb)
            have HR5 := Lib.hid (HR.out.low hb)
            have HO5 := Lib.hid (HO.out.top hb)
            clear hb
            go_wp2_with fail
            refine (HCu.out _ HJ5.out.ch).mono ?_
            rintro e w6 ⟨rfl, hc, ho⟩
            have HJ6 := Lib.hid (HJ5.out.chest hc ho)
            have HR6 := Lib.hid (HR5.out.keep ho)
            have HO6 := Lib.hid (HO5.out.trans ho)
            clear hc ho
            obtain ⟨q, o, o', cap, ev, x0, hsl2, hmr⟩ := mid_rest HR6.out.mr
            simp only [List.length_cons, Value.slice.injEq, true_and] at ev
            obtain ⟨ea, ec'⟩ := ev
            subst ea
            subst ec'
            have hq3 := HR6.out.vb q (by simp [ownL_some])
            have hR3 : RowS w.heap.size w6 J g b (.slice (some ⟨q, o', none⟩) rs.length (c - 1)) rs := ⟨hmr, fun q' hq' => by rw [ownL_some] at hq'; simp at hq'; subst hq'; exact hq3⟩
            have HLay := Lib.hid (HJ6.out.lay hwg f hR3)
            have j1 := HJ6.out.j.c1
            have j2 := HJ6.out.j.c2
            have f1 := HJ6.out.j.f1
            have f2 := HJ6.out.j.f2
            have HQ3 := Lib.hid hq3
            clear hR3 hmr hq3
            go_wp2_with fail
            go_region
            go_wp2_with fail
            go_ret2
            exact Or.inr ⟨f, rs, J, _, HAl.out, by decide, rfl, HLay.out.1.drew, ⟨hJw.out, fun q' hq' => by rw [ownL_some] at hq'; simp at hq'; subst hq'; exact HQ3.out.1⟩, ((HO6.out.setCell (Or.inr hJw.out) _).setCell (Or.inr hJw.out) _).drew⟩
        · go_wp2_with fail
          refine (HTn.out _ (Below.refl _ _)).mono ?_
          rintro e w5 ⟨rfl, hb⟩
          have HJ5 := Lib.hid (HJ.out.low hb)
          clear hb
          go_wp2_with fail
          go_ret2
          exact Or.inl ⟨Or.inl rfl, rfl, HJ5.out.ch.2.1⟩
      · obtain ⟨rfl, hak, rfl⟩ := hrun.fin (by omega)
        replace hak := hak.symm
        subst hak
        have q0 : decide ((k : Int) < (s.size : Int)) = false := decide_eq_false (by omega)
        have HAl : Hid (all = done) := Lib.hid (by rw [hall, List.append_nil])
        obtain ⟨e3, e4⟩ : r3 = r2 ∧ L3 = L2 := by
          rcases HU.out with ⟨-, h⟩ | ⟨h, -⟩
          · exact h
          · omega
        subst e3 e4
        clear hall hrun
        cases done with
        | nil =>
          simp only [List.length_nil]
          go_wp2_with fail
          go_ret2
          exact Or.inl ⟨Or.inr HAl.out, rfl, HJ.out.ch.2.1⟩
        | cons f rs =>
          have hz : ((rs.length : Int) + 1 == 0) = false := by simp; omega
          simp only [List.length_cons]
          go_wp2_with fail
          obtain ⟨q, o, o', cap, ev, x0, hsl2, hmr⟩ := mid_rest HR.out.mr
          simp only [List.length_cons, Value.slice.injEq, true_and] at ev
          obtain ⟨ea, ec'⟩ := ev
          subst ea
          subst ec'
          have hq3 := HR.out.vb q (by simp [ownL_some])
          have hR3 : RowS w.heap.size wr J g b (.slice (some ⟨q, o', none⟩) rs.length (c - 1)) rs := ⟨hmr, fun q' hq' => by rw [ownL_some] at hq'; simp at hq'; subst hq'; exact hq3⟩
          have HLay := Lib.hid (HJ.out.lay hwg f hR3)
          have j1 := HJ.out.j.c1
          have j2 := HJ.out.j.c2
          have f1 := HJ.out.j.f1
          have f2 := HJ.out.j.f2
          have HQ3 := Lib.hid hq3
          clear hR3 hmr hq3
          go_wp2_with fail
          go_region
          go_wp2_with fail
          go_ret2
          exact Or.inr ⟨f, rs, J, _, HAl.out, by decide, rfl, HLay.out.1.drew, ⟨hJw.out, fun q' hq' => by rw [ownL_some] at hq'; simp at hq'; subst hq'; exact HQ3.out.1⟩, ((HO.out.setCell (Or.inr hJw.out) _).setCell (Or.inr hJw.out) _).drew⟩
end Go.Proofs.YthiphdcbboapkaaGreatDoor
