/- JournalSpoilt: the walk. -/
import Derived.Test.YtjblbjamceloaaaGreatDoorKa
import Derived.Test.YtjblbjamceloaaaGreatDoorJs
import Derived.Test.YtjblbjamceloaaaGreatDoorN2
import Derived.Test.YtjblbjamceloaaaGreatDoorLh
import Derived.Deep.CutBlock
import Derived.Deep.DeepCutAuto
namespace Go.Proofs.YtjblbjamceloaaaGreatDoor
open Go.RowKit

theorem IntRow.at {w : World} {a : Option Addr} {c : Nat} {es : List Int} (h : IntRow w (.slice a es.length c) es) {i : Nat} {e : Int} (hi : es[i]? = some e) : ∃ q o, a = some ⟨q, o, none⟩ ∧ w.cell? ⟨q, o + i, none⟩ = some (.int .i64 e) := by
  rcases h with ⟨_, h⟩ | ⟨q, o, cap, e', _, _, _, h3, _⟩
  · subst h; simp at hi
  · simp only [Value.slice.injEq] at e'
    exact ⟨q, o, e'.1, h3 i _ hi⟩
set_option maxRecDepth 100000 in
set_option maxHeartbeats 6400000 in
theorem journalSpoilt_none (a : Option Addr) (c : Nat) (l : Nat) (n : Int) (x : UInt8) (t : ByteArray) (hn : n < 0 ∨ x = 0) (w : World) (LA : Laid w) :
    Calls Tryz.prog 5 #[.slice a l c, .int .i64 n, .int .u8 (x.toNat : Int), .string t] w fun e w' => e = .returned (.bool true) ∧ Below w.heap.size w w' := by
  have hex : decide (n < 0) = true ∨ (decide (n < 0) = false ∧ ¬ n < 0 ∧ x.toNat = 0) := by
    by_cases h : n < 0
    · exact Or.inl (decide_eq_true h)
    · rcases hn with h1 | h1
      · exact absurd h1 h
      · exact Or.inr ⟨decide_eq_false h, h, by rw [h1]; rfl⟩
  have HL := Lib.hid LA
  clear LA hn
  go_enter Tryz.func5, Tryz.ntmps5
  go_wp2_with fail
  refine (begun4_any w HL.out).mono ?_
  rintro e w1 ⟨rfl, hb⟩
  have HB := Lib.hid hb
  clear hb
  go_wp2_with fail
  refine (new_S (w0 := w) HB.out 1048576 1048576 (by decide)).mono ?_
  rintro e w2 ⟨g, b, rfl, hs, -, -, -⟩
  have HS := Lib.hid hs
  clear hs
  go_wp2_with fail
  refine (open_fresh HL.out HS.out (by decide) (by decide)).mono ?_
  rintro e w3 ⟨J, v, L, rfl, hj, -, -⟩
  have HJ := Lib.hid hj
  clear hj HS HB
  rcases hex with d0 | ⟨d0, d1, d2⟩
  · go_wp2_with fail
    go_ret
    exact ⟨rfl, HJ.out.js.ch.2.1⟩
  · have d3 : ((x.toNat : Int) == 0) = true := by rw [d2]; rfl
    go_wp2_with fail
    go_ret
    exact ⟨rfl, HJ.out.js.ch.2.1⟩
set_option maxRecDepth 100000 in
set_option maxHeartbeats 12800000 in
theorem journalSpoilt_main (n : Nat) (_hn : n ≤ 9223372036854775807) (x : UInt8) (hx : x ≠ 0) (t : ByteArray) (a : Option Addr) (c : Nat) (z : List ByteArray) (w : World) (hr : RowAt w a (z.map .string)) (hs : ∀ s ∈ z, s.size ≤ 9223372036854775807) (hl : z.length ≤ 9223372036854775807) (LA : Laid w) :
    Calls Tryz.prog 5 #[.slice a z.length c, .int .i64 (n : Int), .int .u8 (x.toNat : Int), .string t] w fun e w' => e = .returned (.bool true) ∧ Below w.heap.size w w' := by
  have d0 : decide ((n : Int) < 0) = false := decide_eq_false (by omega)
  have hxn : x.toNat ≠ 0 := fun e => hx (UInt8.toNat.inj e)
  have d3 : ((x.toNat : Int) == 0) = false := by rw [beq_eq_false_iff_ne]; omega
  have d4 : (x.toNat == 0) = false := by rw [beq_eq_false_iff_ne]; exact hxn
  have HX0 := Lib.hid hx
  have HL := Lib.hid LA
  have HZ := Lib.hid hr
  have HZs := Lib.hid hs
  clear LA hr hs hx hxn
  go_enter Tryz.func5, Tryz.ntmps5
  go_wp2_with fail
  refine (begun4_any w HL.out).mono ?_
  rintro e w1 ⟨rfl, hb⟩
  have HB := Lib.hid hb
  clear hb
  go_wp2_with fail
  refine (new_S (w0 := w) HB.out 1048576 1048576 (by decide)).mono ?_
  rintro e w2 ⟨g, b, rfl, hs, -, -, -⟩
  have HS := Lib.hid hs
  clear hs
  go_wp2_with fail
  refine (open_fresh HL.out HS.out (by decide) (by decide)).mono ?_
  rintro e w3 ⟨J, v, L, rfl, hj, -, -⟩
  have HJ := Lib.hid hj
  clear hj HS HB
  have HR0 : Hid (∀ W, Calls Tryz.prog 21 #[.string ⟨#[]⟩] W fun e w' => e = .returned (.string (leafB ⟨#[]⟩)) ∧ Below W.heap.size W w') := Lib.hid (fun W => rleaf_any ⟨#[]⟩ W (by decide))
  obtain ⟨F0, hF0⟩ : ∃ F0, leafB ⟨#[]⟩ = F0 := ⟨_, rfl⟩
  have HF0 := Lib.hid hF0
  have sF0 : Hid (F0.size = 11) := Lib.hid (by rw [← hF0]; exact leaf_nil_size)
  rw [hF0] at HJ HR0
  clear hF0
  go_wp2_with fail
  refine (HR0.out _).mono ?_
  rintro e w4 ⟨rfl, hb⟩
  replace HJ := Lib.hid (HJ.out.low hb)
  clear hb
  go_wp2_with fail
  have hI0 : SideI w (w4.alloc (.cells #[.int .i64 (F0.size : Int)] 3)) J g b v (.slice none 0 0) (.slice (some ⟨w4.heap.size, 0, none⟩) 1 1) (lensL [⟨#[]⟩]) := by
    have e1 : lensL [⟨#[]⟩] = [(F0.size : Int)] := by unfold lensL; rw [← HF0.out]; rfl
    have h0 := HJ.out.js.ch.2.1.size
    have h1 := HJ.out.js.j.lt
    have h2 := HJ.out.js.ch.1.ltg
    have h3 := HJ.out.js.ch.1.ltb
    have h4 := HJ.out.js.j.mr.lt
    rw [e1]
    refine ⟨IntRow.one _ _ _, ?_, ?_, ?_, ?_, ?_, by simp [ownL_nil]⟩
    · intro q hq; rw [ownL_some] at hq; simp at hq; omega
    · rw [ownL_some]; simp; omega
    · rw [ownL_some]; simp; omega
    · rw [ownL_some]; simp; omega
    · intro q hq; rw [ownL_some]; have := h4 q hq; simp; omega
  have HI0 := Lib.hid hI0
  replace HJ := Lib.hid (HJ.out.low (below_alloc (Below.refl _ _) (.cells #[.int .i64 (F0.size : Int)] 3)))
  clear hI0
  generalize w4.alloc (.cells #[.int .i64 (F0.size : Int)] 3) = w5 at HI0 HJ ⊢
  generalize w4.heap.size = xb at HI0 ⊢
  refine (HR0.out _).mono ?_
  rintro e w6 ⟨rfl, hb⟩
  replace HJ := Lib.hid (HJ.out.low hb)
  replace HI0 := Lib.hid (HI0.out.low hb)
  clear hb
  go_upto_block 0 with fail
  go_cut [13, 14, 15] (fun u13 u14 u15 wx => ∃ (k : Nat) (used : Int) (done : List ByteArray) (v vl : Value) (L : List Rl) (s : ByteArray), u13 = .string s ∧ u14 = vl ∧  k ≤ 6 ∧ k ≤ z.length ∧ done.length = k ∧ 11 ≤ used ∧ used ≤ 11 + 57 * k ∧ (s.size : Int) = used ∧ JL w wx J g b v (3 + 2 * k) (1048576 - used) L s s.size true ⟨#[]⟩ done ∧ SideI w wx J g b v (.slice none 0 0) vl (lensL (⟨#[]⟩ :: done)))
  case first =>
    go_wp2_with fail
    go_loopw [13, 14, 15] (fun u13 u14 u15 wr => ∃ (k : Nat) (used : Int) (done : List ByteArray) (v vl : Value) (L : List Rl) (s : ByteArray), u13 = .string s ∧ u14 = vl ∧ u15 = .int .i64 (k : Int) ∧ k ≤ 6 ∧ k ≤ z.length ∧ done.length = k ∧ 11 ≤ used ∧ used ≤ 11 + 57 * k ∧ (s.size : Int) = used ∧ JL w wr J g b v (3 + 2 * k) (1048576 - used) L s s.size true ⟨#[]⟩ done ∧ SideI w wr J g b v (.slice none 0 0) vl (lensL (⟨#[]⟩ :: done))) (fun _ _ u15 _ => 30 - (intOf u15).toNat)
    case atStart => exact ⟨0, 11, [], v, _, L, F0, rfl, rfl, rfl, by omega, by omega, rfl, by omega, by omega, by rw [sF0.out]; rfl, by have := HJ.out; rw [sF0.out]; exact this, HI0.out⟩
    case round =>
      obtain ⟨k, used, done, v, vl, L, s0, rfl, rfl, rfl, hk, hkz, hd, hu0, hu, hsu, hj, hint⟩ := hrel
      have HJ1 := Lib.hid hj
      have HI1 := Lib.hid hint
      obtain ⟨ae, ce, rfl⟩ := hint.mr.form
      have HDk := Lib.hid hd
      have hsz := Lib.hid hsu
      have hdl : done.length ≤ 6 := by omega
      have hln := Lib.hid HJ1.out.lg.ln
      clear hj hint HJ hd hsu
      by_cases hkl : k < z.length ∧ k < 6
      · obtain ⟨hk1, hk2⟩ := hkl
        have e1 : decide ((k : Int) < (z.length : Int)) = true := decide_eq_true (by omega)
        have e2 : decide ((k : Int) < 6) = true := decide_eq_true (by omega)
        obtain ⟨q, o, rfl, hc⟩ := (RowAt.keep HZ.out HJ1.out.js.ch.2.1).strs hk1
        have hzk := HZs.out z[k] (List.getElem_mem hk1)
        obtain ⟨A, hA⟩ : ∃ A, cutS z[k] 40 = A := ⟨_, rfl⟩
        have hAs : A.size ≤ 40 := by rw [← hA, cutS_size]; omega
        have HA := Lib.hid hA
        clear hA
        generalize z[k] = xx at hc hzk HA
        obtain ⟨hF1, hF2⟩ := leaf_bd (s := A) (by omega)
        have HX := Lib.hid hzk
        clear hzk
        go_wp2_with fail
        refine (jcut_h xx A 40 40 wr HA HX.out (by decide) rfl).mono ?_
        rintro e w4 ⟨rfl, rfl⟩
        clear hc
        have HAd := Lib.hid (add_press HL.out HJ1.out (by have := hln.out; omega) (by omega) A (by omega) (by omega) (r' := 1048576 - (used + ((leafB A).size : Int))) (p' := ((catB s0 (leafB A)).size : Int)) (by omega) (by rw [catB_size]; omega))
        have hcs : Hid (((catB s0 (leafB A)).size : Int) = used + ((leafB A).size : Int)) := Lib.hid (by have := hsz.out; rw [catB_size]; omega)
        have HRA : Hid (∀ W, Calls Tryz.prog 21 #[.string A] W fun e w' => e = .returned (.string (leafB A)) ∧ Below W.heap.size W w') := Lib.hid (fun W => rleaf_any A W (by omega))
        have hcat : ∀ W, (Op.stringOp .add s0 (leafB A)).run Tryz.prog W = .ok (.string (catB s0 (leafB A))) W := fun W => run_catS _ _ (by have := hsz.out; omega) W
        have HE : Hid (lensL (⟨#[]⟩ :: done) ++ [((leafB A).size : Int)] = lensL (⟨#[]⟩ :: (done ++ [A]))) := Lib.hid (by rw [← List.cons_append, lensL_snoc])
        generalize leafB A = F at HAd hF1 hF2 hcs HRA hcat HE
        go_wp2_with fail
        refine HAd.out.mono ?_
        rintro e w5 ⟨rfl, v5, L5, hj, ho, hq⟩
        have HJ5 := Lib.hid hj
        have HI5 := Lib.hid (HI1.out.add ho hq)
        clear hj ho hq HAd
        generalize catB s0 F = s6 at HJ5 hcs hcat ⊢
        go_wp2_with fail
        refine (HRA.out _).mono ?_
        rintro e w6 ⟨rfl, hb⟩
        have HJ6 := Lib.hid (HJ5.out.low hb)
        have HI6 := Lib.hid (HI5.out.low hb)
        clear hb HJ5 HI5
        go_wp2_with fail
        refine (HRA.out _).mono ?_
        rintro e w7 ⟨rfl, hb⟩
        have HJ7 := Lib.hid (HJ6.out.low hb)
        have HI7 := Lib.hid (HI6.out.low hb)
        clear hb HJ6 HI6
        have HM : Hid (∀ o, IntRow (w7.alloc o) (.slice ae (lensL (⟨#[]⟩ :: done)).length ce) (lensL (⟨#[]⟩ :: done))) := Lib.hid (fun o => HI7.out.mr.low (below_alloc (Below.refl _ _) _))
        have hl2 := Lib.hid (show (lensL (⟨#[]⟩ :: done)).length < 1000000 by rw [lensL_len]; simp; omega)
        obtain ⟨N, hN⟩ : ∃ N, lensL (⟨#[]⟩ :: done) = N := ⟨_, rfl⟩
        rw [hN] at HM hl2 HE HI7 ⊢
        go_wp2_with (at_builtin; refine wpList_moreI rfl _ _ rfl (.slice ae N.length ce) N rfl (HM.out _) (F.size : Int) w7.heap.size rfl (by simp) hl2.out ?_; intro ve' w8 hm ho hq; obtain ⟨a2', c2', rfl⟩ := hm.form; obtain ⟨g1, g2, g3⟩ := HI7.out.more (Side.nil _ _ _ _ _ _) HJ7.out (below_alloc (Below.refl _ _) _) ho hm hq; have HI8 := Lib.hid g1; have HJ8 := Lib.hid g3; clear hm ho hq g1 g2 g3)
        have hJ8 := HJ8.out
        have hI8 := HI8.out
        simp only [List.length_append, List.length_cons, List.length_nil, Nat.zero_add] at hI8
        rw [HE.out] at hI8
        rw [show 3 + 2 * k + 2 = 3 + 2 * (k + 1) by omega] at hJ8
        have hdk := HDk.out
        have hcs' := hcs.out
        exact ⟨⟨k + 1, used + (F.size : Int), done ++ [A], v5, _, L5, s6, rfl, rfl, by go_num, by omega, by omega, by simp [hdk], by omega, by omega, hcs', hJ8, hI8⟩, by simp [intOf]; omega⟩
      · have hex : (k < z.length ∧ ¬ k < 6 ∧ decide ((k : Int) < (z.length : Int)) = true ∧ decide ((k : Int) < 6) = false) ∨ (¬ k < z.length ∧ decide ((k : Int) < (z.length : Int)) = false) := by
          by_cases h1 : k < z.length
          · exact Or.inl ⟨h1, by omega, decide_eq_true (by omega), decide_eq_false (by omega)⟩
          · exact Or.inr ⟨h1, decide_eq_false (by omega)⟩
        rcases hex with ⟨i1, i2, e1, e2⟩ | ⟨i1, e1⟩
        all_goals
          go_wp2_with fail
          go_meet
          exact ⟨k, used, done, v, _, L, s0, rfl, rfl, hk, hkz, HDk.out, hu0, hu, hsz.out, HJ1.out, HI1.out⟩
  case rest =>
    obtain ⟨k, used, done, v, vl, L, s, rfl, rfl, hk, hkz, hd, hu0, hu, hsu, hj, hint⟩ := hcut
    have HJ1 := Lib.hid hj
    have HI1 := Lib.hid hint
    obtain ⟨ae, ce, rfl⟩ := hint.mr.form
    have hdl : done.length ≤ 6 := by omega
    have hs7 : s.size ≤ 400 := by omega
    have hs1 : 11 ≤ s.size := by omega
    clear hj hint HJ HI0 hd hsu hu0 hu hkz
    have hss : (s.toList != s.toList) = false := by simp [bne]
    have hz : ((s.size : Int) == 0) = false := by rw [beq_eq_false_iff_ne]; omega
    obtain ⟨m, hm⟩ : ∃ m, n % s.size = m := ⟨_, rfl⟩
    have hms : m < s.size := by rw [← hm]; exact Nat.mod_lt _ (by omega)
    have hml : m < s.data.toList.length := by rw [← size_list]; exact hms
    have hrem : (n : Int) % (s.size : Int) = (m : Int) := by omega
    obtain ⟨y, hy⟩ : ∃ y, s.data.toList[m] = y := ⟨_, rfl⟩
    have hcell := fun w => bw_cell w s m hml
    have hfz := fun w => bw_frozen w s m hms
    have hxor := xor_u8 y x
    rw [hy] at hcell
    have hrow := fun w => row_set hml (y ^^^ x) (bw_row w s)
    rw [UInt8.toNat_xor] at hrow
    have HRW := Lib.hid hrow
    have HLn := Lib.hid (show (s.data.toList.set m (y ^^^ x)).length = s.size by rw [List.length_set, ← size_list])
    obtain ⟨U, hU⟩ : ∃ U : ByteArray, (⟨(s.data.toList.set m (y ^^^ x)).toArray⟩ : ByteArray) = U := ⟨_, rfl⟩
    have hUl : U.data.toList = s.data.toList.set m (y ^^^ x) := by rw [← hU]
    have hUz : U.size = s.size := by rw [size_list, hUl]; exact HLn.out
    have hyx : y ^^^ x ≠ s.data.toList[m] := fun h => by
      rw [hy] at h
      apply HX0.out
      have h4 : y ^^^ x ^^^ y = y ^^^ y := by rw [h]
      rw [UInt8.xor_self, UInt8.xor_comm y x, UInt8.xor_assoc, UInt8.xor_self, UInt8.xor_zero] at h4
      exact h4
    obtain ⟨all, hall⟩ : ∃ all, (⟨#[]⟩ : ByteArray) :: done = all := ⟨_, rfl⟩
    have hda : s.data.toList = leavesL all := by rw [← hall]; exact HJ1.out.da
    have hsz : ∀ x ∈ all, x.size ≤ 400000 := by rw [← hall]; exact HJ1.out.sz
    have hal : all.length ≤ 7 := by rw [← hall]; simp; omega
    have hal1 : 0 < all.length := by rw [← hall]; simp
    have hsp : ∀ i, i < all.length → (leavesL (all.take i)).length ≤ m → m < (leavesL (all.take i)).length + (leafB (all.getD i ⟨#[]⟩)).size →
        ((m < (leavesL (all.take i)).length + 8 ∨ (leavesL (all.take i)).length + 8 + (Lib.decDigits (all.getD i ⟨#[]⟩).size).length < m) → PRun U 0 (all.take i) (0 + (leavesL (all.take i)).length) 3) := fun i hi h1 h2 h3 => by
      rw [List.getD_eq_getElem?_getD, List.getElem?_eq_getElem hi] at h2 h3
      exact log_spoilt hda hsz hi h1 h2 hUl hml hyx h3
    have hlen : ∀ i, i < all.length → (∀ j, j < (Lib.decDigits (all.getD i ⟨#[]⟩).size).length → ∃ c, s.data.toList[(leavesL (all.take i)).length + 8 + j]? = some c ∧ c.toNat ≠ 58) ∧ s.data.toList[(leavesL (all.take i)).length + 8 + (Lib.decDigits (all.getD i ⟨#[]⟩).size).length]? = some 58 := fun i hi => by
      rw [List.getD_eq_getElem?_getD, List.getElem?_eq_getElem hi]
      exact log_len hda hi (hsz _ (List.getElem_mem hi))
    have hnext : ∀ i, i < all.length → (leavesL (all.take (i + 1))).length = (leavesL (all.take i)).length + (leafB (all.getD i ⟨#[]⟩)).size ∧ (lensL all)[i]? = some ((leafB (all.getD i ⟨#[]⟩)).size : Int) := fun i hi => by
      rw [List.getD_eq_getElem?_getD, List.getElem?_eq_getElem hi]
      exact ⟨leavesL_next all hi, lensL_get all hi⟩
    have htot : (leavesL all).length = s.size := by rw [← hda, ← size_list]
    have htk : ∀ i, (leavesL (all.take i)).length ≤ s.size := fun i => by rw [← htot]; exact leavesL_take_le all i
    have HSp := Lib.hid hsp
    have HLe := Lib.hid hlen
    have HNx := Lib.hid hnext
    have HTt := Lib.hid htot
    have HTk := Lib.hid htk
    have HU := Lib.hid hU
    have HUz := Lib.hid hUz
    rw [hall] at HI1 ⊢
    clear hm hml hy hrow hU hUl hUz hyx hall hda hsz hsp hlen hnext htot htk
    have kc := run_bytes'
    go_wp2_with fail
    refine (read_S HJ1.out.js.ch ⟨#[76, 79, 71]⟩ (by decide) (t := true) (congrArg Scr.s HJ1.out.lg.at) (congrArg Option.isSome HJ1.out.lg.lk)).mono ?_
    rintro e wa ⟨rfl, hb⟩
    have HB4 := Lib.hid (below_on HJ1.out.js.ch.2.1 hb)
    have HI4 := Lib.hid (HI1.out.mr.low hb)
    clear hb HJ1 HI1
    go_wp2_with fail
    have HBV := Lib.hid ((bw_below wa s).setCell (p := ⟨wa.heap.size, m, none⟩) (Nat.le_refl _) (.int .u8 ((y.toNat ^^^ x.toNat : Nat) : Int)))
    have HR2 := Lib.hid (HRW.out wa)
    generalize (bw wa s).setCell ⟨wa.heap.size, m, none⟩ (.int .u8 ((y.toNat ^^^ x.toNat : Nat) : Int)) = V2 at HBV HR2 ⊢
    have HB7 := Lib.hid (below_on HB4.out HBV.out)
    have HI7 := Lib.hid (HI4.out.low HBV.out)
    have HLV := Lib.hid (HL.out.keep HB7.out)
    clear HRW hcell hfz HI4 HB4
    go_loopw [20, 21] (fun u20 u21 wr => ∃ i fr : Nat, u20 = .int .i64 (fr : Int) ∧ u21 = .int .i64 (i : Int) ∧ wr = V2 ∧ i < all.length ∧ (leavesL (all.take i)).length = fr ∧ fr ≤ m) (fun _ u21 _ => 30 - (intOf u21).toNat)
    case atStart => exact ⟨0, 0, rfl, rfl, rfl, hal1, rfl, Nat.zero_le _⟩
    case round =>
      obtain ⟨i, fr, rfl, rfl, rfl, hi, hfr, hfm⟩ := hrel
      have hfrH := Lib.hid hfr
      have hil : i < (lensL all).length := by rw [lensL_len]; exact hi
      obtain ⟨hn1, hn2⟩ := HNx.out i hi
      obtain ⟨ei, hei⟩ : ∃ ei, (leafB (all.getD i ⟨#[]⟩)).size = ei := ⟨_, rfl⟩
      rw [hei] at hn1 hn2
      have heiH := Lib.hid hei
      obtain ⟨qq, oo, rfl, hce⟩ := HI7.out.at hn2
      have hb1 := HTk.out (i + 1)
      have hwr : IntKind.i64.wrap ((fr : Int) + (ei : Int)) = (fr : Int) + (ei : Int) := IntWalk.i64_in _ (by omega)
      have hn1H := Lib.hid hn1
      have hb1H := Lib.hid hb1
      clear hfr hei hn1 hn2 hb1
      by_cases hgo : fr + ei ≤ m
      · have e3 : decide ((fr : Int) + (ei : Int) ≤ (m : Int)) = true := decide_eq_true (by omega)
        go_wp2_with fail
        have h1 := hn1H.out
        have h2 := hfrH.out
        have h3 := HTt.out
        have hi1 : i + 1 < all.length := Classical.byContradiction fun h => by
          rw [List.take_of_length_le (by omega)] at h1
          omega
        exact ⟨⟨i + 1, fr + ei, by go_num, by go_num, trivial, hi1, by omega, by omega⟩, by simp [intOf]; omega⟩
      · have e3 : decide ((fr : Int) + (ei : Int) ≤ (m : Int)) = false := decide_eq_false (by omega)
        obtain ⟨d, hd⟩ : ∃ d, (Lib.decDigits (all.getD i ⟨#[]⟩).size).length = d := ⟨_, rfl⟩
        have hll := HLe.out i hi
        have hss2 := HSp.out i hi
        rw [hfrH.out, hd] at hll hss2
        rw [heiH.out] at hss2
        obtain ⟨hl1, hl2⟩ := hll
        have hl3 : fr + 8 + d < s.size := by
          have := (List.getElem?_eq_some_iff.1 hl2).1
          rw [← size_list] at this; exact this
        have hw8 : IntKind.i64.wrap ((fr : Int) + 8) = (fr : Int) + 8 := IntWalk.i64_in _ (by omega)
        obtain ⟨al, a', er, hp, her⟩ : ∃ al a' er, PRun U 0 al a' er ∧ ((m < fr + 8 ∨ fr + 8 + d < m) → er = 3) := by
          by_cases h : m < fr + 8 ∨ fr + 8 + d < m
          · exact ⟨_, _, _, hss2 hfm (by omega) h, fun _ => rfl⟩
          · obtain ⟨al, a', er, hp⟩ := PRun.has U U.size 0 (by omega) (Nat.zero_le _)
            exact ⟨al, a', er, hp, fun h2 => absurd h2 h⟩
        have HL1 := Lib.hid hl1
        have HL2 := Lib.hid hl2
        have HP := Lib.hid hp
        have HEr := Lib.hid her
        clear hl1 hl2 hd hss2 hp her
        go_wp2_with fail
        go_loopw [22] (fun u22 wr2 => ∃ qc : Nat, u22 = .int .i64 (qc : Int) ∧ wr2 = wr ∧ fr + 8 ≤ qc ∧ qc ≤ fr + 8 + d) (fun u22 _ => fr + 8 + d + 1 - (intOf u22).toNat)
        case atStart => exact ⟨fr + 8, by simp, rfl, Nat.le_refl _, by omega⟩
        case round =>
          obtain ⟨qc, rfl, rfl, hq1, hq2⟩ := hrel
          by_cases hqd : qc < fr + 8 + d
          · obtain ⟨ch, hch, hne⟩ := HL1.out (qc - (fr + 8)) (by omega)
            rw [show fr + 8 + (qc - (fr + 8)) = qc by omega] at hch
            have hidx := fun w => run_idx s qc ch hch w
            have q1 : ((ch.toNat : Int) != 58) = true := by simp [bne]; omega
            have q2 : (ch.toNat != 58) = true := by simp [bne]; omega
            clear hch
            go_wp2_with fail
            exact ⟨⟨qc + 1, by go_num, trivial, by omega, by omega⟩, by simp [intOf]; omega⟩
          · obtain rfl : qc = fr + 8 + d := by omega
            obtain ⟨qc, hqc⟩ : ∃ qc, fr + 8 + d = qc := ⟨_, rfl⟩
            have hidx := fun w => run_idx s (fr + 8 + d) 58 HL2.out w
            have hcat : Hid ((m < fr + 8 ∨ fr + 8 + d < m) ∨ (fr + 8 ≤ m ∧ m ≤ qc)) := Lib.hid (by omega)
            have hq3 : qc ≤ s.size := by omega
            rw [hqc] at hidx hcat HEr ⊢
            have hU4 : U.size ≤ 400 := by have := HUz.out; omega
            have HQ3 := Lib.hid hqc
            clear hqd hq1 hq2 hqc
            go_wp2_with fail
            refine (new_S (w0 := wr) (Below.refl _ _) 1048576 1048576 (by decide)).mono ?_
            rintro e wb ⟨g2, b2, rfl, hs2, -, -, -⟩
            have HC := Lib.hid hs2
            clear hs2
            obtain ⟨Lw, hwr, hlw, -⟩ := (Che.new 0 (r := 1048576) (by decide) (by decide)).start rfl U (by omega)
            have HWr := Lib.hid (write_S HC.out (by decide) (Che.new 0 (r := 1048576) (by decide) (by decide)).ok ⟨#[76, 79, 71]⟩ U (by decide) hwr)
            have HO := Lib.hid (fun W (h : ChS wr W g2 b2 (1048576 - U.size) Lw) => open_gen HLV.out h hlw (by decide) (by omega) HP.out)
            have hconv : (convert 47 9 (.slice (some ⟨wa.heap.size, 0, none⟩) s.size (gc wa s))).run Tryz.prog wb = .ok (.string U) wb := by rw [← HU.out]; exact run_bytes_str _ (RowAt.keep HR2.out HC.out.2.1) HLn.out
            clear hwr hlw
            go_wp2_with fail
            refine HWr.out.mono ?_
            rintro e wc ⟨rfl, hc, -⟩
            have HC6 := Lib.hid hc
            clear hc HWr HC hconv
            go_wp2_with fail
            refine (HO.out _ HC6.out).mono ?_
            rintro e wd ⟨hres, hbd⟩
            obtain ⟨pv, er2, rfl, h30, herr⟩ : ∃ pv er2, e = .returned (.tuple #[.pointer pv, .int .i64 er2]) ∧ (er2 = 3 ∨ er2 = 0) ∧ ((m < fr + 8 ∨ qc < m) → er2 = 3) := by
              rcases hres with ⟨_, rfl⟩ | ⟨h, _, J9, rfl⟩
              · exact ⟨_, 3, rfl, Or.inl rfl, fun _ => rfl⟩
              · exact ⟨_, 0, rfl, Or.inr rfl, fun h2 => absurd (HEr.out h2) h⟩
            have HBd := Lib.hid hbd
            have H30 := Lib.hid h30
            have HErr := Lib.hid herr
            clear hres hbd h30 herr HO HC6
            go_wp2_with fail
            refine (new_S (w0 := wd) (Below.refl _ _) 1000 1000 (by decide)).mono ?_
            rintro e we ⟨g3, b3, rfl, hs3, -, -, -⟩
            have HD := Lib.hid hs3
            clear hs3
            go_wp2_with fail
            refine (HR0.out _).mono ?_
            rintro e wf ⟨rfl, hb⟩
            replace HD := Lib.hid (HD.out.low hb)
            clear hb
            obtain ⟨tt, htt⟩ : ∃ tt, m % 11 = tt := ⟨_, rfl⟩
            have htb : tt < 11 := by omega
            have hrem2 : (m : Int) % 11 = (tt : Int) := by omega
            have hwr2 : IntKind.i64.wrap (tt : Int) = (tt : Int) := IntWalk.i64_in _ (by omega)
            have hF11 := sF0.out
            obtain ⟨Q, hQ⟩ : ∃ Q, F0.extract 0 tt = Q := ⟨_, rfl⟩
            have hslc : ∀ w, (Instr.slice 9 (.string F0) none (some (.int .i64 (tt : Int))) none).run Tryz.prog w = .ok (.string Q) w := fun w => by
              rw [← hQ]; exact run_cutS F0 tt (by omega) (by omega) w
            have hQz : Q.size = tt := by rw [← hQ, ByteArray.size_extract]; omega
            have hPQ : Hid (∃ a e, PRun Q 0 [] a e) := Lib.hid (by
              have hl : F0.data.toList = leavesL [⟨#[]⟩] := by rw [← HF0.out]; exact leaves_one_list _
              have hl2 : (leavesL [⟨#[]⟩]).length = 11 := by rw [← hl, ← Lib.size_eq]; exact hF11
              obtain ⟨j, a1, e1, h1, h2, h3, -, -⟩ := prun_from [⟨#[]⟩] Q 0 tt (fun x hx => by simp at hx; subst hx; decide) (Nat.zero_le _) (by omega) (by rw [List.drop_zero, ← hQ, Lib.extract_data, List.drop_zero, Nat.sub_zero, hl])
              have hle := h2.le.2.1
              cases j with
              | zero => exact ⟨a1, e1, h2⟩
              | succ j =>
                rw [List.take_of_length_le (by simp)] at h3
                omega)
            obtain ⟨a5, e5, hp5⟩ := hPQ.out
            obtain ⟨Lx, hwr3, hlw3, -⟩ := (Che.new 0 (r := 1000) (by decide) (by decide)).start rfl Q (by omega)
            have HWr2 := Lib.hid (write_S HD.out (by decide) (Che.new 0 (r := 1000) (by decide) (by decide)).ok ⟨#[76, 79, 71]⟩ Q (by decide) hwr3)
            have HLd := Lib.hid (HLV.out.keep HBd.out)
            have HO2 := Lib.hid (fun W (h : ChS wd W g3 b3 (1000 - Q.size) Lx) => open_gen HLd.out h hlw3 (by decide) (by omega) hp5)
            clear hwr3 hlw3 hp5 hPQ hQ hQz hF11
            go_wp2_with fail
            refine HWr2.out.mono ?_
            rintro e wg ⟨rfl, hc, -⟩
            have HC7 := Lib.hid hc
            clear hc HWr2 HD
            go_wp2_with fail
            refine (HO2.out _ HC7.out).mono ?_
            rintro e wh ⟨hres, hbh⟩
            obtain rfl : e = .returned (.tuple #[.pointer none, .int .i64 3]) := by
              rcases hres with ⟨_, h⟩ | ⟨_, h, _⟩
              · exact h
              · exact absurd rfl h
            have HBh := Lib.hid (below_on HB7.out (below_on HBd.out hbh))
            clear hres hbh HO2 HC7
            rcases hcat.out with hout | ⟨hin1, hin2⟩
            · obtain rfl := HErr.out (by first | exact hout | (have := HQ3.out; omega))
              go_wp2_with fail
              go_ret
              exact ⟨rfl, HBh.out⟩
            · have c8 : decide ((fr : Int) + 8 ≤ (m : Int)) = true := decide_eq_true (by omega)
              have c9 : decide ((m : Int) ≤ (qc : Int)) = true := decide_eq_true (by omega)
              rcases H30.out with rfl | rfl
              all_goals
                go_wp2_with fail
                go_ret
                exact ⟨rfl, HBh.out⟩
theorem journalSpoilt_walk (a : Option Addr) (c : Nat) (z : List ByteArray) (n : Int) (hn : -9223372036854775808 ≤ n ∧ n ≤ 9223372036854775807) (x : UInt8) (t : ByteArray) (w : World) (hr : RowAt w a (z.map .string)) (hs : ∀ s ∈ z, s.size ≤ 9223372036854775807) (hl : z.length ≤ 9223372036854775807) (LA : Laid w) :
    Calls Tryz.prog 5 #[.slice a z.length c, .int .i64 n, .int .u8 (x.toNat : Int), .string t] w fun e w' => e = .returned (.bool true) ∧ Below w.heap.size w w' := by
  by_cases h : n < 0 ∨ x = 0
  · exact journalSpoilt_none a c z.length n x t h w LA
  obtain ⟨k, rfl⟩ := Int.eq_ofNat_of_zero_le (by omega : 0 ≤ n)
  exact journalSpoilt_main k (by omega) x (fun e => h (Or.inr e)) t a c z w hr hs hl LA
end Go.Proofs.YtjblbjamceloaaaGreatDoor
