/- LeanAll: the walk. -/
import Derived.Test.YtehplflhaegkbaaGreatDoorZb
import Derived.Deep.QuietTactic
import Derived.BigQuiet
import Derived.Deep.CutBlock
import Derived.Deep.DeepCutAuto
namespace Go.Proofs.YtehplflhaegkbaaGreatDoor
open Go.RowKit

set_option maxRecDepth 100000
theorem strs_at {w : World} {a : Option Addr} {z : List ByteArray} (h : RowAt w a (z.map .string)) {k : Nat} (hk : k < z.length) : ∃ q o, a = some ⟨q, o, none⟩ ∧ w.cell? ⟨q, o + k, none⟩ = some (.string z[k]) := by
  rcases h with h | ⟨q, o, rfl, hq, hc⟩
  · have : z = [] := by simpa using h
    subst this; simp at hk
  · exact ⟨q, o, rfl, hc k _ (by rw [List.getElem?_map, List.getElem?_eq_getElem hk]; rfl)⟩
/-- What the loop keeps: a row of counts, a row of texts. -/
structure LS (W wr : World) (q : Nat) (vl : Value) (cs : List Int) (ks : List ByteArray) : Prop where
  cnt : CntR wr W.heap.size q cs
  txt : TxtR wr W.heap.size vl ks
  ne : vl.ownBlock ≠ some q
  bl : Below W.heap.size W wr
theorem LS.low {W wr w' : World} {q : Nat} {vl : Value} {cs : List Int} {ks : List ByteArray} (h : LS W wr q vl cs ks) (k : Below wr.heap.size wr w') : LS W w' q vl cs ks := ⟨h.cnt.low k, h.txt.low k, h.ne, below_on h.bl k⟩
theorem LS.set {W wr : World} {q : Nat} {vl : Value} {cs : List Int} {ks : List ByteArray} (h : LS W wr q vl cs ks) (i : Nat) (y : Int) : LS W (wr.setCell ⟨q, i, none⟩ (.int .i64 y)) q vl (cs.set i y) ks := by
  obtain ⟨h1, h2⟩ := h.cnt.set i y
  exact ⟨h1, h.txt.keep h2 (Or.inr h.ne), h.ne, h.bl.setCell (p := ⟨q, i, none⟩) h.cnt.lt.1 _⟩
theorem LS.push {W wr w1 w' : World} {q : Nat} {vl vl' : Value} {cs : List Int} {ks ks' : List ByteArray} (h : LS W wr q vl cs ks) (k : Below wr.heap.size wr w1) (ht : TxtR w' W.heap.size vl' ks') (hg : w1.grownBy w' vl.ownBlock) (hb : vl'.ownBlock = vl.ownBlock ∨ vl'.ownBlock = some w1.heap.size) : LS W w' q vl' cs ks' := by
  have h1 := h.low k
  have hq := h1.cnt.lt
  refine ⟨h1.cnt.keep hg (fun e => h.ne e.symm), ht, ?_, ⟨hg.os.trans h1.bl.os, hg.tape.trans h1.bl.tape, hg.output.trans h1.bl.output, Nat.le_trans h1.bl.size hg.size, fun i hi => ?_⟩⟩
  · rcases hb with e | e
    · rw [e]; exact h.ne
    · rw [e]; simp; omega
  · rw [hg.block i (Nat.lt_of_lt_of_le hi h1.bl.size) (fun e => by have := (World.ownsRow.lt h1.txt i e.symm).1; omega)]
    exact h1.bl.block i hi
set_option maxHeartbeats 12800000 in
theorem leanAll_walk (e nw : Int) (a : Option Addr) (c : Nat) (zs : List Int) (ka : Option Addr) (kc : Nat) (kz : List ByteArray) (n : Int) (w : World) (hz : IntsAt w a zs) (hl : zs.length ≤ 9223372036854775807) (hcap : zs.length ≤ c) (hk : RowAt w ka (kz.map .string)) (hks : ∀ s ∈ kz, s.size ≤ 9223372036854775807) (hkl : kz.length ≤ 9223372036854775807) (L : Laid w) :
    Calls Tryz.prog 3 #[rosV e a zs c nw, .slice ka kz.length kc, .int .i64 n] w fun e' w' => e' = .returned (.bool true) ∧ Below w.heap.size w w' := by
  obtain ⟨ys, hys'⟩ : ∃ ys, zs.take 7 = ys := ⟨_, rfl⟩
  have hy7 : ys.length ≤ 7 := by rw [← hys']; simp; omega
  have hys := Lib.hid hys'
  have HL0 := Lib.hid (L.keep (below_alloc (Below.refl _ _) (.cells #[.int .i64 e, .slice a zs.length c, .int .i64 nw] 24)))
  have HK := Lib.hid hk
  have HKs := Lib.hid hks
  clear hys' L hk hks
  go_enter Tryz.func3, Tryz.ntmps3
  go_wp2_with fail
  refine (begun14_any _ HL0.out).mono ?_
  rintro e' w1 ⟨rfl, hb⟩
  have x0 := cell_keep hb (a := ⟨w.heap.size, 0, none⟩) (v := .int .i64 e) (by simp [go_sem])
  have x1 := cell_keep hb (a := ⟨w.heap.size, 1, none⟩) (v := .slice a zs.length c) (by simp [go_sem])
  have x2 := cell_keep hb (a := ⟨w.heap.size, 2, none⟩) (v := .int .i64 nw) (by simp [go_sem])
  have f0 := frozen_keep hb (a := ⟨w.heap.size, 0, none⟩) (v := .int .i64 e) (by simp [go_sem]) (by simp [go_sem])
  have f1 := frozen_keep hb (a := ⟨w.heap.size, 1, none⟩) (v := .slice a zs.length c) (by simp [go_sem]) (by simp [go_sem])
  have f2 := frozen_keep hb (a := ⟨w.heap.size, 2, none⟩) (v := .int .i64 nw) (by simp [go_sem]) (by simp [go_sem])
  have hz1 := Lib.hid ((hz.alloc _).keep hb)
  have HL : Hid (Below w.heap.size w w1) := below_on (below_alloc (Below.refl _ _) _) hb
  clear hb hz
  go_wp2_with fail
  refine (roster_ys _ _ _ _ _ ys _ hz1.out hl hcap hys.out).mono ?_
  rintro e' w2 ⟨v2, rfl, hown, hb⟩
  obtain ⟨a2, c2, rfl, _, hc2⟩ := own_cap hown
  have z1 : w.heap.size < w1.heap.size := cell_old x0
  replace f0 := frozen_keep hb x0 f0
  replace f1 := frozen_keep hb x1 f1
  replace f2 := frozen_keep hb x2 f2
  replace x0 := cell_keep hb x0
  replace x1 := cell_keep hb x1
  replace x2 := cell_keep hb x2
  have hBox := Lib.hid (BoxR.make (e := e) (nw := nw) _ _ _ (Nat.le_refl w.heap.size) x0 x1 x2 f0 f1 f2 hown z1 (below_on HL.out hb) hc2)
  clear hown hb HL hz1 z1 hc2 HL0
  go_wp2_with fail
  clear x0 x1 x2 f0 f1 f2
  generalize ((w2.setCell ⟨w.heap.size, 0, none⟩ (.int .i64 e)).setCell ⟨w.heap.size, 1, none⟩ (.slice a2 ys.length c2)).setCell ⟨w.heap.size, 2, none⟩ (.int .i64 nw) = W at hBox ⊢
  obtain ⟨x0, x1, x2, f0, f1, f2, ho, hlow, hc2⟩ := hBox.out
  clear f0 f1 f2 ho hlow hc2
  go_wp2_with fail
  refine (mayRoster_any _ _ _ _ _ _ (by omega) hBox.out.ints).mono ?_
  rintro e' w3 ⟨rfl, hb⟩
  clear x0 x1 x2
  replace hBox := Lib.hid (hBox.out.keep hb)
  obtain ⟨x0, x1, x2, f0, f1, f2, ho, hlow, hc2⟩ := hBox.out
  have Hlow := Lib.hid hlow
  clear hb f0 f1 f2 ho hlow hc2
  by_cases hm : mayB e ys nw = false
  · rw [hm]
    clear hm
    go_wp2_with fail
    go_ret
    exact ⟨rfl, Hlow.out⟩
  · have hm' : mayB e ys nw = true := by simpa using hm
    rw [hm']
    clear hm
    have HM := Lib.hid hm'
    obtain ⟨-, -, hnd, hmem, hy5, hy1⟩ := picked [] hm'
    have HP := Lib.hid (fun l => picked (e := e) (zs := ys) (nw := nw) l hm')
    have HMem := Lib.hid hmem
    have hmk := fun w => run_mkI w ys.length (by omega)
    clear hm' hnd hmem
    go_upto_block 0 with fail
    have HLS0 : Hid (LS w3 (mkI w3 ys.length) w3.heap.size (.slice none 0 0) (shares nw ys []) []) := Lib.hid ⟨by rw [shares_nil]; exact (mkI_row w3 ys.length (by omega)).1, TxtR.nil _ _, by simp [Value.ownBlock], (mkI_row w3 ys.length (by omega)).2⟩
    generalize mkI w3 ys.length = w4 at HLS0 ⊢
    have HB3 := Lib.hid (Nat.le_refl w3.heap.size)
    obtain ⟨q, hq⟩ : ∃ q, w3.heap.size = q := ⟨_, rfl⟩
    rw [hq] at HLS0 ⊢
    clear hq hmk
    go_cut [8] (fun u8 wx => ∃ ks : List ByteArray, ks.length ≤ 20 ∧ (∀ s ∈ ks, s.size ≤ 40) ∧ LS w3 wx q u8 (shares nw ys ks) ks)
    case first =>
      go_wp2_with fail
      go_loopw [8, 10] (fun u8 u10 wr => ∃ (k : Nat) (ks : List ByteArray), u10 = .int .i64 (k : Int) ∧ k ≤ 20 ∧ k ≤ kz.length ∧ ks.length = k ∧ (∀ s ∈ ks, s.size ≤ 40) ∧ LS w3 wr q u8 (shares nw ys ks) ks) (fun _ u10 _ => 60 - (intOf u10).toNat)
      case atStart => exact ⟨0, [], rfl, by omega, by omega, rfl, by simp, HLS0.out⟩
      case round =>
        obtain ⟨k, ks, rfl, hk, hkz, hkn, hsz, hls⟩ := hrel
        have HLS := Lib.hid hls
        have HSz := Lib.hid hsz
        have HKn := Lib.hid hkn
        have hBr := Lib.hid (hBox.out.keep hls.bl)
        obtain ⟨x0, x1, x2, -⟩ := hBr.out
        obtain ⟨al, cl, rfl, -⟩ := hls.txt.row
        clear hls hsz HLS0
        by_cases hkl : k < kz.length ∧ k < 20
        · obtain ⟨hk1, hk2⟩ := hkl
          have e1 : decide ((k : Int) < (kz.length : Int)) = true := decide_eq_true (by omega)
          have e2 : decide ((k : Int) < 20) = true := decide_eq_true (by omega)
          obtain ⟨qk, ok, rfl, hc⟩ := strs_at (RowAt.keep HK.out hBr.out.2.2.2.2.2.2.2.1) hk1
          have hzk := HKs.out kz[k] (List.getElem_mem hk1)
          obtain ⟨A, hA⟩ : ∃ A, cutS kz[k] 40 = A := ⟨_, rfl⟩
          have hAs : A.size ≤ 40 := by rw [← hA, cutS_size]; omega
          have HA := Lib.hid hA
          clear hA
          generalize kz[k] = x at hc hzk HA
          obtain ⟨hp1, hp2, hp3, hp4, -, -⟩ := HP.out A.data.toList
          obtain ⟨i, y, hi1, hi2, hi3, hi4, hi5, hst⟩ := shares_step (ks := ks) (A := A) rfl hp1 hp2 hp3
          have HRP := Lib.hid (fun W (h : IntsAt W a2 ys) => rpick_fil e a2 c2 ys nw A W (by omega) h (by omega))
          rw [fil_pick A.data.toList nw ys hp4] at HRP
          have HLP := Lib.hid (fun W (h : IntsAt W a2 ys) => pick_any e a2 c2 ys nw A W (by omega) h (by omega))
          have HW1 := Lib.hid (fun W => weight_any n A W (by omega))
          have HW2 := Lib.hid (fun W => rweight_any n A W (by omega))
          have HSp := Lib.hid (fun W (h : IntsAt W a2 ys) => spot_any e nw (pick A.data.toList nw ys) a2 c2 ys W (by omega) h)
          rw [hi1] at HSp
          generalize pick A.data.toList nw ys = p at HRP HLP HSp
          generalize wgt n A.data.toList = wv at HW1 HW2
          have HSt := Lib.hid hst
          have HGt := Lib.hid hi3
          have hpp : (p != p) = false := by simp
          have hww : (wv != wv) = false := by simp
          have hwy : IntKind.i64.wrap (y + 1) = y + 1 := IntWalk.i64_in _ (by have := HKn.out; omega)
          have HKl := Lib.hid (show ks.length < 1000000 by have := HKn.out; omega)
          clear hst hi3 hi1 hp1 hp2 hp3 hp4 hkn
          go_wp2_with fail
          refine (cut_h x A 40 40 _ HA hzk (by decide) rfl).mono ?_
          rintro e' w5 ⟨rfl, rfl⟩
          clear hc
          go_wp2_with fail
          refine (HRP.out _ hBr.out.ints).mono ?_
          rintro e' w6 ⟨rfl, hb⟩
          replace HLS := Lib.hid (HLS.out.low hb)
          replace hBr := Lib.hid (hBr.out.keep hb)
          obtain ⟨x0, x1, x2, -⟩ := hBr.out
          clear hb
          go_wp2_with fail
          refine (HLP.out _ hBr.out.ints).mono ?_
          rintro e' w7 ⟨rfl, hb⟩
          replace HLS := Lib.hid (HLS.out.low hb)
          replace hBr := Lib.hid (hBr.out.keep hb)
          clear hb x0 x1 x2
          go_wp2_with fail
          refine (HW1.out _).mono ?_
          rintro e' w8 ⟨rfl, hb⟩
          replace HLS := Lib.hid (HLS.out.low hb)
          replace hBr := Lib.hid (hBr.out.keep hb)
          clear hb
          go_wp2_with fail
          refine (HW2.out _).mono ?_
          rintro e' w9 ⟨rfl, hb⟩
          replace HLS := Lib.hid (HLS.out.low hb)
          replace hBr := Lib.hid (hBr.out.keep hb)
          obtain ⟨x0, x1, x2, -⟩ := hBr.out
          clear hb
          go_wp2_with fail
          refine (HSp.out _ hBr.out.ints).mono ?_
          rintro e' wa ⟨rfl, hb⟩
          replace HLS := Lib.hid (HLS.out.low hb)
          replace hBr := Lib.hid (hBr.out.keep hb)
          obtain ⟨g1, g2⟩ := HLS.out.cnt.get HGt.out
          have HLSs := Lib.hid (HLS.out.set i (y + 1))
          have hil : decide ((i : Int) < (ys.length : Int)) = true := decide_eq_true (by omega)
          clear hb x0 x1 x2
          go_upto_region 17 with fail
          clear g1 g2
          generalize wa.setCell ⟨q, i, none⟩ (.int .i64 (y + 1)) = wb at HLSs ⊢
          go_wp2_with (at_builtin; refine wpList_txt rfl _ _ rfl w3.heap.size (Nat.le_trans HLSs.out.bl.size (below_alloc (Below.refl _ _) _).size) (.slice al ks.length cl) ks rfl (HLSs.out.txt.low (below_alloc (Below.refl _ _) _)) A wb.heap.size rfl (by simp) HKl.out ?_; intro v' w' ht hg hb; have HLSn := Lib.hid (HLSs.out.push (below_alloc (Below.refl _ _) _) ht hg hb); clear ht hg hb)
          exact ⟨⟨k + 1, ks ++ [A], by go_num, by omega, by omega, by rw [List.length_append, HKn.out]; rfl, fun s hs => by
            rcases List.mem_append.1 hs with h | h
            · exact HSz.out s h
            · simp at h; subst h; exact hAs, by rw [HSt.out]; exact HLSn.out⟩, by simp [intOf]; omega⟩
        · have hex : (k < kz.length ∧ ¬ k < 20 ∧ decide ((k : Int) < (kz.length : Int)) = true ∧ decide ((k : Int) < 20) = false) ∨ (¬ k < kz.length ∧ decide ((k : Int) < (kz.length : Int)) = false) := by
            by_cases h1 : k < kz.length
            · exact Or.inl ⟨h1, by omega, decide_eq_true (by omega), decide_eq_false (by omega)⟩
            · exact Or.inr ⟨h1, decide_eq_false (by omega)⟩
          rcases hex with ⟨i1, i2, e1, e2⟩ | ⟨i1, e1⟩
          all_goals
            go_wp2_with fail
            go_meet
            exact ⟨ks, by have := HKn.out; omega, HSz.out, HLS.out⟩
    case rest =>
      obtain ⟨ks, hk20, hk40, hls⟩ := hcut
      have HLS := Lib.hid hls
      obtain ⟨al, cl, rfl, hrow⟩ := hls.txt.row
      have hBr := Lib.hid (hBox.out.keep hls.bl)
      obtain ⟨x0, x1, x2, -⟩ := hBr.out
      have HSh := Lib.hid (share_any e a2 al c2 cl ys ks nw _ (by omega) hBr.out.ints (fun z hz => fits_of (by have := HMem.out z hz; omega)) (by omega) hrow (fun s hs => by have := hk40 s hs; omega))
      obtain ⟨sh, hsh⟩ : ∃ sh, shares nw ys ks = sh := ⟨_, rfl⟩
      have hshl : Hid (sh.length = ys.length) := Lib.hid (by rw [← hsh, shares_len])
      unfold ShR at HSh
      rw [hsh] at HLS HSh
      clear hsh hls hrow hk40 HLS0
      go_wp2_with fail
      refine HSh.out.mono ?_
      rintro e' w5 ⟨v5, rfl, hown, hb⟩
      obtain ⟨sa, cs, rfl, hints, -⟩ := own_cap hown
      have HI := Lib.hid hints
      replace HLS := Lib.hid (HLS.out.low hb)
      replace hBr := Lib.hid (hBr.out.keep hb)
      clear hown hints hb x0 x1 x2
      go_wp2_with fail
      go_loopw [14] (fun u14 wr => ∃ i : Nat, u14 = .int .i64 (i : Int) ∧ i ≤ ys.length ∧ IntsAt wr sa sh ∧ CntR wr w3.heap.size q sh ∧ Below w.heap.size w wr) (fun u14 _ => 30 - (intOf u14).toNat)
      case atStart => exact ⟨0, rfl, Nat.zero_le _, HI.out, HLS.out.cnt, hBr.out.2.2.2.2.2.2.2.1⟩
      case round =>
        obtain ⟨i, rfl, hi, hin, hcn, hbe⟩ := hrel
        have HIn := Lib.hid hin
        have HCn := Lib.hid hcn
        have HBe := Lib.hid hbe
        have hsl := hshl.out
        clear hin hcn hbe
        by_cases hil : i < ys.length
        · have e1 : decide ((i : Int) < (sh.length : Int)) = true := decide_eq_true (by omega)
          have e2 : decide ((i : Int) < (ys.length : Int)) = true := decide_eq_true (by omega)
          have hil2 : i < sh.length := by omega
          obtain ⟨qs, os, rfl, g3⟩ : ∃ qs os, sa = some ⟨qs, os, none⟩ ∧ wr.cell? ⟨qs, os + i, none⟩ = some (.int .i64 sh[i]) := by
            rcases HIn.out with h | ⟨qs, os, h1, -, h2⟩
            · subst h; simp at hil2
            · refine ⟨qs, os, h1, ?_⟩
              rw [h2 i hil2]
              unfold nthI
              rw [List.getD_eq_getElem?_getD, List.getElem?_eq_getElem hil2]; rfl
          obtain ⟨g1, -⟩ := HCn.out.get (List.getElem?_eq_getElem hil2)
          have hxx : (sh[i] != sh[i]) = false := by simp
          generalize sh[i] = y at g1 g3 hxx
          have hsl2 := Lib.hid hsl
          clear hsl
          go_wp2_with fail
          go_quiet (fail)
          go_wp2_with fail
          exact ⟨⟨i + 1, by go_num, by omega, HIn.out.keep (below_drewN (Below.refl _ _) _), HCn.out.low (below_drewN (Below.refl _ _) _), below_on HBe.out (below_drewN (Below.refl _ _) _)⟩, by simp [intOf]; omega⟩
        · have e1 : decide ((i : Int) < (sh.length : Int)) = false := decide_eq_false (by omega)
          have e3 : ((sh.length : Int) == (ys.length : Int)) = true := by rw [beq_iff_eq]; omega
          have e4 : (sh.length == ys.length) = true := by rw [beq_iff_eq]; omega
          clear hsl
          go_wp2_with fail
          all_goals
            go_ret
            exact ⟨rfl, HBe.out⟩
end Go.Proofs.YtehplflhaegkbaaGreatDoor
