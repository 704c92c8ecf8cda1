/- RollNames: the walk. -/
import Derived.Test.YtcfimmemnmmiiaaGreatDoorRv
import Derived.Deep.RegionWith
namespace Go.Proofs.YtcfimmemnmmiiaaGreatDoor
open Go.RowKit

def d0 : Scr := ⟨⟨#[]⟩, 0, false⟩
theorem nm_w1 : writeS 10 [] (⟨#[65]⟩ : ByteArray).data.toList ⟨#[]⟩ = (0, 10, [([65], d0)]) := by kernel_rfl
theorem nm_w2 {m : Nm} (hg : goodN m = true) : writeS 10 [([65], d0)] m ⟨#[]⟩ = (0, 10, putL m ⟨catB (atL m [([65], d0)]).s ⟨#[]⟩, (atL m [([65], d0)]).p, (atL m [([65], d0)]).k⟩ [([65], d0)]) := writeS_put hg (by decide)
theorem nm_w3 {m : Nm} (hg : goodN m = false) : writeS 10 [([65], d0)] m ⟨#[]⟩ = (1, 10, [([65], d0)]) := by
  unfold writeS; rw [if_pos hg]
theorem nm_ok : OkL 10 [([65], d0)] := ⟨by decide, by decide, fun x hx => by rw [List.mem_singleton.1 hx]; decide⟩
theorem nm_rise : Rising [(([65] : Nm), d0)] := List.pairwise_singleton _ _
/-- What the call comes to. -/
theorem nm_call {m : Nm} (hg : goodN m = true) (c : Scr) : ∃ r L, callS 10 (putL m c [([65], d0)]) [65] m = (0, r, L) ∧ L.length = 1 := by
  by_cases e : m = [65]
  · subst e
    have e1 : putL [65] c [([65], d0)] = [([65], c)] := rfl
    rw [e1]
    exact ⟨_, _, call_same hg rfl, rfl⟩
  · have hl : lookL [65] (putL m c [([65], d0)]) = some d0 := by
      rw [look_putL nm_rise, if_neg (fun q => e q.symm)]; rfl
    refine ⟨_, _, call_put hg hl (fun q => e q.symm), ?_⟩
    have e2 : delL [65] (putL m c [([65], d0)]) = [(m, c)] := by
      refine rising_ext (delL_rising (putL_rising nm_rise)) (List.pairwise_singleton _ _) fun ⟨n, d⟩ => ?_
      rw [mem_delL, mem_putL nm_rise]
      simp only [List.mem_singleton, Prod.mk.injEq]
      constructor
      · rintro ⟨(h | ⟨h1, h2, h3⟩), h4⟩
        · exact h
        · exact absurd h2 h4
      · rintro ⟨rfl, rfl⟩
        exact ⟨Or.inl ⟨rfl, rfl⟩, e⟩
    rw [e2]
    have e3 : ∀ x : Scr, putL m x [(m, c)] = [(m, x)] := fun x => by
      unfold putL
      rw [if_neg (lt_irr m), if_pos rfl]
    rw [e3]; rfl
/-- Is a text good so far? -/
def goodK (l : List UInt8) (k : Nat) : Bool := decide (1 ≤ l.length) && decide (l.length ≤ 10) && !((l.take k).any badB)
theorem goodK_succ (l : List UInt8) (k : Nat) (h : k < l.length) : goodK l (k + 1) = (goodK l k && !badB l[k]) := by
  unfold goodK; rw [any_take_succ l k h]; cases (l.take k).any badB <;> simp
theorem goodK_all (l : List UInt8) : goodK l l.length = goodN l := by
  unfold goodK goodN; rw [List.take_length]; cases l.any badB <;> simp
theorem goodK_zero (l : List UInt8) : goodK l 0 = (decide (1 ≤ l.length) && decide (l.length ≤ 10)) := by unfold goodK; simp
theorem run_one (W : World) (x : UInt8) : (convert 47 9 (.slice (some ⟨W.heap.size, 0, none⟩) 1 1)).run Tryz.prog (W.alloc (.cells #[.int .u8 (x.toNat : Int)] 5)) = .ok (.string ⟨#[x]⟩) (W.alloc (.cells #[.int .u8 (x.toNat : Int)] 5)) := by
  have h := run_convert_bytes_back (P := Tryz.prog) (W.alloc (.cells #[.int .u8 (x.toNat : Int)] 5)) 47 9 5 ⟨W.heap.size, 0, none⟩ 1 [x] Tryz.underlying47 Tryz.underlying5 Tryz.underlying9 (fun j hj => by
    have hj' : j = 0 := by simpa using hj
    subst hj'
    have hadd : (⟨W.heap.size, 0, none⟩ : Addr).add 0 = ⟨W.heap.size, 0, none⟩ := by unfold Addr.add; split <;> simp_all
    rw [hadd]
    exact World.cell?_alloc_new W _ _ 0)
  exact h
set_option maxRecDepth 100000 in
set_option maxHeartbeats 6400000 in
theorem rollNames_walk (s : ByteArray) (x : UInt8) (hs : s.size ≤ 9223372036854775807) (w : World) (L : Laid w) :
    Calls Tryz.prog 7 #[.string s, .int .u8 (x.toNat : Int)] w fun e w' => e = .returned (.bool true) ∧ Below w.heap.size w w' := by
  obtain ⟨A, hA⟩ : ∃ A, Hid (cutS s 12 = A) := ⟨_, Lib.hid rfl⟩
  have sA : A.size ≤ 12 := by rw [← hA.out, cutS_size]; omega
  obtain ⟨C, hC⟩ : ∃ C, catB A ⟨#[x]⟩ = C := ⟨_, rfl⟩
  have sC : C.size ≤ 13 := by rw [← hC, catB_size]; have : (⟨#[x]⟩ : ByteArray).size = 1 := rfl; omega
  have hcat : ∀ w, (Op.stringOp .add A ⟨#[x]⟩).run Tryz.prog w = .ok (.string C) w := fun w => by rw [run_catS A ⟨#[x]⟩ (by have : (⟨#[x]⟩ : ByteArray).size = 1 := rfl; omega), ← hC]; rfl
  have hcv : ∀ W : World, (convert 47 9 (.slice (some ⟨W.heap.size, 0, none⟩) 1 1)).run Tryz.prog (W.alloc (.cells #[.int .u8 (x.toNat : Int)] 5)).drew = .ok (.string ⟨#[x]⟩) (W.alloc (.cells #[.int .u8 (x.toNat : Int)] 5)).drew := fun W => run_one W.drew x
  have HL := Lib.hid L
  clear hC L
  go_enter Tryz.func7, Tryz.ntmps7
  go_wp2_with (go_at_call 14; refine (begun3_any _ HL.out).mono ?_; rintro e' w1 ⟨rfl, hb⟩; have HB1 := Lib.hid hb; clear hb)
  go_cut [0] (fun v wx => v = .string C ∧ Below w1.heap.size w1 wx)
  case first =>
    go_region_with (go_at_call 21; refine (cut_h s A 12 12 _ hA hs (by decide) rfl).mono ?_; rintro e' w' ⟨rfl, rfl⟩)
    all_goals
      go_wp2_with fail
      go_meet
      exact ⟨rfl, (below_alloc (Below.refl _ _) _).drew⟩
  case rest =>
    obtain ⟨rfl, hb⟩ := hcut
    have HB2 := Lib.hid (below_on HB1.out hb)
    clear hb hcat hcv
    have HG0 : Hid (goodK C.data.toList 0 = (decide (1 ≤ C.size) && decide (C.size ≤ 10))) := Lib.hid (by rw [goodK_zero, ← size_list])
    go_upto_region 5 with fail
    go_cut [6] (fun v wx => v = .bool (goodK C.data.toList 0) ∧ wx = wc)
    case first =>
      by_cases h1 : 1 ≤ C.size
      · by_cases h2 : C.size ≤ 10
        · have e1 : decide ((C.size : Int) ≤ 10) = true := decide_eq_true (by omega)
          have HG : Hid (goodK C.data.toList 0 = true) := Lib.hid (by rw [HG0.out]; simp [h1, h2])
          go_wp2_with fail
          go_meet
          exact ⟨by rw [HG.out], rfl⟩
        · have e1 : decide ((C.size : Int) ≤ 10) = false := decide_eq_false (by omega)
          have HG : Hid (goodK C.data.toList 0 = false) := Lib.hid (by rw [HG0.out]; simp [h2])
          go_wp2_with fail
          go_meet
          exact ⟨by rw [HG.out], rfl⟩
      · have HG : Hid (goodK C.data.toList 0 = false) := Lib.hid (by rw [HG0.out]; simp [h1])
        go_wp2_with fail
        go_meet
        exact ⟨by rw [HG.out], rfl⟩
    case rest =>
      obtain ⟨rfl, rfl⟩ := hcut
      go_wp2_with fail
      go_loop [6, 7] (fun v i => ∃ k : Nat, k ≤ C.size ∧ i = .int .i64 k ∧ v = .bool (goodK C.data.toList k)) (fun _ i => C.size - (intOf i).toNat)
      case atStart => exact ⟨0, Nat.zero_le _, rfl, rfl⟩
      case round =>
        obtain ⟨k, hk, rfl, rfl⟩ := hrel
        by_cases hlt : k < C.size
        · have hlt' : k < C.data.toList.length := by rw [← size_list]; exact hlt
          have HS := Lib.hid (goodK_succ C.data.toList k hlt')
          have hget : C[k] = C.data.toList[k] := rfl
          obtain ⟨c, hc⟩ : ∃ c, C.data.toList[k] = c := ⟨_, rfl⟩
          rw [hc] at HS hget
          have hcn := c.toNat_lt
          obtain ⟨g, hg⟩ : ∃ g, goodK C.data.toList k = g := ⟨_, rfl⟩
          rw [hg] at HS ⊢
          clear hg hc
          obtain ⟨t1, ht1⟩ : ∃ t, decide ((65 : Int) ≤ (c.toNat : Int)) = t := ⟨_, rfl⟩
          obtain ⟨t2, ht2⟩ : ∃ t, decide ((c.toNat : Int) ≤ 90) = t := ⟨_, rfl⟩
          have HBd : Hid (badB c = (!t1 || !t2)) := Lib.hid (by
            unfold badB
            rw [← ht1, ← ht2, Bool.eq_iff_iff]
            simp only [Bool.or_eq_true, decide_eq_true_eq, Bool.not_eq_true', decide_eq_false_iff_not]
            omega)
          rw [HBd.out] at HS
          clear HBd
          cases g
          · go_wp2_with fail
            go_round
            case rel => exact ⟨k + 1, by omega, by go_num, by simp [HS.out]⟩
            case measure => simp [intOf]; omega
          · cases t1
            · go_wp2_with fail
              go_round
              case rel => exact ⟨k + 1, by omega, by go_num, by simp [HS.out]⟩
              case measure => simp [intOf]; omega
            · cases t2
              · go_wp2_with fail
                go_round
                case rel => exact ⟨k + 1, by omega, by go_num, by simp [HS.out]⟩
                case measure => simp [intOf]; omega
              · go_wp2_with fail
                go_round
                case rel => exact ⟨k + 1, by omega, by go_num, by simp [HS.out]⟩
                case measure => simp [intOf]; omega
        · obtain rfl : k = C.size := by omega
          have HGa : Hid (goodK C.data.toList C.size = goodN C.data.toList) := Lib.hid (by rw [size_list]; exact goodK_all _)
          obtain ⟨t, ht⟩ : ∃ t, goodN C.data.toList = t := ⟨_, rfl⟩
          rw [HGa.out, ht]
          have HT := Lib.hid ht
          clear HGa ht
          cases t
          · go_wp2_with fail
            refine (new_S (w0 := w) HB2.out 10 10 (by decide)).mono ?_
            rintro e w2 ⟨g, bb, rfl, hs, -, -, -⟩
            have HS := Lib.hid hs
            clear hs
            go_wp2_with fail
            refine (write_S HS.out (by simp) (OkL.nil (by decide) (by decide)) ⟨#[65]⟩ ⟨#[]⟩ (by decide) nm_w1).mono ?_
            rintro e w3 ⟨rfl, hs, -⟩
            replace HS := Lib.hid hs
            clear hs
            go_wp2_with fail
            refine (write_S HS.out (by simp) nm_ok C ⟨#[]⟩ (by omega) (nm_w3 HT.out)).mono ?_
            rintro e w4 ⟨rfl, hs, -⟩
            replace HS := Lib.hid hs
            clear hs
            go_wp2_with fail
            refine (rcall_S HS.out (by simp) nm_ok ⟨#[65]⟩ C (by decide) (by omega) (call_bad HT.out)).mono ?_
            rintro e w5 ⟨rfl, hs, -⟩
            replace HS := Lib.hid hs
            clear hs
            go_wp2_with fail
            refine (names_S HS.out (by simp)).mono ?_
            rintro e w6 ⟨na, nc, rfl, -, hb⟩
            replace HS := Lib.hid (HS.out.low hb)
            clear hb
            go_wp2_with fail
            go_ret
            exact ⟨rfl, HS.out.2.1⟩
          · go_wp2_with fail
            refine (new_S (w0 := w) HB2.out 10 10 (by decide)).mono ?_
            rintro e w2 ⟨g, bb, rfl, hs, -, -, -⟩
            have HS := Lib.hid hs
            clear hs
            go_wp2_with fail
            refine (write_S HS.out (by simp) (OkL.nil (by decide) (by decide)) ⟨#[65]⟩ ⟨#[]⟩ (by decide) nm_w1).mono ?_
            rintro e w3 ⟨rfl, hs, -⟩
            replace HS := Lib.hid hs
            clear hs
            have hok := writeS_ok nm_ok nm_rise C.data.toList ⟨#[]⟩
            rw [nm_w2 HT.out] at hok
            have HOK := Lib.hid hok
            clear hok
            obtain ⟨r5, L5, h5, h6⟩ := nm_call HT.out ⟨catB (atL C.data.toList [([65], d0)]).s ⟨#[]⟩, (atL C.data.toList [([65], d0)]).p, (atL C.data.toList [([65], d0)]).k⟩
            have H5 := Lib.hid h5
            have H6 := Lib.hid h6
            clear h5 h6
            go_wp2_with fail
            refine (write_S HS.out (by simp) nm_ok C ⟨#[]⟩ (by omega) (nm_w2 HT.out)).mono ?_
            rintro e w4 ⟨rfl, hs, -⟩
            replace HS := Lib.hid hs
            clear hs
            go_wp2_with fail
            refine (rcall_S HS.out (by have := HOK.out.2.2.1; simp at this; omega) HOK.out.1 ⟨#[65]⟩ C (by decide) (by omega) H5.out).mono ?_
            rintro e w5 ⟨rfl, hs, -⟩
            replace HS := Lib.hid hs
            clear hs
            go_wp2_with fail
            refine (names_S HS.out (by rw [H6.out]; decide)).mono ?_
            rintro e w6 ⟨na, nc, rfl, -, hb⟩
            replace HS := Lib.hid (HS.out.low hb)
            clear hb
            rw [H6.out]
            go_wp2_with fail
            go_ret
            exact ⟨rfl, HS.out.2.1⟩
end Go.Proofs.YtcfimmemnmmiiaaGreatDoor
