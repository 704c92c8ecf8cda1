/- Walks of chief.hears, chief.mute, chief.Roster. -/
import Derived.Test.YthiphdcbboapkaaGreatDoorHh
import Derived.Test.YthiphdcbboapkaaGreatDoorHi
namespace Go.Proofs.YthiphdcbboapkaaGreatDoor
open Go.RowKit Go.Maps

set_option maxRecDepth 100000
theorem lit_int {a b : Int} (h : (DataW.lit (.int .i64 a) : DataW Unit) = .lit (.int .i64 b)) : a = b := by
  injection h with h; injection h
theorem HeardAt.put {w' : World} {q : Nat} {hd : Int → Int} {m : Nat} {D : DataW Unit} (hD : IsMap D) (hat : ∀ n, fitI n → D.atKey (.int .i64 n) (.lit (.int .i64 0)) = .lit (.int .i64 (hd n))) {n t : Int} (ho : w'.ownsMap Tryz.prog 3 (plainElem Tryz.prog 2) q (m + 1) (D.put (.int .i64 n) (.lit (.int .i64 t)))) : HeardAt w' q (upd hd n t) (m + 1) := by
  refine ⟨_, ho, fun i hi => ?_⟩
  unfold upd
  by_cases e : n = i
  · subst e
    rw [atKey_put_same hD (show WideAt.IsKeyLit (.int .i64 n) from trivial), if_pos rfl]
  · rw [atKey_put_other (by intro h1; injection h1 with _ h2; exact e h2.symm), if_neg (fun h => e h.symm), hat i hi]
/-- The first so many members are heard. -/
def heardK (zs : List Int) (k : Nat) (now : Int) : Int → Int := fun n => if n ∈ zs.take k then now else 0
theorem heardK_zero (zs : List Int) (now : Int) : heardK zs 0 now = fun _ => 0 := by funext n; simp [heardK]
theorem heardK_succ {zs : List Int} {k : Nat} (h : k < zs.length) (now : Int) : upd (heardK zs k now) (nthI zs k) now = heardK zs (k + 1) now := by
  funext n
  unfold upd heardK
  rw [take_snocI zs k h]
  by_cases e : n = nthI zs k
  · rw [if_pos e, if_pos (by simp [e])]
  · rw [if_neg e]
    by_cases e2 : n ∈ zs.take k
    · rw [if_pos e2, if_pos (by simp [e2])]
    · rw [if_neg e2, if_neg (by simp [e2, e])]
theorem heardK_all (zs : List Int) (now : Int) : heardK zs zs.length now = fun n => if n ∈ zs then now else 0 := by funext n; simp [heardK]
theorem may_fit {zs : List Int} (h : ∀ n ∈ zs, 1 ≤ n ∧ n ≤ 5) : ∀ n ∈ zs, fitI n := fun n hn => by have := h n hn; exact fitI_of (by omega)
set_option maxHeartbeats 3200000 in
theorem hears_any {w0 w : World} {x : Nat} {S : St} {f : Ft} (H : CH w0 w x S f) (hl1 : 1 ≤ S.zs.length) (hl5 : S.zs.length ≤ 5) (hf : ∀ n ∈ S.zs, fitI n) {now : Int} (hn : fitI now) :
    Calls Tryz.prog 37 #[.pointer (some ⟨x, 0, none⟩), .int .i64 now] w fun e' w' => e' = .returned (.tuple #[]) ∧ ∃ f', PostF w0 w x f (hearS S now) f' w' ∧ f'.g = f.g := by
  have hmm := @run_makeMap Tryz.prog
  have hrz : IntsAt w f.a S.zs := H.at'.rz
  obtain ⟨J, g, b, v, hb0, a, c, a2, c2⟩ := f
  obtain ⟨rb, ro, ha, -, -⟩ := hrz.form hl1
  change a = _ at ha
  subst ha
  clear hrz
  have hbm := below_alloc (Below.refl w.heap.size w) (.map #[] 0)
  have d8 := cell_keep hbm H.at'.d8
  change _ = some (Value.map hb0) at d8
  have f8 := frozen_keep hbm H.at'.d8 (H.at'.fz 8)
  have hxl : ¬ (x = w.heap.size) := by have := H.lt x (own_foot (x_own x _)); omega
  have HP := Lib.hid H.made
  have HF := Lib.hid hf
  have HN := Lib.hid hn
  clear H hf hn hbm
  go_enter Tryz.func37, Tryz.ntmps37
  go_upto_region 1 with fail
  clear d8 f8
  generalize (w.alloc (Obj.map #[] 0)).setCell { block := x, off := 8 } (Value.map (some w.heap.size)) = W at HP ⊢
  obtain ⟨q, hq⟩ : ∃ q, w.heap.size = q := ⟨_, rfl⟩
  have HQ := Lib.hid hq
  rw [hq] at HP hxl
  clear hq hmm
  have d2 : W.cell? ⟨x, 2, none⟩ = some (.slice (some ⟨rb, ro, none⟩) S.zs.length c) := HP.out.ch.at'.d2
  go_wp2_with fail
  clear d2
  go_loopw [16] (fun i wr => ∃ k : Nat, k ≤ S.zs.length ∧ i = .int .i64 k ∧ CH w0 wr x { S with hd := heardK S.zs k now, m := k, on := true } ⟨J, g, b, v, some q, some ⟨rb, ro, none⟩, c, a2, c2⟩ ∧ Only (own x ⟨J, g, b, v, some q, some ⟨rb, ro, none⟩, c, a2, c2⟩) W wr) (fun i _ => S.zs.length - (intOf i).toNat)
  case atStart => exact ⟨0, Nat.zero_le _, rfl, by rw [heardK_zero]; exact HP.out.ch, Only.refl _ _⟩
  case round =>
    obtain ⟨k, hk, rfl, hch, ho⟩ := hrel
    have HC := Lib.hid hch
    have HO := Lib.hid ho
    by_cases hlt : k < S.zs.length
    · obtain ⟨_, _, e1, -, hcs⟩ := hch.at'.rz.form hl1
      change some (Addr.mk rb ro none) = _ at e1
      cases e1
      have hcell := hcs k hlt
      change _ = some (Value.int .i64 (nthI S.zs k)) at hcell
      have d8 : wr.cell? ⟨x, 8, none⟩ = some (.map (some q)) := hch.at'.d8
      have HFk : Hid (fitI (nthI S.zs k)) := Lib.hid (HF.out _ (nthI_mem S.zs k hlt))
      obtain ⟨q', e2, D, hown, hat⟩ := hch.mp rfl
      cases e2
      have HD := Lib.hid hown
      have HA := Lib.hid hat
      have HE := Lib.hid (heardK_succ hlt now)
      obtain ⟨n, hn⟩ : ∃ n, nthI S.zs k = n := ⟨_, rfl⟩
      rw [hn] at hcell HFk HE
      clear hcs hch hown hat ho hn
      go_wp2_with (at_mapUpdate; refine wpList_mapUpdate_own _ rfl _ _ _ 74 rfl 3 2 keyInt Tryz.underlying74 _ q k _ rfl HD.out (by unfold maxLen; omega) _ _ _ rfl rfl (keyOf_int_mk Tryz.underlying3 HFk.out) _ [] (plainElem_int Tryz.underlying2 HN.out) ?_; intro w2 hown2 hg2; have HH2 := Lib.hid (HeardAt.put HD.out.isMap HA.out hown2); have HO2 := Lib.hid (only_grown hg2); clear hown2 hg2)
      go_roundw
      case rel =>
        refine ⟨k + 1, by omega, by go_num, ?_, HO.out.join HO2.out (fun i hi => Or.inl (by simp at hi; subst hi; exact mem_own.2 (Or.inr (Or.inl (by simp)))))⟩
        have h1 := HH2.out
        rw [HE.out] at h1
        exact HC.out.heard rfl HO2.out h1
      case measure => simp [intOf]; omega
    · have hke : k = S.zs.length := by omega
      have e1 : decide ((k : Int) < (S.zs.length : Int)) = false := decide_eq_false (by omega)
      have HK : Hid (heardK S.zs k now = fun n => if n ∈ S.zs then now else 0) := Lib.hid (by rw [hke]; exact heardK_all _ _)
      have HKE := Lib.hid hke
      clear hch ho hke
      go_wp2_with fail
      go_end0
      refine ⟨rfl, ⟨J, g, b, v, some q, some ⟨rb, ro, none⟩, c, a2, c2⟩, ⟨?_, ?_, ?_, ?_⟩, rfl⟩
      · have h1 := HC.out
        rw [HK.out, HKE.out] at h1
        exact h1
      · exact HP.out.only.join HO.out HP.out.own'
      · have h1 := HP.out.own'
        rw [← HQ.out] at h1 ⊢
        exact h1
      · have h1 := HP.out.foot'
        rw [← HQ.out] at h1 ⊢
        exact h1
/-! mute -/
theorem sub_i64 {a b : Int} (ha : 0 ≤ a ∧ a ≤ 4611686018427387904) (hb : 0 ≤ b ∧ b ≤ 4611686018427387904) : IntKind.i64.wrap (a - b) = a - b := IntWalk.i64_in _ (by omega)
set_option maxHeartbeats 3200000 in
theorem mute_any {w0 w : World} {x : Nat} {S : St} {f : Ft} (H : CH w0 w x S f) (hon : S.on = true) (hl1 : 1 ≤ S.zs.length) (hl5 : S.zs.length ≤ 5) (hf : ∀ n ∈ S.zs, fitI n) {now : Int} (hn : 0 ≤ now ∧ now ≤ 4611686018427387904) (hb : ∀ n, 0 ≤ S.hd n ∧ S.hd n ≤ 4611686018427387904) :
    Calls Tryz.prog 41 #[.pointer (some ⟨x, 0, none⟩), .int .i64 now] w fun e' w' => e' = .returned (.int .i64 (muteL S.zs S.hd now)) ∧ w = w' := by
  obtain ⟨rb, ro, ha, -, hcs⟩ := H.at'.rz.form hl1
  change f.a = _ at ha
  have d2 : w.cell? ⟨x, 2, none⟩ = some (.slice f.a S.zs.length f.c) := H.at'.d2
  rw [ha] at d2
  obtain ⟨q, hq, D, hown, hat⟩ := H.mp hon
  have d8 : w.cell? ⟨x, 8, none⟩ = some (.map f.hb) := H.at'.d8
  rw [hq] at d8
  have HD := Lib.hid hown
  have HA := Lib.hid hat
  have HF := Lib.hid hf
  have HB := Lib.hid hb
  have HCs : Hid (∀ j, j < S.zs.length → w.cell? ⟨rb, ro + j, none⟩ = some (.int .i64 (nthI S.zs j))) := Lib.hid hcs
  obtain ⟨R, hR⟩ : ∃ R, muteL S.zs S.hd now = R := ⟨_, rfl⟩
  rw [hR]
  have HR := Lib.hid hR
  clear H hat hown hf hb hcs ha hq hR
  go_enter Tryz.func41, Tryz.ntmps41
  go_wp2_with fail
  go_loop [13] (fun i => ∃ k : Nat, k ≤ S.zs.length ∧ i = .int .i64 k ∧ muteL (S.zs.drop k) S.hd now = R) (fun i => S.zs.length - (intOf i).toNat)
  case atStart => exact ⟨0, Nat.zero_le _, rfl, HR.out⟩
  case round =>
    obtain ⟨k, hk, rfl, hm⟩ := hrel
    by_cases hlt : k < S.zs.length
    · have hcell := HCs.out k hlt
      have HFk : Hid (fitI (nthI S.zs k)) := Lib.hid (HF.out _ (nthI_mem S.zs k hlt))
      have hdr : S.zs.drop k = nthI S.zs k :: S.zs.drop (k + 1) := by
        rw [List.drop_eq_getElem_cons hlt]
        congr 1
        unfold nthI; rw [List.getD, List.getElem?_eq_getElem hlt]; rfl
      rw [hdr] at hm
      obtain ⟨n, hn'⟩ : ∃ n, nthI S.zs k = n := ⟨_, rfl⟩
      rw [hn'] at hcell HFk hm
      have hbn := HB.out n
      have HL : Hid (D.atKey (.int .i64 n) (.lit (.int .i64 0)) = .lit (.int .i64 (S.hd n))) := Lib.hid (HA.out n HFk.out)
      obtain ⟨t, ht⟩ : ∃ t, S.hd n = t := ⟨_, rfl⟩
      rw [ht] at hbn HL
      have qw := sub_i64 hn hbn
      have hm2 : (if 9 < now - t then n else muteL (S.zs.drop (k + 1)) S.hd now) = R := by rw [← hm, ← ht]; rfl
      have HM := Lib.hid hm2
      clear hdr hm hn' ht hm2 hbn
      by_cases h9 : 9 < now - t
      · have q9 : decide (9 < now - t) = true := decide_eq_true h9
        have HM2 : Hid (n = R) := Lib.hid (by have := HM.out; rwa [if_pos h9] at this)
        clear h9
        go_wp2_with (at_lookup; refine wpList_lookup_own_int _ rfl _ _ 74 rfl 3 2 .i64 keyInt Tryz.underlying74 Tryz.underlying2 (zero64 _) q _ D rfl HD.out _ _ rfl (keyOf_int_mk Tryz.underlying3 HFk.out) ?_; intro c hat hwc; obtain rfl := lit_int (hat.symm.trans HL.out); clear hat hwc)
        go_ret
        exact ⟨by rw [HM2.out]; rfl, rfl⟩
      · have q9 : decide (9 < now - t) = false := decide_eq_false h9
        have HM2 : Hid (muteL (S.zs.drop (k + 1)) S.hd now = R) := Lib.hid (by have := HM.out; rwa [if_neg h9] at this)
        clear h9
        go_wp2_with (at_lookup; refine wpList_lookup_own_int _ rfl _ _ 74 rfl 3 2 .i64 keyInt Tryz.underlying74 Tryz.underlying2 (zero64 _) q _ D rfl HD.out _ _ rfl (keyOf_int_mk Tryz.underlying3 HFk.out) ?_; intro c hat hwc; obtain rfl := lit_int (hat.symm.trans HL.out); clear hat hwc)
        go_round
        case rel => exact ⟨k + 1, by omega, by go_num, HM2.out⟩
        case measure => simp [intOf]; omega
    · have e1 : decide ((k : Int) < (S.zs.length : Int)) = false := decide_eq_false (by omega)
      have hR0 : R = 0 := by rw [← hm, List.drop_eq_nil_of_le (by omega)]; rfl
      have HR0 := Lib.hid hR0
      clear hm hR0
      go_wp2_with fail
      go_ret
      exact ⟨by rw [HR0.out]; rfl, rfl⟩
/-! Roster -/
set_option maxHeartbeats 1600000 in
theorem chroster_at {w : World} {x : Nat} {e nw : Int} {a : Option Addr} {c : Nat} {zs : List Int} (h1 : w.cell? ⟨x, 1, none⟩ = some (.int .i64 e)) (h2 : w.cell? ⟨x, 2, none⟩ = some (.slice a zs.length c)) (h3 : w.cell? ⟨x, 3, none⟩ = some (.int .i64 nw)) (hz : IntsAt w a zs) (hl5 : zs.length ≤ 5) :
    Calls Tryz.prog 24 #[.pointer (some ⟨x, 0, none⟩)] w fun e' w' => ∃ a c, e' = .returned (rosV e a zs c nw) ∧ OwnI w' w.heap.size (.slice a zs.length c) zs ∧ Below w.heap.size w w' := by
  have hb1 := below_alloc (Below.refl w.heap.size w) (.cells #[.int .i64 0, .slice none 0 0, .int .i64 0] 24)
  have HX := Lib.hid (B3.new w (.int .i64 0) (.slice none 0 0) (.int .i64 0) 24)
  have d1 : _ = some (Value.int .i64 e) := cell_keep hb1 h1
  have d2 : _ = some (Value.slice a zs.length c) := cell_keep hb1 h2
  have d3 : _ = some (Value.int .i64 nw) := cell_keep hb1 h3
  have HZ : Hid (IntsAt _ a zs) := Lib.hid (hz.keep hb1)
  have HB := Lib.hid hb1
  clear hz h1 h2 h3 hb1
  go_enter Tryz.func24, Tryz.ntmps24
  go_upto_region 2 with fail
  have hV : (w.alloc (.cells #[.int .i64 0, .slice none 0 0, .int .i64 0] 24)).heap.size = w.heap.size + 1 := by simp
  have HY : Hid (B3 _ _ _ _ _) := Lib.hid (B3.new (w.alloc (.cells #[.int .i64 0, .slice none 0 0, .int .i64 0] 24)) (.int .i64 e) (.slice a zs.length c) (.int .i64 nw) 24)
  rw [hV] at HY
  generalize w.alloc (.cells #[.int .i64 0, .slice none 0 0, .int .i64 0] 24) = V at HX HZ HB HY hV d1 d2 d3 ⊢
  obtain ⟨rb, hrb⟩ : ∃ rb, w.heap.size = rb := ⟨_, rfl⟩
  rw [hrb] at HX HY HB hV ⊢
  have HV := Lib.hid hV
  have HR := Lib.hid hrb
  clear hV hrb
  go_upto_region 1 with fail
  have hb2 := below_alloc (Below.refl V.heap.size V) (.cells #[.int .i64 e, .slice a zs.length c, .int .i64 nw] 24)
  have HX1 := Lib.hid (HX.out.keep hb2)
  have HZ1 := Lib.hid (HZ.out.keep hb2)
  have HB1 : Hid (Below rb w (V.alloc (.cells #[.int .i64 e, .slice a zs.length c, .int .i64 nw] 24))) := Lib.hid (HB.out.trans (hb2.mono (by have := HV.out; omega)))
  have hV1 : (V.alloc (.cells #[.int .i64 e, .slice a zs.length c, .int .i64 nw] 24)).heap.size = rb + 2 := by have := HV.out; simp; omega
  clear hb2 d1 d2 d3 HX HZ HB HV
  generalize V.alloc (.cells #[.int .i64 e, .slice a zs.length c, .int .i64 nw] 24) = V1 at HX1 HZ1 HY HB1 hV1 ⊢
  refine (clone_any a c zs _ (by omega) HZ1.out).mono ?_
  rintro e' w2 ⟨v, rfl, hown, hb⟩
  obtain ⟨a2, c2, rfl, -, -⟩ := own_cap hown
  have HY2 := Lib.hid (HY.out.keep hb)
  have HX2 := Lib.hid (HX1.out.keep hb)
  have HO := Lib.hid hown
  have HB2 := Lib.hid (HB1.out.trans (hb.mono (by omega)))
  have HS := Lib.hid hV1
  clear hown hb HX1 HZ1 HY HB1 hV1
  obtain ⟨x0, x1, x2, g0, g1, g2⟩ := HX2.out
  obtain ⟨y0, y1, y2, k0, k1, k2⟩ := HY2.out
  go_wp2_with fail
  refine bodyPost_ret (v := rosV e a2 zs c2 nw) (by simp [results, Tryz.results24, go_sem, x0, x1, x2]) rfl ⟨a2, c2, rfl, ?_, ?_⟩
  · rw [HR.out]
    have h1 := HO.out
    have h2 : OwnI (w2.setCell ⟨rb + 1, 1, none⟩ (.slice a2 zs.length c2)) V1.heap.size (.slice a2 zs.length c2) zs := ownsRow_setCell_below h1 (a := ⟨rb + 1, 1, none⟩) (by have := HS.out; show rb + 1 < _; omega) _
    exact ownsRow_base (own_set3 h2 (by have := HS.out; omega) _ _ _) (by have := HS.out; omega)
  · rw [HR.out]
    exact below_set3 (HB2.out.setCell (p := ⟨rb + 1, 1, none⟩) (Nat.le_succ _) _) (Nat.le_refl _) _ _ _ _ _ _
theorem chroster_any {w0 w : World} {x : Nat} {S : St} {f : Ft} (H : CH w0 w x S f) (hl5 : S.zs.length ≤ 5) :
    Calls Tryz.prog 24 #[.pointer (some ⟨x, 0, none⟩)] w fun e' w' => ∃ a c, e' = .returned (rosV S.e a S.zs c S.nw) ∧ OwnI w' w.heap.size (.slice a S.zs.length c) S.zs ∧ Below w.heap.size w w' :=
  chroster_at H.at'.d1 H.at'.d2 H.at'.d3 H.at'.rz hl5
end Go.Proofs.YthiphdcbboapkaaGreatDoor
