/- Walk of chief.Tick: a change. Walk of chief.Tick: nobody changes; one goes; one comes. Walk of chief.Tick: one that asks is to come. -/
import Derived.Test.YthiphdcbboapkaaGreatDoorHj
import Derived.Deep.DeepCutAuto
import Derived.Deep.CutBlock
import Derived.Test.YthiphdcbboapkaaGreatDoorH4
namespace Go.Proofs.YthiphdcbboapkaaGreatDoor
open Go.RowKit Go.Maps

set_option maxRecDepth 100000
/-- The place of the one that is to be, stored. -/
theorem store_n {w0 w : World} {x : Nat} {S : St} {f : Ft} (H : CH w0 w x S f) {e nw : Int} {zs : List Int} {a : Option Addr} {c : Nat} (hz : IntsAt w a zs) (ha : ∀ q ∈ rowB a, q ∉ own x f ∧ q < w.heap.size) :
    CH w0 (((w.setCell ⟨x, 4, none⟩ (.int .i64 e)).setCell ⟨x, 5, none⟩ (.slice a zs.length c)).setCell ⟨x, 6, none⟩ (.int .i64 nw)) x { S with e2 := e, zs2 := zs, nw2 := nw } { f with a2 := a, c2 := c } := by
  have h2 : ∀ q ∈ rowB f.a2, q ∉ own x f ∧ q < w.heap.size := fun q hq => ⟨H.da2 q hq, H.lt q (mem_foot.2 (Or.inr (Or.inr hq)))⟩
  have h1 : ∀ q ∈ rowB f.a, q ∉ own x f ∧ q < w.heap.size := fun q hq => ⟨H.da q hq, H.lt q (mem_foot.2 (Or.inr (Or.inl hq)))⟩
  have K1 : CH w0 (w.setCell ⟨x, 4, none⟩ (.int .i64 e)) x { S with e2 := e } f :=
    H.put 4 (by decide) _ (lt12 rfl rfl rfl rfl rfl rfl rfl rfl rfl rfl rfl rfl) H.at'.rz H.at'.rz2 ⟨rfl, rfl, rfl, rfl, rfl⟩ (fun _ => ⟨rfl, rfl, rfl⟩) ⟨rfl, rfl, rfl, rfl⟩ h1 h2
  have o1 : Only [x] w (w.setCell ⟨x, 4, none⟩ (.int .i64 e)) := only_one 4 _
  have hx : ∀ q ∈ rowB a, q ∉ [x] := fun q hq hm => by simp at hm; subst hm; exact (ha q hq).1 (x_own q f)
  have K2 : CH w0 ((w.setCell ⟨x, 4, none⟩ (.int .i64 e)).setCell ⟨x, 5, none⟩ (.slice a zs.length c)) x { S with e2 := e, zs2 := zs } { f with a2 := a, c2 := c } :=
    K1.put 5 (by decide) _ (lt12 rfl rfl rfl rfl rfl rfl rfl rfl rfl rfl rfl rfl) K1.at'.rz (hz.keepO o1 hx) ⟨rfl, rfl, rfl, rfl, rfl⟩ (fun _ => ⟨rfl, rfl, rfl⟩) ⟨rfl, rfl, rfl, rfl⟩ (fun q hq => by simpa using h1 q hq) (fun q hq => by simpa using ha q hq)
  exact K2.put 6 (by decide) _ (lt12 rfl rfl rfl rfl rfl rfl rfl rfl rfl rfl rfl rfl) K2.at'.rz K2.at'.rz2 ⟨rfl, rfl, rfl, rfl, rfl⟩ (fun _ => ⟨rfl, rfl, rfl⟩) ⟨rfl, rfl, rfl, rfl⟩ (fun q hq => by have := h1 q hq; exact ⟨this.1, by simpa using this.2⟩) (fun q hq => by have := ha q hq; exact ⟨this.1, by simpa using this.2⟩)
theorem only_n3 {w : World} {x : Nat} (u v t : Value) : Only [x] w (((w.setCell ⟨x, 4, none⟩ u).setCell ⟨x, 5, none⟩ v).setCell ⟨x, 6, none⟩ t) :=
  ((only_one 4 u).trans (only_one 5 v)).trans (only_one 6 t)
theorem store_lost {w0 w : World} {x : Nat} {S : St} {f : Ft} (H : CH w0 w x S f) (t : Bool) : CH w0 (w.setCell ⟨x, 10, none⟩ (.bool t)) x { S with lost := t } f :=
  H.put 10 (by decide) _ (lt12 rfl rfl rfl rfl rfl rfl rfl rfl rfl rfl rfl rfl) H.at'.rz H.at'.rz2 ⟨rfl, rfl, rfl, rfl, rfl⟩ (fun _ => ⟨rfl, rfl, rfl⟩) ⟨rfl, rfl, rfl, rfl⟩ (fun q hq => ⟨H.da q hq, H.lt q (mem_foot.2 (Or.inr (Or.inl hq)))⟩) (fun q hq => ⟨H.da2 q hq, H.lt q (mem_foot.2 (Or.inr (Or.inr hq)))⟩)
/-- Not yet: leases may hold. -/
theorem tick_wait {w0 w : World} {x : Nat} {S : St} {f : Ft} (H : CH w0 w x S f) (h1 : 0 < S.e2) {now : Int} (h2 : ¬ S.un < now) :
    Calls Tryz.prog 20 #[.pointer (some ⟨x, 0, none⟩), .int .i64 now] w fun e' w' => e' = .returned (.slice none 0 0) ∧ w = w' := by
  have HC := Lib.hid H
  have d7 : w.cell? ⟨x, 7, none⟩ = some (.int .i64 S.un) := H.at'.d7
  have q1 : Hid (decide (0 < S.e2) = true) := Lib.hid (by simp; omega)
  have q2 : decide (S.un < now) = false := by simp; omega
  have q3 : (now > S.un) = False := by simp; omega
  clear H h1 h2
  go_enter Tryz.func20, Tryz.ntmps20
  go_wp2_with (first
    | (go_at_call 39; refine (off_ch HC.out).mono ?_; rintro e' w' ⟨rfl, rfl⟩)
    | (go_at_call 25; refine (changing_ch HC.out).mono ?_; rw [q1.out]; rintro e' w' ⟨rfl, rfl⟩))
  go_ret
  exact ⟨rfl, rfl⟩
set_option maxHeartbeats 6400000 in
/-- The one that was to be is. -/
theorem tick_turn {w0 w : World} (LA : Laid w0) {x : Nat} {S : St} {f : Ft} (H : CH w0 w x S f) (h1 : 0 < S.e2) (hm : mayB S.e2 S.zs2 S.nw2 = true) (hk : S.k ≤ 300) {now : Int} (h2 : S.un < now) (hn : fitI now) :
    Calls Tryz.prog 20 #[.pointer (some ⟨x, 0, none⟩), .int .i64 now] w fun e' w' => e' = .returned (.slice none 0 0) ∧ ∃ f', PostF w0 w x f (roundS S now) f' w' ∧ f'.g = f.g := by
  obtain ⟨-, hl1, hl5, -, hmem, -⟩ := mayB_ok hm
  have HC := Lib.hid H
  have HL := Lib.hid LA
  have HM := Lib.hid hm
  have HK := Lib.hid hk
  have HN := Lib.hid hn
  have HMem := Lib.hid hmem
  have d7 : w.cell? ⟨x, 7, none⟩ = some (.int .i64 S.un) := H.at'.d7
  have d4 : w.cell? ⟨x, 4, none⟩ = some (.int .i64 S.e2) := H.at'.d4
  have d5 : w.cell? ⟨x, 5, none⟩ = some (.slice f.a2 S.zs2.length f.c2) := H.at'.d5
  have d6 : w.cell? ⟨x, 6, none⟩ = some (.int .i64 S.nw2) := H.at'.d6
  have q1 : Hid (decide (0 < S.e2) = true) := Lib.hid (by simp; omega)
  have q2 : decide (S.un < now) = true := by simp; omega
  clear H h1 h2 LA hm hk hn hmem
  go_enter Tryz.func20, Tryz.ntmps20
  go_wp2_with (first
    | (go_at_call 39; refine (off_ch HC.out).mono ?_; rintro e' w' ⟨rfl, rfl⟩)
    | (go_at_call 25; refine (changing_ch HC.out).mono ?_; rw [q1.out]; rintro e' w' ⟨rfl, rfl⟩)
    | (go_at_call 36; refine (lasts_any HL.out HC.out HK.out HM.out HC.out.at'.rz2 HC.out.da2).mono ?_; rintro e' w2 ⟨rfl, f2, hp, hg⟩; have HP2 := Lib.hid hp; have HG2 := Lib.hid hg; clear hp hg; have g4 := HP2.out.ch.at'.d4; have g5 := HP2.out.ch.at'.d5; have g6 := HP2.out.ch.at'.d6; have g9 := HP2.out.ch.at'.d9; have s4 := HP2.out.ch.at'.fz 4; have s5 := HP2.out.ch.at'.fz 5; have s6 := HP2.out.ch.at'.fz 6; have s9 := HP2.out.ch.at'.fz 9))
  have HC3 := Lib.hid (store_a (store_n HP2.out.ch (e := 0) (nw := 0) (zs := []) (a := none) (c := 0) (Or.inl rfl) (by simp [rowB])) 0)
  have HO3 : Hid (Only [x] w2 ((((w2.setCell ⟨x, 4, none⟩ (.int .i64 0)).setCell ⟨x, 5, none⟩ (.slice none 0 0)).setCell ⟨x, 6, none⟩ (.int .i64 0)).setCell ⟨x, 9, none⟩ (.int .i64 0))) := Lib.hid ((only_n3 _ _ _).trans (only_one 9 _))
  rw [List.length_nil] at HC3
  clear g4 g5 g6 g9 s4 s5 s6 s9
  generalize (((w2.setCell ⟨x, 4, none⟩ (.int .i64 0)).setCell ⟨x, 5, none⟩ (.slice none 0 0)).setCell ⟨x, 6, none⟩ (.int .i64 0)).setCell ⟨x, 9, none⟩ (.int .i64 0) = W at HC3 HO3 ⊢
  refine (hears_any HC3.out hl1 hl5 (may_fit HMem.out) HN.out).mono ?_
  rintro e' w5 ⟨rfl, f5, hp5, hg5⟩
  have HP5 := Lib.hid hp5
  have HG5 := Lib.hid hg5
  clear hp5 hg5
  go_wp2_with fail
  go_ret
  have HPm : PostF w0 w2 x f2 _ { f2 with a2 := none, c2 := 0 } W := ⟨HC3.out, HO3.out.mono (fun i hi => by simp at hi; subst hi; exact x_own _ _), fun q hq => Or.inl hq, fun q hq => by
    rcases mem_foot.1 hq with h | h | h
    · exact Or.inl (own_foot h)
    · exact Or.inl (mem_foot.2 (Or.inr (Or.inl h)))
    · simp [rowB] at h⟩
  exact ⟨rfl, f5, (HP2.out.trans HPm).trans HP5.out, HG5.out.trans HG2.out⟩
end Go.Proofs.YthiphdcbboapkaaGreatDoor
namespace Go.Proofs.YthiphdcbboapkaaGreatDoor
open Go.RowKit Go.Maps

set_option maxRecDepth 100000
theorem mute_ch {w0 w : World} {x : Nat} {S : St} {f : Ft} {T : Int} (H : CH w0 w x S f) (hok : OkS S T) (hT : T ≤ 4611686018427387000) {now : Int} (hn : 0 ≤ now ∧ now ≤ T) :
    Calls Tryz.prog 41 #[.pointer (some ⟨x, 0, none⟩), .int .i64 now] w fun e' w' => e' = .returned (.int .i64 (muteL S.zs S.hd now)) ∧ w = w' := by
  obtain ⟨-, hl1, hl5, -, hmem, -⟩ := mayB_ok hok.may
  exact mute_any H hok.on hl1 hl5 (may_fit hmem) (by omega) (fun n => by have := hok.hd n; omega)
set_option maxHeartbeats 6400000 in
theorem tick_rest {w0 w : World} {x : Nat} {S : St} {f : Ft} {T : Int} (H : CH w0 w x S f) (hok : OkS S T) (hT : T ≤ 4611686018427387000) {now : Int} (hn : 0 ≤ now ∧ now ≤ T) (h1 : ¬ 0 < S.e2) (h2 : ¬ 0 < muteL S.zs S.hd now) (h3 : ¬ 0 < S.asks) :
    Calls Tryz.prog 20 #[.pointer (some ⟨x, 0, none⟩), .int .i64 now] w fun e' w' => e' = .returned (.slice none 0 0) ∧ PostF w0 w x f { S with lost := false } f w' := by
  have HC := Lib.hid H
  have HMu := Lib.hid (mute_ch H hok hT hn)
  have q1 : Hid (decide (0 < S.e2) = false) := Lib.hid (by simp; omega)
  have q2 : decide (0 < muteL S.zs S.hd now) = false := by simp; omega
  have q3 : decide (0 < S.asks) = false := by simp; omega
  generalize muteL S.zs S.hd now = n at HMu q2
  have hb := below_alloc (Below.refl w.heap.size w) (.cells #[.int .i64 0, .slice none 0 0, .int .i64 0] 24)
  have HV := Lib.hid (H.low hb)
  have HB := Lib.hid hb
  have g10 := HV.out.at'.d10
  have s10 := HV.out.at'.fz 10
  have g9 : _ = some (Value.int .i64 S.asks) := HV.out.at'.d9
  clear H h1 h2 h3 hok hT hn hb
  go_enter Tryz.func20, Tryz.ntmps20
  go_wp2_with (first
    | (go_at_call 39; refine (off_ch HC.out).mono ?_; rintro e' w' ⟨rfl, rfl⟩)
    | (go_at_call 25; refine (changing_ch HC.out).mono ?_; rw [q1.out]; rintro e' w' ⟨rfl, rfl⟩)
    | (go_at_call 41; refine HMu.out.mono ?_; rintro e' w' ⟨rfl, rfl⟩))
  go_ret
  exact ⟨rfl, (PostF.refl HC.out).low HB.out |>.set (store_lost HV.out false)⟩
set_option maxHeartbeats 6400000 in
theorem tick_drop {w0 w : World} {x : Nat} {S : St} {f : Ft} {T : Int} (H : CH w0 w x S f) (hok : OkS S T) (hT : T ≤ 4611686018427387000) {now : Int} (hn : 0 ≤ now ∧ now ≤ T) (h1 : ¬ 0 < S.e2) (h2 : 0 < muteL S.zs S.hd now) :
    Calls Tryz.prog 20 #[.pointer (some ⟨x, 0, none⟩), .int .i64 now] w fun e' w' => e' = .returned (.slice none 0 0) ∧ ∃ f', PostF w0 w x f (nextS { S with lost := !(dropF S.e S.zs S.nw (muteL S.zs S.hd now)).2.2.2 } (dropF S.e S.zs S.nw (muteL S.zs S.hd now))) f' w' ∧ f'.g = f.g := by
  obtain ⟨-, hl1, hl5, -, -, -⟩ := mayB_ok hok.may
  have hmb := hok.may
  have HC := Lib.hid H
  have HMu := Lib.hid (mute_ch H hok hT hn)
  have q1 : Hid (decide (0 < S.e2) = false) := Lib.hid (by simp; omega)
  have q2 : decide (0 < muteL S.zs S.hd now) = true := by simp; omega
  generalize muteL S.zs S.hd now = n at HMu q2 h2 ⊢
  have hne : (dropF S.e S.zs S.nw n).2.2.2 = true → (dropF S.e S.zs S.nw n).2.1 ≠ [] := fun h he => by
    have h3 := (dropF_may h).2.1
    rw [he] at h3
    have := (mayB_mayL h3).2.1
    simp at this
  obtain ⟨r, hr⟩ : ∃ r, dropF S.e S.zs S.nw n = r := ⟨_, rfl⟩
  have HD : Hid (∀ W, CH w0 W x S f → Calls Tryz.prog 42 #[.agg #[.int .i64 S.e, .slice f.a S.zs.length f.c, .int .i64 S.nw], .int .i64 n] W (ResF W r)) := Lib.hid (fun W h => by rw [← hr]; exact drop_F S.e S.nw n f.a f.c S.zs W h.at'.rz (by omega))
  rw [hr] at hne ⊢
  have HNe := Lib.hid hne
  have hb := below_alloc (Below.refl w.heap.size w) (.cells #[.int .i64 0, .slice none 0 0, .int .i64 0] 24)
  have HV := Lib.hid (H.low hb)
  have HX := Lib.hid (B3.new w (.int .i64 0) (.slice none 0 0) (.int .i64 0) 24)
  have HB := Lib.hid hb
  have hwx : ¬ (x = w.heap.size) := fun e => by have := H.lt x (own_foot (x_own x f)); omega
  clear H h1 h2 hok hT hn hb hne hmb hr
  obtain ⟨r0, r1, r2, ok⟩ := r
  go_enter Tryz.func20, Tryz.ntmps20
  go_upto_region 14 with (first
    | (go_at_call 39; refine (off_ch HC.out).mono ?_; rintro e' w' ⟨rfl, rfl⟩)
    | (go_at_call 25; refine (changing_ch HC.out).mono ?_; rw [q1.out]; rintro e' w' ⟨rfl, rfl⟩)
    | (go_at_call 41; refine HMu.out.mono ?_; rintro e' w' ⟨rfl, rfl⟩))
  have HXF : Hid (∀ q ∈ foot x f, ¬ (q = w.heap.size)) := Lib.hid (fun q hq e => by have := HC.out.lt q hq; omega)
  have HW0 : Hid (w0.heap.size ≤ w.heap.size) := Lib.hid HC.out.below.size
  have hV : w.heap.size + 1 = (w.alloc (.cells #[.int .i64 0, .slice none 0 0, .int .i64 0] 24)).heap.size := by simp
  have HVs := Lib.hid hV
  clear hV
  generalize w.alloc (.cells #[.int .i64 0, .slice none 0 0, .int .i64 0] 24) = V at HV HX HB HVs ⊢
  obtain ⟨rb, hrb⟩ : ∃ rb, w.heap.size = rb := ⟨_, rfl⟩
  have HRB := Lib.hid hrb
  rw [hrb] at HX hwx HXF ⊢
  clear hrb
  have d1 : V.cell? ⟨x, 1, none⟩ = some (.int .i64 S.e) := HV.out.at'.d1
  have d2 : V.cell? ⟨x, 2, none⟩ = some (.slice f.a S.zs.length f.c) := HV.out.at'.d2
  have d3 : V.cell? ⟨x, 3, none⟩ = some (.int .i64 S.nw) := HV.out.at'.d3
  go_wp2_with fail
  refine (HD.out V HV.out).mono ?_
  rintro e' w2 ⟨a, c, rfl, hown, hb⟩
  have HO := Lib.hid hown
  have HX2 := Lib.hid (HX.out.keep hb)
  have HV2 := Lib.hid (HV.out.low hb)
  have HB2 := Lib.hid (below_on HB.out hb)
  have HBs := Lib.hid hb
  obtain ⟨y0, y1, y2, g0, g1, g2⟩ := HX2.out
  have d10 : w2.cell? ⟨x, 10, none⟩ = some (.bool S.lost) := HV2.out.at'.d10
  have d4 : w2.cell? ⟨x, 4, none⟩ = some (.int .i64 S.e2) := HV2.out.at'.d4
  have d5 : w2.cell? ⟨x, 5, none⟩ = some (.slice f.a2 S.zs2.length f.c2) := HV2.out.at'.d5
  have d6 : w2.cell? ⟨x, 6, none⟩ = some (.int .i64 S.nw2) := HV2.out.at'.d6
  have f4 := HV2.out.at'.fz 4
  have f5 := HV2.out.at'.fz 5
  have f6 := HV2.out.at'.fz 6
  have f10 := HV2.out.at'.fz 10
  have hO3 : ∀ u v t : Value, Only [rb] w2 (((w2.setCell ⟨rb, 0, none⟩ u).setCell ⟨rb, 1, none⟩ v).setCell ⟨rb, 2, none⟩ t) := fun u v t => ((only_one 0 u).trans (only_one 1 v)).trans (only_one 2 t)
  have HC3 : Hid (∀ u v t : Value, CH w0 (((w2.setCell ⟨rb, 0, none⟩ u).setCell ⟨rb, 1, none⟩ v).setCell ⟨rb, 2, none⟩ t) x S f) := Lib.hid (fun u v t => HV2.out.keep (hO3 u v t) (fun q hq hm => by simp at hm; exact HXF.out q hq hm) (fun i hi => by simp at hi; have := HW0.out; have := HRB.out; omega))
  have HP3 : Hid (∀ u v t : Value, PostF w0 w x f S f (((w2.setCell ⟨rb, 0, none⟩ u).setCell ⟨rb, 1, none⟩ v).setCell ⟨rb, 2, none⟩ t)) := Lib.hid (fun u v t => ⟨HC3.out u v t, (Only.of_below HB2.out).join (hO3 u v t) (fun i hi => by simp at hi; have := HRB.out; exact Or.inr (by omega)), fun _ h => Or.inl h, fun _ h => Or.inl h⟩)
  have HZ3 : Hid (∀ u v t : Value, IntsAt (((w2.setCell ⟨rb, 0, none⟩ u).setCell ⟨rb, 1, none⟩ v).setCell ⟨rb, 2, none⟩ t) a r1) := Lib.hid (fun u v t => by
    by_cases h0 : r1 = []
    · exact Or.inl h0
    · refine (own_ints hown).keepO (hO3 u v t) (fun q hq hm => ?_)
      have h1 := (own_fresh hown rfl h0 q hq).1
      have h2 := HVs.out
      have h3 := HRB.out
      simp at hm; omega)
  clear hb hown hO3 d1 d2 d3
  cases ok with
  | false =>
    go_wp2_with fail
    go_ret
    exact ⟨rfl, f, (HP3.out _ _ _).set (store_lost (HC3.out _ _ _) true), rfl⟩
  | true =>
    go_wp2_with fail
    go_ret
    have hne : r1 ≠ [] := by simpa using HNe.out
    have hfr := own_fresh HO.out rfl hne
    have h2 := HVs.out
    have K := (HP3.out (.int .i64 r0) (.slice a r1.length c) (.int .i64 r2)).set (store_lost (HC3.out (.int .i64 r0) (.slice a r1.length c) (.int .i64 r2)) false)
    have hz := ((HZ3.out (.int .i64 r0) (.slice a r1.length c) (.int .i64 r2)).keepO (only_one (J := x) 10 (.bool false)) (fun q hq hm => by
      simp at hm; subst hm
      have := (hfr q hq).1
      have := HC.out.lt q (own_foot (x_own q f))
      omega))
    refine ⟨rfl, { f with a2 := a, c2 := c }, ⟨store_n K.ch (e := r0) (nw := r2) (c := c) hz (fun q hq => ⟨fun hm => ?_, ?_⟩), K.only.join (only_n3 _ _ _) (fun i hi => Or.inl (by simp at hi; subst hi; exact x_own _ _)), fun q hq => Or.inl hq, fun q hq => ?_⟩, rfl⟩
    · have := (hfr q hq).1
      have := HC.out.lt q (own_foot hm)
      omega
    · have := (hfr q hq).2
      simpa using this
    · rcases mem_foot.1 hq with h | h | h
      · exact Or.inl (own_foot h)
      · exact Or.inl (mem_foot.2 (Or.inr (Or.inl h)))
      · exact Or.inr (by have := (hfr q h).1; omega)
end Go.Proofs.YthiphdcbboapkaaGreatDoor
namespace Go.Proofs.YthiphdcbboapkaaGreatDoor
open Go.RowKit Go.Maps

set_option maxRecDepth 100000
set_option maxHeartbeats 6400000 in
theorem tick_add {w0 w : World} {x : Nat} {S : St} {f : Ft} {T : Int} (H : CH w0 w x S f) (hok : OkS S T) (hT : T ≤ 4611686018427387000) {now : Int} (hn : 0 ≤ now ∧ now ≤ T) (h1 : ¬ 0 < S.e2) (h2 : ¬ 0 < muteL S.zs S.hd now) (h3 : 0 < S.asks) :
    Calls Tryz.prog 20 #[.pointer (some ⟨x, 0, none⟩), .int .i64 now] w fun e' w' => e' = .returned (.slice none 0 0) ∧ ∃ f', PostF w0 w x f (nextS { S with lost := false } (addF S.e S.zs S.nw S.asks)) f' w' ∧ f'.g = f.g := by
  obtain ⟨-, hl1, hl5, -, -, -⟩ := mayB_ok hok.may
  have hmb := hok.may
  have HC := Lib.hid H
  have HMu := Lib.hid (mute_ch H hok hT hn)
  have q1 : Hid (decide (0 < S.e2) = false) := Lib.hid (by simp; omega)
  have q2 : decide (0 < muteL S.zs S.hd now) = false := by simp; omega
  have q3 : decide (0 < S.asks) = true := by simp; omega
  generalize muteL S.zs S.hd now = n at HMu q2 h2
  have hne : (addF S.e S.zs S.nw S.asks).2.2.2 = true → (addF S.e S.zs S.nw S.asks).2.1 ≠ [] := fun h he => by
    have h3 := (addF_may h).2.1
    rw [he] at h3
    have := (mayB_mayL h3).2.1
    simp at this
  obtain ⟨r, hr⟩ : ∃ r, addF S.e S.zs S.nw S.asks = r := ⟨_, rfl⟩
  have HD : Hid (∀ W, CH w0 W x { S with lost := false } f → Calls Tryz.prog 43 #[.agg #[.int .i64 S.e, .slice f.a S.zs.length f.c, .int .i64 S.nw], .int .i64 S.asks] W (ResF W r)) := Lib.hid (fun W h => by rw [← hr]; exact add_F S.e S.nw S.asks f.a f.c S.zs W h.at'.rz (by omega))
  rw [hr] at hne ⊢
  have HNe := Lib.hid hne
  have hb := below_alloc (Below.refl w.heap.size w) (.cells #[.int .i64 0, .slice none 0 0, .int .i64 0] 24)
  have HV := Lib.hid (H.low hb)
  have HX := Lib.hid (B3.new w (.int .i64 0) (.slice none 0 0) (.int .i64 0) 24)
  have HB := Lib.hid hb
  have hwx : ¬ (x = w.heap.size) := fun e => by have := H.lt x (own_foot (x_own x f)); omega
  clear H h1 h2 h3 hok hT hn hb hne hmb hr
  obtain ⟨r0, r1, r2, ok⟩ := r
  go_enter Tryz.func20, Tryz.ntmps20
  go_upto_region 11 with (first
    | (go_at_call 39; refine (off_ch HC.out).mono ?_; rintro e' w' ⟨rfl, rfl⟩)
    | (go_at_call 25; refine (changing_ch HC.out).mono ?_; rw [q1.out]; rintro e' w' ⟨rfl, rfl⟩)
    | (go_at_call 41; refine HMu.out.mono ?_; rintro e' w' ⟨rfl, rfl⟩))
  have HXF : Hid (∀ q ∈ foot x f, ¬ (q = w.heap.size)) := Lib.hid (fun q hq e => by have := HC.out.lt q hq; omega)
  have HW0 : Hid (w0.heap.size ≤ w.heap.size) := Lib.hid HC.out.below.size
  have hV : w.heap.size + 1 = (w.alloc (.cells #[.int .i64 0, .slice none 0 0, .int .i64 0] 24)).heap.size := by simp
  have HVs := Lib.hid hV
  clear hV
  generalize w.alloc (.cells #[.int .i64 0, .slice none 0 0, .int .i64 0] 24) = V at HV HX HB HVs ⊢
  obtain ⟨rb, hrb⟩ : ∃ rb, w.heap.size = rb := ⟨_, rfl⟩
  have HRB := Lib.hid hrb
  rw [hrb] at HX hwx HXF ⊢
  clear hrb
  have d10 : V.cell? ⟨x, 10, none⟩ = some (.bool S.lost) := HV.out.at'.d10
  have f10 := HV.out.at'.fz 10
  have d9 : V.cell? ⟨x, 9, none⟩ = some (.int .i64 S.asks) := HV.out.at'.d9
  have HP1 : Hid (PostF w0 w x f { S with lost := false } f (V.setCell ⟨x, 10, none⟩ (.bool false))) := Lib.hid ((PostF.refl HC.out).low HB.out |>.set (store_lost HV.out false))
  have HX1 : Hid (B3 (V.setCell ⟨x, 10, none⟩ (.bool false)) rb (.int .i64 0) (.slice none 0 0) (.int .i64 0)) := Lib.hid (HX.out.keepO (only_one 10 _) (by simpa using fun e => hwx e.symm))
  have hs1 : rb + 1 = (V.setCell ⟨x, 10, none⟩ (.bool false)).heap.size := by have := HVs.out; have := HRB.out; simp; omega
  go_upto_region 13 with fail
  clear d9 d10 f10 HX HV HVs
  generalize V.setCell ⟨x, 10, none⟩ (.bool false) = V1 at HP1 HX1 hs1 ⊢
  have HS1 := Lib.hid hs1
  clear hs1
  obtain ⟨y0, y1, y2, g0, g1, g2⟩ := HX1.out
  have d1 : V1.cell? ⟨x, 1, none⟩ = some (.int .i64 S.e) := HP1.out.ch.at'.d1
  have d2 : V1.cell? ⟨x, 2, none⟩ = some (.slice f.a S.zs.length f.c) := HP1.out.ch.at'.d2
  have d3 : V1.cell? ⟨x, 3, none⟩ = some (.int .i64 S.nw) := HP1.out.ch.at'.d3
  have d9 : V1.cell? ⟨x, 9, none⟩ = some (.int .i64 S.asks) := HP1.out.ch.at'.d9
  have HC1 : Hid (CH w0 V1.drew x { S with lost := false } f) := Lib.hid (HP1.out.ch.low (Below.drew (Below.refl _ _)))
  have HXD : Hid (B3 V1.drew rb (.int .i64 0) (.slice none 0 0) (.int .i64 0)) := Lib.hid HX1.out
  go_region_with (first
    | (go_at_call 43; refine (HD.out _ HC1.out).mono ?_; rintro e' w2 ⟨a, c, rfl, hown, hb⟩; have HO := Lib.hid hown; have HX2 := Lib.hid (HXD.out.keep hb); have HV2 := Lib.hid (HC1.out.low hb); have HBs := Lib.hid hb; clear y0 y1 y2 g0 g1 g2; obtain ⟨y0, y1, y2, g0, g1, g2⟩ := HX2.out; clear hb hown))
  all_goals
    have d4 : w2.cell? ⟨x, 4, none⟩ = some (.int .i64 S.e2) := HV2.out.at'.d4
    have d5 : w2.cell? ⟨x, 5, none⟩ = some (.slice f.a2 S.zs2.length f.c2) := HV2.out.at'.d5
    have d6 : w2.cell? ⟨x, 6, none⟩ = some (.int .i64 S.nw2) := HV2.out.at'.d6
    have f4 := HV2.out.at'.fz 4
    have f5 := HV2.out.at'.fz 5
    have f6 := HV2.out.at'.fz 6
    have hO3 : ∀ u v t : Value, Only [rb] w2 (((w2.setCell ⟨rb, 0, none⟩ u).setCell ⟨rb, 1, none⟩ v).setCell ⟨rb, 2, none⟩ t) := fun u v t => ((only_one 0 u).trans (only_one 1 v)).trans (only_one 2 t)
    have hlow : Below V1.heap.size V1 w2 := below_on (Below.drew (Below.refl _ _)) HBs.out
    have hsz2 : V1.heap.size ≤ w2.heap.size := hlow.size
    have hP3 : ∀ u v t : Value, PostF w0 w x f { S with lost := false } f (((w2.setCell ⟨rb, 0, none⟩ u).setCell ⟨rb, 1, none⟩ v).setCell ⟨rb, 2, none⟩ t) := fun u v t => by
      have h1 := HP1.out.low hlow
      exact ⟨h1.ch.keep (hO3 u v t) (fun q hq hm => by simp at hm; exact HXF.out q hq hm) (fun i hi => by simp at hi; have := HW0.out; have := HRB.out; omega), h1.only.join (hO3 u v t) (fun i hi => by simp at hi; have := HRB.out; exact Or.inr (by omega)), fun _ h => Or.inl h, fun _ h => Or.inl h⟩
    have HP3 := Lib.hid hP3
    have HZ3 : Hid (∀ u v t : Value, IntsAt (((w2.setCell ⟨rb, 0, none⟩ u).setCell ⟨rb, 1, none⟩ v).setCell ⟨rb, 2, none⟩ t) a r1) := Lib.hid (fun u v t => by
      by_cases h0 : r1 = []
      · exact Or.inl h0
      · refine (own_ints HO.out).keepO (hO3 u v t) (fun q hq hm => ?_)
        have h1 := (own_fresh HO.out rfl h0 q hq).1
        have h2 := HS1.out
        simp at hm h1; omega)
    have HHl := Lib.hid hlow
    clear hO3 hP3 d1 d2 d3 d9 hlow hsz2
    cases ok with
    | false =>
      go_wp2_with fail
      go_ret
      exact ⟨rfl, f, HP3.out _ _ _, rfl⟩
    | true =>
      go_wp2_with fail
      go_ret
      have hne : r1 ≠ [] := by simpa using HNe.out
      have hfr := own_fresh HO.out rfl hne
      have h2 := HS1.out
      have h3 := HRB.out
      have K := HP3.out (.int .i64 r0) (.slice a r1.length c) (.int .i64 r2)
      have hz := HZ3.out (.int .i64 r0) (.slice a r1.length c) (.int .i64 r2)
      refine ⟨rfl, { f with a2 := a, c2 := c }, ⟨store_n K.ch (e := r0) (nw := r2) (c := c) hz (fun q hq => ⟨fun hm => ?_, ?_⟩), K.only.join (only_n3 _ _ _) (fun i hi => Or.inl (by simp at hi; subst hi; exact x_own _ _)), fun q hq => Or.inl hq, fun q hq => ?_⟩, rfl⟩
      · have h4 := (hfr q hq).1
        have h5 := HC.out.lt q (own_foot hm)
        simp at h4
        omega
      · have := (hfr q hq).2
        simpa using this
      · rcases mem_foot.1 hq with h | h | h
        · exact Or.inl (own_foot h)
        · exact Or.inl (mem_foot.2 (Or.inr (Or.inl h)))
        · have h4 := (hfr q h).1
          simp at h4
          exact Or.inr (by omega)
/-- Tick, whatever the time. -/
theorem tick_any {w0 w : World} (LA : Laid w0) {x : Nat} {S : St} {f : Ft} {T : Int} (H : CH w0 w x S f) (hok : OkS S T) (hT : T ≤ 4611686018427387000) (hk : S.k ≤ 300) {now : Int} (hn : 0 ≤ now ∧ now ≤ T) :
    Calls Tryz.prog 20 #[.pointer (some ⟨x, 0, none⟩), .int .i64 now] w fun e' w' => e' = .returned (.slice none 0 0) ∧ ∃ f', PostF w0 w x f (tickS S now) f' w' ∧ f'.g = f.g := by
  unfold tickS
  by_cases h1 : 0 < S.e2
  · rw [if_pos h1]
    by_cases h2 : S.un < now
    · rw [if_pos h2]
      have hm : mayB S.e2 S.zs2 S.nw2 = true := by
        rcases hok.nx with h | h
        · omega
        · exact h.2.1
      exact tick_turn LA H h1 hm hk h2 (fitI_of (by omega))
    · rw [if_neg h2]
      refine (tick_wait H h1 h2).mono ?_
      rintro e' w' ⟨rfl, rfl⟩
      exact ⟨rfl, f, PostF.refl H, rfl⟩
  · rw [if_neg h1]
    by_cases h2 : 0 < muteL S.zs S.hd now
    · rw [if_pos h2]
      exact tick_drop H hok hT hn h1 h2
    · rw [if_neg h2]
      by_cases h3 : 0 < S.asks
      · rw [if_pos h3]
        exact tick_add H hok hT hn h1 h2 h3
      · rw [if_neg h3]
        refine (tick_rest H hok hT hn h1 h2 h3).mono ?_
        rintro e' w' ⟨rfl, hp⟩
        exact ⟨rfl, f, hp, rfl⟩
end Go.Proofs.YthiphdcbboapkaaGreatDoor
