/- Walks of chief.lasts, chief.hears, chief.mute, chief.Roster. -/
import Derived.Test.YthiphdcbboapkaaGreatDoorH2
import Derived.Deep.CutBlock
namespace Go.Proofs.YthiphdcbboapkaaGreatDoor
open Go.RowKit Go.Maps

set_option maxRecDepth 100000
theorem store_r {w0 w : World} {x : Nat} {S : St} {f : Ft} (H : CH w0 w x S f) {e nw : Int} {zs : List Int} {a : Option Addr} {c : Nat} (hz : IntsAt w a zs) (ha : ∀ q ∈ rowB a, q ∉ own x f ∧ q < w.heap.size) :
    CH w0 (((w.setCell ⟨x, 1, none⟩ (.int .i64 e)).setCell ⟨x, 2, none⟩ (.slice a zs.length c)).setCell ⟨x, 3, none⟩ (.int .i64 nw)) x { S with e := e, zs := zs, nw := nw } { f with a := a, c := c } := by
  have h2 : ∀ q ∈ rowB f.a2, q ∉ own x f ∧ q < w.heap.size := fun q hq => ⟨H.da2 q hq, H.lt q (mem_foot.2 (Or.inr (Or.inr hq)))⟩
  have h1 : ∀ q ∈ rowB f.a, q ∉ own x f ∧ q < w.heap.size := fun q hq => ⟨H.da q hq, H.lt q (mem_foot.2 (Or.inr (Or.inl hq)))⟩
  have K1 : CH w0 (w.setCell ⟨x, 1, none⟩ (.int .i64 e)) x { S with e := e } f :=
    H.put 1 (by decide) _ (lt12 rfl rfl rfl rfl rfl rfl rfl rfl rfl rfl rfl rfl) H.at'.rz H.at'.rz2 ⟨rfl, rfl, rfl, rfl, rfl⟩ (fun _ => ⟨rfl, rfl, rfl⟩) ⟨rfl, rfl, rfl, rfl⟩ h1 h2
  have o1 : Only [x] w (w.setCell ⟨x, 1, none⟩ (.int .i64 e)) := only_one 1 _
  have o2 : Only [x] (w.setCell ⟨x, 1, none⟩ (.int .i64 e)) ((w.setCell ⟨x, 1, none⟩ (.int .i64 e)).setCell ⟨x, 2, none⟩ (.slice a zs.length c)) := only_one 2 _
  have hx : ∀ q ∈ rowB a, q ∉ [x] := fun q hq hm => by simp at hm; subst hm; exact (ha q hq).1 (x_own q f)
  have K2 : CH w0 ((w.setCell ⟨x, 1, none⟩ (.int .i64 e)).setCell ⟨x, 2, none⟩ (.slice a zs.length c)) x { S with e := e, zs := zs } { f with a := a, c := c } :=
    K1.put 2 (by decide) _ (lt12 rfl rfl rfl rfl rfl rfl rfl rfl rfl rfl rfl rfl) (hz.keepO o1 hx) K1.at'.rz2 ⟨rfl, rfl, rfl, rfl, rfl⟩ (fun _ => ⟨rfl, rfl, rfl⟩) ⟨rfl, rfl, rfl, rfl⟩ (fun q hq => by simpa using ha q hq) (fun q hq => by simpa using h2 q hq)
  exact K2.put 3 (by decide) _ (lt12 rfl rfl rfl rfl rfl rfl rfl rfl rfl rfl rfl rfl) K2.at'.rz K2.at'.rz2 ⟨rfl, rfl, rfl, rfl, rfl⟩ (fun _ => ⟨rfl, rfl, rfl⟩) ⟨rfl, rfl, rfl, rfl⟩ (fun q hq => by have := ha q hq; exact ⟨this.1, by simpa using this.2⟩) (fun q hq => by have := h2 q hq; exact ⟨this.1, by simpa using this.2⟩)
/-- A row of its own in its place. -/
theorem store_l {w0 w : World} {x : Nat} {S : St} {f : Ft} (H : CH w0 w x S f) {a : Option Addr} {c : Nat} (hz : IntsAt w a S.zs) (ha : ∀ q ∈ rowB a, q ∉ own x f ∧ q < w.heap.size) :
    CH w0 (w.setCell ⟨x, 2, none⟩ (.slice a S.zs.length c)) x S { f with a := a, c := c } :=
  H.put 2 (by decide) _ (lt12 rfl rfl rfl rfl rfl rfl rfl rfl rfl rfl rfl rfl) hz H.at'.rz2 ⟨rfl, rfl, rfl, rfl, rfl⟩ (fun _ => ⟨rfl, rfl, rfl⟩) ⟨rfl, rfl, rfl, rfl⟩ ha (fun q hq => ⟨H.da2 q hq, H.lt q (mem_foot.2 (Or.inr (Or.inr hq)))⟩)
theorem only_x3 {w : World} {x : Nat} (u v t : Value) : Only [x] w (((w.setCell ⟨x, 1, none⟩ u).setCell ⟨x, 2, none⟩ v).setCell ⟨x, 3, none⟩ t) :=
  ((only_one 1 u).trans (only_one 2 v)).trans (only_one 3 t)
/-- A fresh row has its block behind all. -/
theorem own_fresh {w w' : World} {a : Option Addr} {n c : Nat} {zs : List Int} (h : OwnI w' w.heap.size (.slice a n c) zs) (hn : n = zs.length) (hz : zs ≠ []) : ∀ q ∈ rowB a, w.heap.size ≤ q ∧ q < w'.heap.size := by
  subst hn
  have hl : 0 < zs.length := List.length_pos_iff.mpr hz
  obtain ⟨g, cap, e, h1, h2⟩ := ownI_some hl h
  simp only [Value.slice.injEq] at e
  obtain ⟨rfl, -, -⟩ := e
  intro q hq
  simp [rowB] at hq
  subst hq
  exact ⟨h1, h2⟩
set_option maxHeartbeats 6400000 in
theorem lasts_any {w0 w : World} (LA : Laid w0) {x : Nat} {S : St} {f : Ft} (H : CH w0 w x S f) (hk : S.k ≤ 300) {e nw : Int} {a : Option Addr} {c : Nat} {zs : List Int} (hm : mayB e zs nw = true) (hz : IntsAt w a zs) (ha : ∀ q ∈ rowB a, q ∉ own x f) :
    Calls Tryz.prog 36 #[.pointer (some ⟨x, 0, none⟩), rosV e a zs c nw] w fun e' w' => e' = .returned (.int .i64 0) ∧ ∃ f', PostF w0 w x f (setR S e zs nw) f' w' ∧ f'.g = f.g := by
  obtain ⟨hok, hl1, hl5, -⟩ := mayB_ok hm
  have hne : zs ≠ [] := fun h => by rw [h] at hl1; simp at hl1
  have hlt : ∀ q ∈ rowB a, q < w.heap.size := fun q hq => by
    rcases hz with h | ⟨b, off, rfl, hb, -⟩
    · exact absurd h hne
    · simp [rowB] at hq; subst hq; exact hb
  have hx0 := H.at'.d0
  obtain ⟨y0, y1, y2, -⟩ := new3 w (.int .i64 e) (.slice a zs.length c) (.int .i64 nw) 24
  have HB : Hid (Below w.heap.size w (w.alloc (.cells #[.int .i64 e, .slice a zs.length c, .int .i64 nw] 24))) := Lib.hid (below_alloc (Below.refl _ _) _)
  have hrb : w.heap.size < (w.alloc (.cells #[.int .i64 e, .slice a zs.length c, .int .i64 nw] 24)).heap.size := by simp
  have HH := Lib.hid H
  have HL := Lib.hid LA
  have HZ := Lib.hid hz
  have HK := Lib.hid hk
  have HA := Lib.hid ha
  have HLt := Lib.hid hlt
  have HOk := Lib.hid hok
  have HNe := Lib.hid hne
  clear hz hk ha LA hok hne hlt
  go_enter Tryz.func36, Tryz.ntmps36
  go_upto_region 2 with fail
  have x0 := cell_keep HB.out hx0
  change _ = some (Value.pointer (some ⟨f.J, 0, none⟩)) at x0
  obtain ⟨V, hV⟩ : ∃ V, w.alloc (.cells #[.int .i64 e, .slice a zs.length c, .int .i64 nw] 24) = V := ⟨_, rfl⟩
  rw [hV] at HB y0 y1 y2 hrb x0 ⊢
  have HV : Hid (CH w0 V x S f) := Lib.hid (HH.out.low HB.out)
  generalize hrbe : w.heap.size = rb at y0 y1 y2 hrb
  have HRB := Lib.hid hrbe
  have HVD : Hid (CH w0 V.drew x S f) := Lib.hid (HV.out.low (Below.drew (Below.refl _ _)))
  have HZV : Hid (IntsAt V.drew a zs) := Lib.hid (HZ.out.keep HB.out).drew
  have HLV : Hid (Laid V.drew) := Lib.hid ((HL.out.keep HH.out.below).keep (Below.drew HB.out))
  clear hV H hx0 hrbe
  go_region_with (first
    | (go_at_call 57; refine (chtext_any e nw a c zs _ HOk.out HZV.out HLV.out).mono ?_; rintro e' w1 ⟨rfl, hb⟩; have x0 := cell_keep hb x0; have y0 := cell_keep hb y0; have y1 := cell_keep hb y1; have y2 := cell_keep hb y2; have H1 := Lib.hid (HVD.out.low hb); have B1 := Lib.hid (below_on (Below.drew HB.out) hb); clear hb)
    | (go_at_call 59; refine (jb_add HL.out H1.out.jb HK.out HOk.out (by omega)).mono ?_; rintro e' w2 ⟨rfl, v', hj, ho, hq, hlt⟩; have H2 := Lib.hid (H1.out.added hj ho hq hlt); have HO := Lib.hid ho; clear hj ho hq hlt))
  all_goals
    have hrbj : rb ∉ jown f := fun hm => by
      have h1 := HH.out.lt rb (mem_foot.2 (Or.inl (j_own hm)))
      have h2 := HRB.out
      omega
    have y0 := HO.out.cellK (p := ⟨rb, 0, none⟩) hrbj y0
    have y1 := HO.out.cellK (p := ⟨rb, 1, none⟩) hrbj y1
    have y2 := HO.out.cellK (p := ⟨rb, 2, none⟩) hrbj y2
    have d1 := H2.out.ch.at'.d1
    have d2 := H2.out.ch.at'.d2
    have d3 := H2.out.ch.at'.d3
    have f1 := H2.out.ch.at'.fz 1
    have f2 := H2.out.ch.at'.fz 2
    have f3 := H2.out.ch.at'.fz 3
    have hxb : ¬ (x = rb) := fun h => by
      have h1 := HH.out.lt x (mem_foot.2 (Or.inl (x_own x f)))
      have h2 := HRB.out
      omega
    have hx2 : ∀ q ∈ rowB a, q ∉ own x { f with v := v' } ∧ q < w2.heap.size := fun q hq => by
      have h3 := HLt.out q hq
      have h4 := B1.out.size
      have h5 := HO.out.size
      refine ⟨fun hm => ?_, by omega⟩
      rcases H2.out.own' q hm with h | h
      · exact HA.out q hq h
      · omega
    have H3 := Lib.hid (store_r H2.out.ch (e := e) (nw := nw) (c := c) (IntsAt.keepO (HZ.out.keep B1.out) HO.out (fun q hq hm => HA.out q hq (j_own hm))) hx2)
    clear hx2
    go_wp2_with (go_at_call 46; refine (clone_any a c zs _ (by omega) H3.out.at'.rz).mono ?_; rintro e' w4 ⟨v4, rfl, hown, hb⟩; obtain ⟨a4, c4, rfl, -, hc4⟩ := own_cap hown; have H4 := Lib.hid (H3.out.low hb); have d2' := H4.out.at'.d2; have f2' := H4.out.at'.fz 2; have HF := Lib.hid hown; have HB4 := Lib.hid hb; clear hown hb)
    go_ret
    have hfr := own_fresh HF.out rfl HNe.out
    simp only [World.size_setCell] at hfr
    have z1 := B1.out.size
    have z2 := HO.out.size
    have z4 := HB4.out.size
    simp only [World.size_setCell] at z4
    have hin : ∀ i ∈ [x], i ∈ own x f ∨ w.heap.size ≤ i := fun i hi => Or.inl (by simp at hi; subst hi; exact x_own _ _)
    refine ⟨rfl, { f with v := v', a := a4, c := c4 }, ⟨store_l H4.out (own_ints HF.out) (fun q hq => ⟨fun hm => ?_, (hfr q hq).2⟩), ?_, fun q hq => ?_, fun q hq => ?_⟩, rfl⟩
    · have := H4.out.lt q (own_foot hm)
      have h1 := (hfr q hq).1
      rcases H2.out.own' q hm with h | h
      · have := HH.out.lt q (own_foot h); omega
      · have := H2.out.ch.lt q (own_foot hm); omega
    · exact ((((Only.of_below B1.out).join HO.out (fun i hi => Or.inl (j_own hi))).join (only_x3 _ _ _) hin).top HB4.out).join (only_one 2 _) hin
    · rcases H2.out.own' q hq with h | h
      · exact Or.inl h
      · exact Or.inr (by omega)
    · rcases mem_foot.1 hq with h | h | h
      · rcases H2.out.own' q h with h | h
        · exact Or.inl (own_foot h)
        · exact Or.inr (by omega)
      · exact Or.inr (by have := (hfr q h).1; omega)
      · exact Or.inl (mem_foot.2 (Or.inr (Or.inr h)))
/-! hears -/
/-- Whom it heard, turned. -/
theorem CH.heard {w0 w w' : World} {x : Nat} {S : St} {f : Ft} (h : CH w0 w x S f) {q : Nat} (hq : f.hb = some q) (ho : Only [q] w w') {hd : Int → Int} {m : Nat} (hh : HeardAt w' q hd m) : CH w0 w' x { S with hd := hd, m := m, on := true } f := by
  have hqo : q ∈ own x f := mem_own.2 (Or.inr (Or.inl (by rw [hq]; simp)))
  have hqx : x ≠ q := fun e => h.dx (List.mem_append_left _ (by rw [hq]; simp [e]))
  have hqj : ∀ i ∈ jown f, i ∉ [q] := fun i hi hm => by
    simp at hm; subst hm; exact h.dh i (by rw [hq]; simp) hi
  refine ⟨h.at'.keep ho (by simpa using hqx) (fun i hi hm => ?_) (fun i hi hm => ?_), h.jb.aside ho hqj (fun i hi => by simp at hi; subst hi; exact h.lo _ hqo), fun _ => ⟨q, hq, hh⟩, h.lo, h.dx, h.dh, h.da, h.da2, fun i hi => Nat.lt_of_lt_of_le (h.lt i hi) ho.size⟩
  · simp at hm; subst hm; exact h.da i hi hqo
  · simp at hm; subst hm; exact h.da2 i hi hqo
/-- A map of its own, made. -/
theorem CH.made {w0 w : World} {x : Nat} {S : St} {f : Ft} (h : CH w0 w x S f) : PostF w0 w x f { S with hd := fun _ => 0, m := 0, on := true } { f with hb := some w.heap.size } ((w.alloc (.map #[] 0)).setCell ⟨x, 8, none⟩ (.map (some w.heap.size))) := by
  have h1 := h.low (below_alloc (Below.refl _ _) (.map #[] 0))
  have hxlt : x < w.heap.size := h.lt x (own_foot (x_own x f))
  have hsz := h.below.size
  have hoo : ∀ q ∈ own x { f with hb := some w.heap.size }, q ∈ own x f ∨ w.heap.size ≤ q := fun q hq => by
    rcases mem_own.1 hq with h | h | h
    · exact Or.inl (mem_own.2 (Or.inl h))
    · simp at h; exact Or.inr (by omega)
    · exact Or.inl (mem_own.2 (Or.inr (Or.inr h)))
  have hs : ((w.alloc (.map #[] 0)).setCell ⟨x, 8, none⟩ (.map (some w.heap.size))).heap.size = w.heap.size + 1 := by simp
  have o1 : Only [x] (w.alloc (.map #[] 0)) ((w.alloc (.map #[] 0)).setCell ⟨x, 8, none⟩ (.map (some w.heap.size))) := only_one 8 _
  refine ⟨⟨?_, ?_, fun _ => ⟨w.heap.size, rfl, (HeardAt.made w).keep o1 (by simp; omega)⟩, fun q hq => ?_, fun hm => ?_, fun q hq hm => ?_, fun q hq hm => ?_, fun q hq hm => ?_, fun q hq => ?_⟩, ?_, hoo, fun q hq => ?_⟩
  · exact h1.at'.put 8 (by decide) _ (lt12 rfl rfl rfl rfl rfl rfl rfl rfl rfl rfl rfl rfl) h1.at'.rz h1.at'.rz2 (fun q hq e => h.da q hq (e ▸ x_own x f)) (fun q hq e => h.da2 q hq (e ▸ x_own x f))
  · exact h1.jb.aside o1 (fun q hq hm => by simp at hm; subst hm; exact h.dx (List.mem_append_right _ hq)) (fun i hi => by simp at hi; subst hi; exact h.lo _ (x_own _ _))
  · rcases hoo q hq with h2 | h2
    · exact h.lo q h2
    · omega
  · rcases List.mem_append.1 hm with h2 | h2
    · simp at h2; omega
    · exact h.dx (List.mem_append_right _ h2)
  · simp at hq; subst hq
    have := h.lt _ (own_foot (j_own hm)); omega
  · rcases hoo q hm with h2 | h2
    · exact h.da q hq h2
    · have := h.lt q (mem_foot.2 (Or.inr (Or.inl hq))); omega
  · rcases hoo q hm with h2 | h2
    · exact h.da2 q hq h2
    · have := h.lt q (mem_foot.2 (Or.inr (Or.inr hq))); omega
  · rw [hs]
    rcases mem_foot.1 hq with h2 | h2
    · rcases mem_own.1 h2 with h3 | h3 | h3
      · have := h.lt q (own_foot (mem_own.2 (Or.inl h3))); omega
      · simp at h3; omega
      · have := h.lt q (own_foot (j_own h3)); omega
    · have := h.lt q (mem_foot.2 (Or.inr h2)); omega
  · exact ((Only.refl _ _).alloc _).join o1 (fun i hi => Or.inl (by simp at hi; subst hi; exact x_own _ _))
  · rcases mem_foot.1 hq with h2 | h2
    · rcases hoo q h2 with h3 | h3
      · exact Or.inl (own_foot h3)
      · exact Or.inr h3
    · exact Or.inl (mem_foot.2 (Or.inr h2))
end Go.Proofs.YthiphdcbboapkaaGreatDoor
