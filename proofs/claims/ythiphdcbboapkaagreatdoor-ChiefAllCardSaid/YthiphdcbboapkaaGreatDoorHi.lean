/- Walk of chief.read: a roster's text is read. -/
import Derived.Test.YthiphdcbboapkaaGreatDoorHh
namespace Go.Proofs.YthiphdcbboapkaaGreatDoor
open Go.RowKit Go.Maps

set_option maxRecDepth 100000
/-- Three cells of one's own. -/
def B3 (w : World) (q : Nat) (u v t : Value) : Prop := w.cell? ⟨q, 0, none⟩ = some u ∧ w.cell? ⟨q, 1, none⟩ = some v ∧ w.cell? ⟨q, 2, none⟩ = some t ∧ w.frozen? ⟨q, 0, none⟩ = false ∧ w.frozen? ⟨q, 1, none⟩ = false ∧ w.frozen? ⟨q, 2, none⟩ = false
theorem B3.new (w : World) (u v t : Value) (ty : TypeId) : B3 (w.alloc (.cells #[u, v, t] ty)) w.heap.size u v t := by
  obtain ⟨h0, h1, h2, hf⟩ := new3 w u v t ty
  exact ⟨h0, h1, h2, hf 0, hf 1, hf 2⟩
theorem B3.keep {w w' : World} {q : Nat} {u v t : Value} (h : B3 w q u v t) (k : Below w.heap.size w w') : B3 w' q u v t :=
  ⟨cell_keep k h.1, cell_keep k h.2.1, cell_keep k h.2.2.1, frozen_keep k h.1 h.2.2.2.1, frozen_keep k h.2.1 h.2.2.2.2.1, frozen_keep k h.2.2.1 h.2.2.2.2.2⟩
theorem B3.lt {w : World} {q : Nat} {u v t : Value} (h : B3 w q u v t) : q < w.heap.size := cell_old h.1
theorem B3.keepO {S : List Nat} {w w' : World} {q : Nat} {u v t : Value} (h : B3 w q u v t) (k : Only S w w') (hq : q ∉ S) : B3 w' q u v t :=
  ⟨k.cellK (p := ⟨q, 0, none⟩) hq h.1, k.cellK (p := ⟨q, 1, none⟩) hq h.2.1, k.cellK (p := ⟨q, 2, none⟩) hq h.2.2.1, k.frozenK (p := ⟨q, 0, none⟩) hq h.1 h.2.2.2.1, k.frozenK (p := ⟨q, 1, none⟩) hq h.2.1 h.2.2.2.2.1, k.frozenK (p := ⟨q, 2, none⟩) hq h.2.2.1 h.2.2.2.2.2⟩
theorem B3.below {B : Nat} {w w' : World} {q : Nat} {u v t : Value} (h : B3 w q u v t) (k : Below B w w') (hq : q < B) (_hB : B ≤ w.heap.size) : B3 w' q u v t := by
  have hc : ∀ i, w'.cell? ⟨q, i, none⟩ = w.cell? ⟨q, i, none⟩ := fun i => k.cell (p := ⟨q, i, none⟩) hq
  have hf : ∀ i, w'.frozen? ⟨q, i, none⟩ = w.frozen? ⟨q, i, none⟩ := fun i => k.frozen (p := ⟨q, i, none⟩) hq
  exact ⟨(hc 0).trans h.1, (hc 1).trans h.2.1, (hc 2).trans h.2.2.1, (hf 0).trans h.2.2.2.1, (hf 1).trans h.2.2.2.2.1, (hf 2).trans h.2.2.2.2.2⟩
theorem B3.set1 {w : World} {q : Nat} {u v t : Value} (h : B3 w q u v t) (z : Value) : B3 (w.setCell ⟨q, 1, none⟩ z) q u z t :=
  ⟨by rw [World.cell?_setCell_other _ _ _ _ (by simp)]; exact h.1, World.cell?_setCell_same _ _ _ h.2.1, by rw [World.cell?_setCell_other _ _ _ _ (by simp)]; exact h.2.2.1, by rw [World.frozen?_setCell]; exact h.2.2.2.1, by rw [World.frozen?_setCell]; exact h.2.2.2.2.1, by rw [World.frozen?_setCell]; exact h.2.2.2.2.2⟩
theorem ownI_snoc {w : World} {base : Nat} {v : Value} {m : Nat} {zs : List Int} {x : Int} (hm : zs.length = m) (h : w.ownsRow base 3 1 v (m + 1) (zs.map (.int .i64) ++ [.int .i64 x])) : OwnI w base v (zs ++ [x]) := by
  subst hm
  unfold OwnI
  rw [List.length_append, List.map_append]; exact h
theorem ownI_at {w : World} {base : Nat} {v : Value} {m : Nat} {zs : List Int} (h : OwnI w base v zs) (hm : zs.length = m) : w.ownsRow base 3 1 v m (zs.map (.int .i64)) := by
  subst hm; exact h
set_option maxHeartbeats 6400000 in
theorem chread_any {e nw : Int} {zs : List Int} (hm : mayB e zs nw = true) (w : World) (L : Laid w) :
    Calls Tryz.prog 34 #[.string (rosT e nw zs)] w fun e' w' => ∃ a c, e' = .returned (.tuple #[rosV e a zs c nw, .bool true]) ∧ OwnI w' w.heap.size (.slice a zs.length c) zs ∧ Below w.heap.size w w' := by
  obtain ⟨hok, hl1, hl5, -⟩ := mayB_ok hm
  have hsz := rosT_size hok
  have HT := Lib.hid (rosT_all hok)
  have HOk := Lib.hid hok
  have HM := Lib.hid hm
  have hn2l : zs.length + 2 ≤ 7 := by omega
  obtain ⟨T, hT⟩ : ∃ T, rosT e nw zs = T := ⟨_, rfl⟩
  rw [hT] at hsz HT ⊢
  have HTT := Lib.hid hT
  have HX := Lib.hid (B3.new w (.int .i64 0) (.slice none 0 0) (.int .i64 0) 24)
  have HB : Hid (Below w.heap.size w (w.alloc (.cells #[.int .i64 0, .slice none 0 0, .int .i64 0] 24))) := Lib.hid (below_alloc (Below.refl _ _) _)
  have HL := Lib.hid (L.keep HB.out)
  have HL0 := Lib.hid L
  clear hok hm hT L
  go_enter Tryz.func34, Tryz.ntmps34
  go_wp2_with fail
  generalize w.alloc (.cells #[.int .i64 0, .slice none 0 0, .int .i64 0] 24) = V at HX HB HL ⊢
  refine (All_any T _ HL.out (by omega)).mono ?_
  rintro e' w1 ⟨v, hp, rfl, hb⟩
  rw [HT.out] at hp ⊢
  obtain ⟨b, off, c, rfl, hc, hbl, hcells⟩ := rosP_form hp
  obtain ⟨n2, hn2⟩ : ∃ n2, zs.length + 2 = n2 := ⟨_, rfl⟩
  rw [hn2] at hc ⊢
  have HX1 := Lib.hid (HX.out.keep hb)
  have HB1 := Lib.hid (below_on HB.out hb)
  have HL1 := Lib.hid (HL.out.keep hb)
  clear hp hb HX HB
  have e1 : decide ((n2 : Int) < 2) = false := decide_eq_false (by omega)
  have q0 : (0 : Int) < (n2 : Int) := by omega
  have q1 : (1 : Int) < (n2 : Int) := by omega
  obtain ⟨_, _, -, k1, -⟩ := hcells 0 e rfl
  obtain ⟨_, _, -, k2, -⟩ := hcells 1 nw rfl
  rw [show off + 0 * 4 = off from by omega] at k1
  rw [show off + 1 * 4 = off + 4 from by omega] at k2
  have HC := Lib.hid hcells
  clear hcells
  go_upto_region 3 with fail
  have hb2 := below_alloc (Below.refl w1.heap.size w1) (.cells #[.int .i64 3, .int .i64 0, .string ⟨#[]⟩, .slice (some ⟨b, off, none⟩) n2 c] 102)
  have k0 : (w1.alloc (.cells #[.int .i64 3, .int .i64 0, .string ⟨#[]⟩, .slice (some ⟨b, off, none⟩) n2 c] 102)).cell? ⟨w1.heap.size, 3, none⟩ = some (.slice (some ⟨b, off, none⟩) n2 c) := World.cell?_alloc_new w1 _ _ 3
  replace k1 := cell_keep hb2 k1
  replace k2 := cell_keep hb2 k2
  have HX2 := Lib.hid (HX1.out.keep hb2)
  have HB2 := Lib.hid (below_on HB1.out hb2)
  have HL2 := Lib.hid (HL1.out.keep hb2)
  have HC2 : Hid (∀ (j : Nat) (n : Int), (e :: nw :: zs)[j]? = some n → ∃ a' c', (w1.alloc (.cells #[.int .i64 3, .int .i64 0, .string ⟨#[]⟩, .slice (some ⟨b, off, none⟩) n2 c] 102)).cell? ⟨b, off + j * 4, none⟩ = some (.int .i64 1) ∧ (w1.alloc (.cells #[.int .i64 3, .int .i64 0, .string ⟨#[]⟩, .slice (some ⟨b, off, none⟩) n2 c] 102)).cell? ⟨b, off + j * 4 + 1, none⟩ = some (.int .i64 n) ∧ (w1.alloc (.cells #[.int .i64 3, .int .i64 0, .string ⟨#[]⟩, .slice (some ⟨b, off, none⟩) n2 c] 102)).cell? ⟨b, off + j * 4 + 2, none⟩ = some (.string ⟨#[]⟩) ∧ (w1.alloc (.cells #[.int .i64 3, .int .i64 0, .string ⟨#[]⟩, .slice (some ⟨b, off, none⟩) n2 c] 102)).cell? ⟨b, off + j * 4 + 3, none⟩ = some (.slice a' 0 c')) := Lib.hid (fun j n hj => by
    obtain ⟨a', c', h0, h1, h2, h3⟩ := HC.out j n hj
    exact ⟨a', c', cell_keep hb2 h0, cell_keep hb2 h1, cell_keep hb2 h2, cell_keep hb2 h3⟩)
  clear HC HX1 HB1 HL1 hb2 HL
  generalize w1.alloc (.cells #[.int .i64 3, .int .i64 0, .string ⟨#[]⟩, .slice (some ⟨b, off, none⟩) n2 c] 102) = V1 at k0 k1 k2 HX2 HB2 HL2 HC2 ⊢
  generalize w1.heap.size = r4 at k0 ⊢
  have n0 : 0 < n2 := by omega
  have n1 : 1 < n2 := by omega
  have n3 : ¬ (n2 = 0) := by omega
  have u0 := World.new_ne V1 _ k0
  have u1 := World.new_ne V1 _ k1
  have u2 := World.new_ne V1 _ k2
  go_region_held3 (fun W => W.cell? ⟨r4, 3, none⟩ = some (.slice (some ⟨b, off, none⟩) n2 c) ∧ W.cell? ⟨b, off + 1, none⟩ = some (.int .i64 e) ∧ W.cell? ⟨b, off + 4 + 1, none⟩ = some (.int .i64 nw))
    (first | exact ⟨k0, k1, k2⟩ | go_keep) (fail)
  clear u0 u1 u2
  have hb3 : Below V1.heap.size V1 (V1.alloc (.cells #[.int .i64 e, .slice none 0 0, .int .i64 nw] 24)).drew := Below.drew (below_alloc (Below.refl _ _) _)
  have HY : Hid (B3 (V1.alloc (.cells #[.int .i64 e, .slice none 0 0, .int .i64 nw] 24)).drew V1.heap.size (.int .i64 e) (.slice none 0 0) (.int .i64 nw)) := Lib.hid (B3.new V1 _ _ _ _)
  replace k0 := cell_keep hb3 k0
  have HX3 := Lib.hid (HX2.out.keep hb3)
  have HB3 := Lib.hid (below_on HB2.out hb3)
  have HL3 := Lib.hid (HL2.out.keep hb3)
  have hs3 : V1.heap.size + 1 ≤ (V1.alloc (.cells #[.int .i64 e, .slice none 0 0, .int .i64 nw] 24)).drew.heap.size := by simp
  have hw3 : w.heap.size < V1.heap.size := HX2.out.lt
  have hbq : b < V1.heap.size := cell_old k1
  have HC3 : Hid (∀ k, k < zs.length → ∃ a' c', (V1.alloc (.cells #[.int .i64 e, .slice none 0 0, .int .i64 nw] 24)).drew.cell? ⟨b, off + 8 + k * 4, none⟩ = some (.int .i64 1) ∧ (V1.alloc (.cells #[.int .i64 e, .slice none 0 0, .int .i64 nw] 24)).drew.cell? ⟨b, off + 8 + k * 4 + 1, none⟩ = some (.int .i64 (nthI zs k)) ∧ (V1.alloc (.cells #[.int .i64 e, .slice none 0 0, .int .i64 nw] 24)).drew.cell? ⟨b, off + 8 + k * 4 + 2, none⟩ = some (.string ⟨#[]⟩) ∧ (V1.alloc (.cells #[.int .i64 e, .slice none 0 0, .int .i64 nw] 24)).drew.cell? ⟨b, off + 8 + k * 4 + 3, none⟩ = some (.slice a' 0 c')) := Lib.hid (fun k hk => by
    obtain ⟨a', c', h0, h1, h2, h3⟩ := HC2.out (k + 2) (nthI zs k) (by
      rw [List.getElem?_cons_succ, List.getElem?_cons_succ]
      unfold nthI; rw [List.getD, List.getElem?_eq_getElem hk]; rfl)
    rw [show off + (k + 2) * 4 = off + 8 + k * 4 from by omega] at h0 h1 h2 h3
    exact ⟨a', c', cell_keep hb3 h0, cell_keep hb3 h1, cell_keep hb3 h2, cell_keep hb3 h3⟩)
  have hsl := fun w' => run_tail2 (b := b) (off := off) (n := zs.length) (c := c) (by omega) (by omega) w'
  rw [hn2] at hsl
  have HN2 := Lib.hid hn2
  clear hb3 HC2 HX2 HB2 HL2 k1 k2 hn2
  generalize (V1.alloc (.cells #[.int .i64 e, .slice none 0 0, .int .i64 nw] 24)).drew = W at HY k0 HX3 HB3 HL3 hs3 HC3 ⊢
  generalize V1.heap.size = q at HY hs3 hw3 hbq ⊢
  generalize hrb : w.heap.size = rb at HX3 HB3 hw3 ⊢
  have HRB := Lib.hid hrb
  clear hrb
  go_wp2_with fail
  clear k0 q0 q1 n0 n1 n3 e1 hbl hc
  have hsw := fun (hb : World) => hb
  clear hsw
  go_loopw [38] (fun i wr => ∃ (k : Nat) (a' : Option Addr) (c' : Nat), i = .int .i64 k ∧ k ≤ zs.length ∧ B3 wr q (.int .i64 e) (.slice a' k c') (.int .i64 nw) ∧ OwnI wr (q + 1) (.slice a' k c') (zs.take k) ∧ Below q W wr) (fun i _ => zs.length - (intOf i).toNat)
  case atStart => exact ⟨0, none, 0, rfl, Nat.zero_le _, HY.out, World.ownsRow_nil _ _ _ _, Below.refl _ _⟩
  case round =>
    obtain ⟨k, a', c', rfl, hk, hy, how, hbl⟩ := hrel
    have HYr := Lib.hid hy
    have HBr := Lib.hid hbl
    obtain ⟨y0, y1, y2, g0, g1, g2⟩ := hy
    have hqr : q < wr.heap.size := cell_old y0
    by_cases hlt : k < zs.length
    · obtain ⟨a4, c4, m0, m1, m2, m3⟩ := HC3.out k hlt
      have hcl : ∀ o, wr.cell? ⟨b, o, none⟩ = W.cell? ⟨b, o, none⟩ := fun o => hbl.cell (p := ⟨b, o, none⟩) hbq
      rw [← hcl] at m0 m1 m2 m3
      have hlen : (zs.take k).length = k := by simp; omega
      have HT := Lib.hid (take_snocI zs k hlt)
      have HLen := Lib.hid hlen
      have HOw := Lib.hid (ownI_at how hlen)
      obtain ⟨n, hn⟩ : ∃ n, nthI zs k = n := ⟨_, rfl⟩
      rw [hn] at m1 HT
      obtain ⟨pre, hpre⟩ : ∃ pre, zs.take k = pre := ⟨_, rfl⟩
      rw [hpre] at HT HOw HLen
      have hqb : ¬ (q = wr.heap.size) := Nat.ne_of_lt hqr
      clear hcl hlen hn hpre how hbl
      go_wp2_with (at_builtin; refine wpList_append_any rfl _ _ 22 rfl (q + 1) 3 _ 1 8 tyInts _ k (pre.map (.int .i64)) rfl (ownsRow_below HOw.out (below_alloc (below_alloc (Below.refl _ _) _) _)) _ 1 1 [.int .i64 n] rfl rfl (by have h := RowAt.new (wr.alloc (.cells #[.int .i64 1, .int .i64 n, .string ⟨#[]⟩, .slice a4 0 c4] 102)) (.int .i64 n) 3; rw [World.size_alloc] at h; exact h) (by simp [Value.oneCell']) (by unfold maxLen; omega) (by omega) ?c3 ?_; (case c3 => simp; omega); intro v' w' own' hb'; obtain ⟨a5, c5, rfl, -, -⟩ := own_cap (ownI_snoc HLen.out own'); have HO2 := Lib.hid (ownI_snoc HLen.out own'); have HX2 := Lib.hid ((HYr.out.keep (below_alloc (below_alloc (Below.refl _ _) _) _)).below hb' (Nat.lt_succ_self q) (by simp; omega)); have HW2 := Lib.hid ((HBr.out.trans ((below_alloc (below_alloc (Below.refl wr.heap.size wr) _) _).mono (Nat.le_of_lt hqr))).trans (hb'.mono (Nat.le_succ q))); obtain ⟨s0, s1, s2, t0, t1, t2⟩ := HX2.out; clear own' hb')
      go_roundw
      case rel =>
        have hl6 := HLen.out
        have hl7 : (pre ++ [n]).length = k + 1 := by simp; omega
        have h3 := HX2.out.set1 (.slice a5 (pre.length + 1) c5)
        have h4 := HO2.out
        rw [hl7] at h4
        rw [hl6] at h3
        refine ⟨k + 1, a5, c5, by go_num, by omega, by rw [hl6]; exact h3, ?_, HW2.out.setCell (p := ⟨q, 1, none⟩) (Nat.le_refl _) _⟩
        rw [HT.out, hl6]
        exact ownsRow_setCell_below h4 (a := ⟨q, 1, none⟩) (Nat.lt_succ_self q) _
      case measure => simp [intOf]; omega
    · have hke : k = zs.length := by omega
      subst hke
      rw [List.take_length] at how
      have e1 : decide ((zs.length : Int) < (zs.length : Int)) = false := by simp
      have HYD : Hid (B3 wr.drew q (.int .i64 e) (.slice a' zs.length c') (.int .i64 nw)) := Lib.hid HYr.out
      have HXD : Hid (B3 wr.drew rb (.int .i64 0) (.slice none 0 0) (.int .i64 0)) := Lib.hid (show B3 wr rb (.int .i64 0) (.slice none 0 0) (.int .i64 0) from HX3.out.below HBr.out hw3 (by omega))
      have HOD : Hid (OwnI wr.drew (q + 1) (.slice a' zs.length c') zs) := Lib.hid how
      have HBD : Hid (Below rb w wr.drew) := Lib.hid (Below.drew (HB3.out.trans (HBr.out.mono (by omega))))
      have HLD : Hid (Laid wr.drew) := Lib.hid (HL0.out.keep (by have h := HBD.out; rwa [← HRB.out] at h))
      obtain ⟨x0, x1, x2, z0, z1, z2⟩ := HXD.out
      have HM' : Hid (mayB e zs nw = true) := HM
      have hTq : (T.toList == T.toList) = true := by simp
      clear hk hlt how hbl HYr HX3 HB3 HL3 HC3 hsl
      go_wp2_with fail
      go_region_with (first
        | (go_at_call 35; refine (may_any e nw a' c' zs _ (by omega) (own_ints HOD.out)).mono ?_; rw [HM'.out]; rintro e' w5 ⟨rfl, hb⟩; have HY5 := Lib.hid (HYD.out.keep hb); have HX5 := Lib.hid (HXD.out.keep hb); have HO5 : Hid (OwnI w5 (q + 1) (.slice a' zs.length c') zs) := Lib.hid (ownsRow_below HOD.out hb); have HB5 := Lib.hid (HBD.out.trans (hb.mono (by have := HXD.out.lt; omega))); have HL5 := Lib.hid (HLD.out.keep hb); obtain ⟨y0, y1, y2, g0, g1, g2⟩ := HY5.out; clear hb)
        | (go_at_call 57; refine (chtext_any e nw a' c' zs _ HOk.out (own_ints HO5.out) HL5.out).mono ?_; rw [HTT.out]; rintro e' w6 ⟨rfl, hb⟩; have HY6 := Lib.hid (HY5.out.keep hb); have HX6 := Lib.hid (HX5.out.keep hb); have HO6 : Hid (OwnI w6 (q + 1) (.slice a' zs.length c') zs) := Lib.hid (ownsRow_below HO5.out hb); have HB6 := Lib.hid (HB5.out.trans (hb.mono (by have := HX5.out.lt; omega))); obtain ⟨y0, y1, y2, g0, g1, g2⟩ := HY6.out; obtain ⟨x0, x1, x2, z0, z1, z2⟩ := HX6.out; clear hb))
      all_goals
        go_wp2_with fail
        refine bodyPost_ret (v := .tuple #[rosV e a' zs c' nw, .bool true]) (by simp [results, Tryz.results34, go_sem, x0, x1, x2]) rfl ⟨_, _, rfl, ?_, ?_⟩
        · rw [HRB.out]
          exact ownsRow_base (own_set3 HO6.out (by omega) _ _ _) (by omega)
        · rw [HRB.out]
          exact below_set3 HB6.out (Nat.le_refl _) _ _ _ _ _ _
end Go.Proofs.YthiphdcbboapkaaGreatDoor
