/- Walk of lean.Share. -/
import Derived.Test.YtdpkmcbpeloljaaDoorNb
import Derived.Test.YtdpkmcbpeloljaaDoorRoB
import Derived.Maps.OwnOps
import Derived.Maps.OwnSet
import Derived.Maps.AppendAt
namespace Go.Proofs.YtdpkmcbpeloljaaDoor
open Go.RowKit Go.Maps

theorem lawInt : Keyed Tryd.prog 3 := int_keyed Tryd.underlying3
theorem zeroI (w : World) : (zeroValue 3).run Tryd.prog w = .ok (.int .i64 0) w := by kernel_rfl
theorem pick_or (l : List UInt8) (nw : Int) (zs : List Int) (b : Int) : zs.foldl (pickStep l nw) b = b ∨ (zs.foldl (pickStep l nw) b ∈ zs ∧ zs.foldl (pickStep l nw) b ≠ nw) := by
  induction zs generalizing b with
  | nil => exact Or.inl rfl
  | cons z zs ih =>
    rw [List.foldl_cons]
    rcases ih (pickStep l nw b z) with h | h
    · rw [h]
      unfold pickStep
      by_cases hb : better l nw b z = true
      · right
        rw [if_pos hb]
        refine ⟨List.mem_cons_self, fun e => ?_⟩
        unfold better at hb
        rw [e] at hb
        simp at hb
      · left; rw [if_neg hb]
    · exact Or.inr ⟨List.mem_cons_of_mem _ h.1, h.2⟩
def fits (n : Int) : Prop := (Lit.int .i64 n).wf = true
theorem fits_of {n : Int} (h : -9223372036854775808 ≤ n ∧ n ≤ 9223372036854775807) : fits n := by
  have := wrap64_wf n
  rwa [show wrap64 n = n by unfold wrap64; omega] at this
theorem pick_fits (l : List UInt8) (nw : Int) (zs : List Int) (h : ∀ n ∈ zs, fits n) : fits (pick l nw zs) := by
  rcases pick_or l nw zs 0 with h1 | h1
  · unfold pick; rw [h1]; exact fits_of (by omega)
  · exact h _ h1.1
/-- How many keys one is asked for. -/
def cnt (nw : Int) (zs : List Int) (ks : List ByteArray) (n : Int) : Nat := (ks.filter fun s => pick s.data.toList nw zs == n).length
theorem cnt_le (nw : Int) (zs : List Int) (ks : List ByteArray) (n : Int) : cnt nw zs ks n ≤ ks.length := List.length_filter_le _ _
theorem cnt_snoc (nw : Int) (zs : List Int) (ks : List ByteArray) (s : ByteArray) (n : Int) : cnt nw zs (ks ++ [s]) n = cnt nw zs ks n + if pick s.data.toList nw zs = n then 1 else 0 := by
  unfold cnt
  rw [List.filter_append, List.length_append]
  by_cases h : pick s.data.toList nw zs = n <;> simp [h]
def CntAt (D : DataW Unit) (nw : Int) (zs : List Int) (ks : List ByteArray) : Prop := ∀ n, fits n → D.atKey (.int .i64 n) (.lit (.int .i64 0)) = .lit (.int .i64 ((cnt nw zs ks n : Nat) : Int))
theorem CntAt.nil (nw : Int) (zs : List Int) : CntAt (.map []) nw zs [] := fun _ _ => rfl
theorem CntAt.step {D : DataW Unit} {nw : Int} {zs : List Int} {ks : List ByteArray} {s : ByteArray} {p : Int} {m : Nat} (h : CntAt D nw zs ks) (hD : IsMap D) (hp : pick s.data.toList nw zs = p) (hm : cnt nw zs ks p = m) :
    CntAt (D.put (.int .i64 p) (.lit (.int .i64 ((m : Int) + 1)))) nw zs (ks ++ [s]) := by
  intro n hn
  rw [cnt_snoc, hp]
  by_cases e : p = n
  · subst e
    rw [atKey_put_same hD (show WideAt.IsKeyLit (.int .i64 p) from trivial), if_pos rfl, hm]
    rfl
  · rw [atKey_put_other (by intro h1; injection h1 with _ h2; exact e h2.symm), if_neg e, h n hn]
    rfl
theorem lit_inj {a b : Int} (h : (DataW.lit (.int .i64 a) : DataW Unit) = .lit (.int .i64 b)) : a = b := by
  injection h with h; injection h
theorem owns_below {w w' : World} {k e : TypeId} {b n : Nat} {D : DataW Unit} (h : w.ownsMap Tryd.prog k (plainElem Tryd.prog e) b n D) (hb : Below w.heap.size w w') : w'.ownsMap Tryd.prog k (plainElem Tryd.prog e) b n D :=
  h.kept (row := none) ⟨hb.os, hb.tape, hb.output, hb.size, fun i hi _ => hb.block i hi⟩ (by simp)
/-- One's share. -/
def sh (nw : Int) (zs : List Int) (ks : List ByteArray) (n : Int) : Int := if n = nw then 0 else ((cnt nw zs ks n : Nat) : Int)
def shares (nw : Int) (zs : List Int) (ks : List ByteArray) : List Int := zs.map (sh nw zs ks)
theorem shares_take (nw : Int) (zs : List Int) (ks : List ByteArray) (k : Nat) (h : k < zs.length) : (shares nw zs ks).take (k + 1) = (shares nw zs ks).take k ++ [sh nw zs ks (nthI zs k)] := by
  rw [List.take_succ_eq_append_getElem (by simpa [shares] using h)]
  congr 2
  unfold shares nthI
  rw [List.getElem_map, List.getD, List.getElem?_eq_getElem h]; rfl
theorem cell_far {w w' : World} {row : Nat} {a : Addr} {v : Value} (hg : w.grownBy w' (some row)) (h : w.cell? a = some v) (hne : a.block ≠ row) : w'.cell? a = some v := by
  rw [World.cell?_of_block (w := w) (hg.block a.block (cell_old h) (by simpa using hne))]; exact h
theorem ownI_snoc {w : World} {base : Nat} {v : Value} {m : Nat} {zs : List Int} {x : Int} (hm : zs.length = m) (h : w.ownsRow base 3 1 v (m + 1) (zs.map (.int .i64) ++ [.int .i64 x])) : OwnI w base v (zs ++ [x]) := by
  subst hm
  unfold OwnI
  rw [List.length_append, List.map_append]; exact h
theorem ownI_at {w : World} {base : Nat} {v : Value} {m : Nat} {zs : List Int} (h : OwnI w base v zs) (hm : zs.length = m) : w.ownsRow base 3 1 v m (zs.map (.int .i64)) := by
  subst hm; exact h
def ShR (w : World) (nw : Int) (zs : List Int) (ks : List ByteArray) (e' : Ending) (w' : World) : Prop := ∃ v, e' = .returned v ∧ OwnI w' w.heap.size v (shares nw zs ks) ∧ Below w.heap.size w w'
set_option maxRecDepth 100000 in
set_option maxHeartbeats 3200000 in
theorem share_any (e : Int) (a ka : Option Addr) (c kc : Nat) (zs : List Int) (ks : List ByteArray) (nw : Int) (w : World) (hl : zs.length ≤ 1000) (hz : IntsAt w a zs) (hf : ∀ n ∈ zs, fits n)
    (hkl : ks.length ≤ 1000) (hk : RowAt w ka (ks.map .string)) (hs : ∀ s ∈ ks, s.size ≤ 9223372036854775807) :
    Calls Tryd.prog 18 #[.agg #[.int .i64 e, .slice a zs.length c, .int .i64 nw], .slice ka ks.length kc] w (ShR w nw zs ks) := by
  have HK := Lib.hid hk
  have HZ := Lib.hid hz
  have HFit := Lib.hid hf
  have HSz := Lib.hid hs
  have hmm := @run_makeMap Tryd.prog
  obtain ⟨y0, y1, y2, -⟩ := new3 w (.int .i64 e) (.slice a zs.length c) (.int .i64 nw) 26
  have HB : Hid (Below w.heap.size w ((w.alloc (.cells #[.int .i64 e, .slice a zs.length c, .int .i64 nw] 26)).alloc (.map #[] 0))) := Lib.hid (below_alloc (below_alloc (Below.refl _ _) _) _)
  have HO : Hid (((w.alloc (.cells #[.int .i64 e, .slice a zs.length c, .int .i64 nw] 26)).alloc (.map #[] 0)).ownsMap Tryd.prog 3 (plainElem Tryd.prog 3) (w.heap.size + 1) 0 (.map [] : DataW Unit)) := Lib.hid (by
    have := World.ownsMap_made (H := Unit) (w.alloc (.cells #[.int .i64 e, .slice a zs.length c, .int .i64 nw] 26)) Tryd.prog 3 (plainElem Tryd.prog 3)
    rwa [World.size_alloc] at this)
  have Y0 := Lib.hid (cell_keep (below_alloc (Below.refl _ _) (.map #[] 0)) y0)
  have Y1 := Lib.hid (cell_keep (below_alloc (Below.refl _ _) (.map #[] 0)) y1)
  have Y2 := Lib.hid (cell_keep (below_alloc (Below.refl _ _) (.map #[] 0)) y2)
  clear hz hk hf hs y0 y1 y2
  go_enter Tryd.func18, Tryd.ntmps18
  go_wp2_with fail
  generalize (w.alloc (.cells #[.int .i64 e, .slice a zs.length c, .int .i64 nw] 26)).alloc (.map #[] 0) = V at HB HO Y0 Y1 Y2 ⊢
  clear hmm
  go_loopw [14] (fun i wr => ∃ (k : Nat) (D : DataW Unit), k ≤ ks.length ∧ i = .int .i64 k ∧ wr.ownsMap Tryd.prog 3 (plainElem Tryd.prog 3) (w.heap.size + 1) k D ∧ CntAt D nw zs (ks.take k) ∧
      wr.cell? ⟨w.heap.size, 0, none⟩ = some (.int .i64 e) ∧ wr.cell? ⟨w.heap.size, 1, none⟩ = some (.slice a zs.length c) ∧ wr.cell? ⟨w.heap.size, 2, none⟩ = some (.int .i64 nw) ∧ Below w.heap.size w wr) (fun i _ => ks.length - (intOf i).toNat)
  case atStart => exact ⟨0, _, Nat.zero_le _, rfl, HO.out, CntAt.nil _ _, Y0.out, Y1.out, Y2.out, HB.out⟩
  case round =>
    obtain ⟨k, D, hk, rfl, hown, hcnt, x0, x1, x2, hb⟩ := hrel
    clear HO Y0 Y1 Y2 HB
    have HO := Lib.hid hown
    have HC := Lib.hid hcnt
    have HB := Lib.hid hb
    by_cases hlt : k < ks.length
    · rcases (HK.out.below hb (Nat.le_refl _)) with h | ⟨g, off, rfl, hg, hc⟩
      · exfalso; have : ks = [] := by simpa using h
        rw [this] at hlt; simp at hlt
      obtain ⟨s, hsk⟩ : ∃ s, ks[k] = s := ⟨_, rfl⟩
      have hcell : wr.cell? ⟨g, off + k, none⟩ = some (.string s) := hc k _ (by rw [List.getElem?_map, List.getElem?_eq_getElem hlt, hsk]; rfl)
      have HT := Lib.hid (show ks.take (k + 1) = ks.take k ++ [s] by rw [List.take_succ_eq_append_getElem hlt, hsk])
      have hss : s.size ≤ 9223372036854775807 := HSz.out _ (by rw [← hsk]; exact List.getElem_mem hlt)
      obtain ⟨p, hp⟩ : ∃ p, pick s.data.toList nw zs = p := ⟨_, rfl⟩
      obtain ⟨m, hm⟩ : ∃ m, cnt nw zs (ks.take k) p = m := ⟨_, rfl⟩
      have hml : m ≤ 1000 := by have := cnt_le nw zs (ks.take k) p; rw [hm] at this; simp at this; omega
      have HPf : Hid (fits p) := Lib.hid (by rw [← hp]; exact pick_fits _ _ _ HFit.out)
      have HCs : Hid (CntAt (D.put (.int .i64 p) (.lit (.int .i64 ((m : Int) + 1)))) nw zs (ks.take (k + 1))) := Lib.hid (by rw [HT.out]; exact HC.out.step HO.out.isMap hp hm)
      have HL : Hid (D.atKey (.int .i64 p) (.lit (.int .i64 0)) = .lit (.int .i64 (m : Int))) := Lib.hid (by rw [HC.out p HPf.out, hm])
      have HPk : Hid (∀ w0 : World, Below w.heap.size w w0 → Calls Tryd.prog 11 #[.agg #[.int .i64 e, .slice a zs.length c, .int .i64 nw], .string s] w0 fun e' w' => e' = .returned (.int .i64 p) ∧ Below w0.heap.size w0 w') := Lib.hid (fun w0 h0 => by rw [← hp]; exact pick_any e a c zs nw s w0 (by omega) (HZ.out.below h0 (Nat.le_refl _)) hss)
      have q1 : IntKind.i64.wrap ((m : Int) + 1) = (m : Int) + 1 := IntWalk.i64_in _ (by omega)
      have hwf : (Lit.int .i64 ((m : Int) + 1)).wf = true := fits_of (by omega)
      clear hc hg hsk hp hm hown hcnt hb HC HT
      go_wp2_with (first
        | (at_lookup; refine wpList_lookup_own_int _ rfl _ _ 50 rfl 3 3 .i64 lawInt Tryd.underlying50 Tryd.underlying3 (zeroI _) (w.heap.size + 1) k D rfl HO2.out _ _ rfl (keyOf_int_mk Tryd.underlying3 HPf.out) ?_; intro c hat hwc; obtain rfl := lit_inj (hat.symm.trans HL.out); clear hat hwc)
        | (at_mapUpdate; refine wpList_mapUpdate_own _ rfl _ _ _ 50 rfl 3 3 lawInt Tryd.underlying50 _ (w.heap.size + 1) k _ rfl HO2.out (by unfold maxLen; omega) _ _ _ rfl rfl (keyOf_int_mk Tryd.underlying3 HPf.out) _ [] (plainElem_int Tryd.underlying3 hwf) ?_; intro w2 hown2 hg2; have HO3 := Lib.hid hown2; have z0 := cell_far hg2 z0 (by simp); have z1 := cell_far hg2 z1 (by simp); have z2 := cell_far hg2 z2 (by simp); have HB3 := Lib.hid (HB2.out.grown hg2 HB2.out.size (fun j hj => by cases hj; exact Nat.le_succ _)); clear hown2 hg2)
        | (go_at_call 11; refine (HPk.out _ HB.out).mono ?_; rintro e' w1 ⟨rfl, hb⟩; have z0 := cell_keep hb x0; have z1 := cell_keep hb x1; have z2 := cell_keep hb x2; have HB2 := Lib.hid (below_on HB.out hb); have HO2 := Lib.hid (owns_below HO.out hb); clear hb))
      go_roundw
      case rel => exact ⟨k + 1, _, by omega, by go_num, HO3.out, HCs.out, z0, z1, z2, HB3.out⟩
      case measure => simp [intOf]; omega
    · have hkk : ks.take k = ks := List.take_of_length_le (by omega)
      have hke : k = ks.length := by omega
      have e1 : decide ((k : Int) < (ks.length : Int)) = false := decide_eq_false (by omega)
      rw [hkk] at HC
      clear hke hkk hcnt hown hb
      go_wp2_with fail
      obtain ⟨W1, rfl⟩ : ∃ W1 : World, W1 = wr := ⟨_, rfl⟩
      go_loopw [8, 28] (fun v i wr => ∃ j : Nat, j ≤ zs.length ∧ i = .int .i64 j ∧ OwnI wr W1.heap.size v ((shares nw zs ks).take j) ∧ Below W1.heap.size W1 wr) (fun _ i _ => zs.length - (intOf i).toNat)
      case atStart => exact ⟨0, Nat.zero_le _, rfl, World.ownsRow_nil _ _ _ _, Below.refl _ _⟩
      case round =>
        obtain ⟨j, hj, rfl, hw, hb⟩ := hrel
        have HW := Lib.hid hw
        have HR := Lib.hid hb
        have z2 := cell_keep hb x2
        by_cases hjt : j < zs.length
        · rcases (HZ.out.below (HB.out.trans (hb.mono HB.out.size)) (Nat.le_refl _)) with h | ⟨g, off, rfl, hg, hc⟩
          · exfalso; rw [h] at hjt; simp at hjt
          have hcell := hc j hjt
          have hlen : ((shares nw zs ks).take j).length = j := by simp [shares]; omega
          have HT := Lib.hid (shares_take nw zs ks j hjt)
          have hnf : fits (nthI zs j) := HFit.out _ (by unfold nthI; rw [List.getD, List.getElem?_eq_getElem hjt]; exact List.getElem_mem hjt)
          obtain ⟨n, hn⟩ : ∃ n, nthI zs j = n := ⟨_, rfl⟩
          rw [hn] at hcell HT hnf
          have HN := Lib.hid hnf
          obtain ⟨pre, hpre⟩ : ∃ pre, (shares nw zs ks).take j = pre := ⟨_, rfl⟩
          rw [hpre] at HT HW hlen
          have HLen := Lib.hid hlen
          have HOw := Lib.hid (ownI_at HW.out hlen)
          clear hc hg hw hb hn hpre hnf hlen HW
          by_cases hq : n = nw
          · have e0 : (n == nw) = true := by rw [beq_iff_eq]; exact hq
            have HE := Lib.hid (show sh nw zs ks n = 0 from if_pos hq)
            clear hq
            go_wp2_with (at_builtin; refine wpList_append_any rfl _ _ 22 rfl W1.heap.size 3 _ 1 8 tyInts _ j (pre.map (.int .i64)) rfl (ownsRow_below HOw.out (below_alloc (Below.refl _ _) _)) _ 1 1 [.int .i64 0] rfl rfl (RowAt.new _ _ _) (by simp [Value.oneCell']) (by unfold maxLen; omega) (by omega) ?c3 ?_; (case c3 => have := HR.out.size; simp; omega); intro v' w' own' hb'; have HO2 := Lib.hid own'; have HR2 := Lib.hid ((below_alloc HR.out _).trans hb'); clear own' hb')
            go_roundw
            case rel => exact ⟨j + 1, by omega, by go_num, by rw [HT.out, HE.out]; exact ownI_snoc HLen.out HO2.out, HR2.out⟩
            case measure => simp [intOf]; omega
          · have e0 : (n == nw) = false := by rw [beq_eq_false_iff_ne]; exact hq
            have HE := Lib.hid (show sh nw zs ks n = ((cnt nw zs ks n : Nat) : Int) from if_neg hq)
            have HL : Hid (D.atKey (.int .i64 n) (.lit (.int .i64 0)) = .lit (.int .i64 ((cnt nw zs ks n : Nat) : Int))) := Lib.hid (HC.out n HN.out)
            have HM := Lib.hid (owns_below HO.out HR.out)
            obtain ⟨m, hm⟩ : ∃ m, cnt nw zs ks n = m := ⟨_, rfl⟩
            rw [hm] at HE HL
            clear hq hm
            go_wp2_with (first
              | (at_lookup; refine wpList_lookup_own_int _ rfl _ _ 50 rfl 3 3 .i64 lawInt Tryd.underlying50 Tryd.underlying3 (zeroI _) (w.heap.size + 1) k D rfl HM.out _ _ rfl (keyOf_int_mk Tryd.underlying3 HN.out) ?_; intro c hat hwc; obtain rfl := lit_inj (hat.symm.trans HL.out); clear hat hwc)
              | (at_builtin; refine wpList_append_any rfl _ _ 22 rfl W1.heap.size 3 _ 1 8 tyInts _ j (pre.map (.int .i64)) rfl (ownsRow_below HOw.out (below_alloc (Below.refl _ _) _)) _ 1 1 [.int .i64 (m : Int)] rfl rfl (RowAt.new _ _ _) (by simp [Value.oneCell']) (by unfold maxLen; omega) (by omega) ?c3 ?_; (case c3 => have := HR.out.size; simp; omega); intro v' w' own' hb'; have HO2 := Lib.hid own'; have HR2 := Lib.hid ((below_alloc HR.out _).trans hb'); clear own' hb'))
            go_roundw
            case rel => exact ⟨j + 1, by omega, by go_num, by rw [HT.out, HE.out]; exact ownI_snoc HLen.out HO2.out, HR2.out⟩
            case measure => simp [intOf]; omega
        · have hjj : (shares nw zs ks).take j = shares nw zs ks := List.take_of_length_le (by simp [shares]; omega)
          have e2 : decide ((j : Int) < (zs.length : Int)) = false := decide_eq_false (by omega)
          rw [hjj] at HW
          clear hjj hw hb
          go_wp2_with fail
          go_ret
          exact ⟨_, rfl, ownsRow_base HW.out HB.out.size, HB.out.trans (HR.out.mono HB.out.size)⟩
end Go.Proofs.YtdpkmcbpeloljaaDoor
