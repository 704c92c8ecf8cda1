/- A chest of the document's: new, a name, a place, the room. -/
import Derived.Test.YtjblbjamceloaaaGreatDoorVb
namespace Go.Proofs.YtjblbjamceloaaaGreatDoor
open Go.RowKit

set_option maxRecDepth 100000
theorem run_ix (s : ByteArray) (q : Nat) (c : UInt8) (h : s.data.toList[q]? = some c) (w : World) : (Instr.index 9 (.string s) (.int .i64 (q : Int))).run Tryz.prog w = .ok (.int .u8 (c.toNat : Int)) w := by
  obtain ⟨h1, h2⟩ := List.getElem?_eq_some_iff.1 h
  have hq : q < s.size := by rw [Lib.size_eq]; exact h1
  rw [run_index_string w _ _ _ _ Tryz.underlying9, dif_pos ⟨by omega, by omega⟩, ← h2]
  rfl
theorem rname_any (s : ByteArray) (w : World) (hs : s.size ≤ 9223372036854775807) :
    Calls Tryz.prog 63 #[.string s] w fun e w' => e = .returned (.bool (goodN s.data.toList)) ∧ w = w' := by
  have hss : s.size = s.data.toList.length := size_list s
  have HS := Lib.hid hss
  clear hss
  go_enter Tryz.func63, Tryz.ntmps63
  go_wp2_with fail
  go_loopw [3] (fun u wr => ∃ k : Nat, u = .int .i64 (k : Int) ∧ wr = w ∧ k ≤ s.size ∧ (s.data.toList.take k).any badB = false) (fun u _ => s.size + 1 - (intOf u).toNat)
  case atStart => exact ⟨0, rfl, rfl, Nat.zero_le _, rfl⟩
  case round =>
    obtain ⟨k, rfl, rfl, hk, hn⟩ := hrel
    have HN := Lib.hid hn
    clear hn
    by_cases hks : k < s.size
    · have e1 : decide ((k : Int) < (s.size : Int)) = true := decide_eq_true (by omega)
      have hkl : k < s.data.toList.length := by have := HS.out; omega
      obtain ⟨c, hc⟩ : ∃ c, s.data.toList[k] = c := ⟨_, rfl⟩
      have hidx := fun w => run_ix s k c (by rw [List.getElem?_eq_getElem hkl, hc]) w
      have HT := Lib.hid (any_take_succ s.data.toList k hkl badB)
      rw [hc] at HT
      have HM := Lib.hid (any_of_get s.data.toList k hkl badB)
      rw [hc] at HM
      obtain ⟨t1, ht1⟩ : ∃ t, decide ((c.toNat : Int) < 65) = t := ⟨_, rfl⟩
      obtain ⟨t2, ht2⟩ : ∃ t, decide (90 < (c.toNat : Int)) = t := ⟨_, rfl⟩
      have HB : Hid (badB c = (t1 || t2)) := Lib.hid (by unfold badB; rw [ht1, ht2])
      clear hc hkl
      cases t1
      · cases t2
        · go_wp2_with fail
          exact ⟨⟨k + 1, by go_num, trivial, by omega, by rw [HT.out, HN.out, HB.out]; rfl⟩, by simp [intOf]; omega⟩
        · have HA : Hid (goodN s.data.toList = false) := Lib.hid (by unfold goodN; rw [HM.out (by rw [HB.out]; rfl)]; rfl)
          go_wp2_with fail
          go_ret
          exact ⟨by rw [HA.out]; rfl, rfl⟩
      · have HA : Hid (goodN s.data.toList = false) := Lib.hid (by unfold goodN; rw [HM.out (by rw [HB.out]; rfl)]; rfl)
        go_wp2_with fail
        go_ret
        exact ⟨by rw [HA.out]; rfl, rfl⟩
    · have e1 : decide ((k : Int) < (s.size : Int)) = false := decide_eq_false (by omega)
      have HE : Hid (goodN s.data.toList = (decide (1 ≤ s.size) && decide (s.size ≤ 10))) := Lib.hid (by
        have h1 := HN.out
        have h2 := HS.out
        rw [List.take_of_length_le (by omega)] at h1
        unfold goodN
        rw [h1, ← h2]; rfl)
      by_cases h1 : 1 ≤ s.size
      · have d1 : decide (1 ≤ (s.size : Int)) = true := decide_eq_true (by omega)
        by_cases h2 : s.size ≤ 10
        · have d2 : decide ((s.size : Int) ≤ 10) = true := decide_eq_true (by omega)
          have HX : Hid (goodN s.data.toList = true) := Lib.hid (by rw [HE.out]; simp [h1, h2])
          go_wp2_with fail
          go_ret
          exact ⟨by rw [HX.out]; rfl, rfl⟩
        · have d2 : decide ((s.size : Int) ≤ 10) = false := decide_eq_false (by omega)
          have HX : Hid (goodN s.data.toList = false) := Lib.hid (by rw [HE.out]; simp [h2])
          go_wp2_with fail
          go_ret
          exact ⟨by rw [HX.out]; rfl, rfl⟩
      · have d1 : decide (1 ≤ (s.size : Int)) = false := decide_eq_false (by omega)
        have HX : Hid (goodN s.data.toList = false) := Lib.hid (by rw [HE.out]; simp [h1])
        go_wp2_with fail
        go_ret
        exact ⟨by rw [HX.out]; rfl, rfl⟩
/-- A chest of the document's. -/
structure DocAt (w : World) (d : Nat) (v : Value) (z : Int) (L : List Rl) : Prop where
  c0 : w.cell? ⟨d, 0, none⟩ = some (.int .i64 z)
  c1 : w.cell? ⟨d, 1, none⟩ = some v
  f1 : w.frozen? ⟨d, 1, none⟩ = false
  rw : Rows4 w v L
  nq : d ∉ ownB v
theorem DocAt.lt {w : World} {d : Nat} {v : Value} {z : Int} {L : List Rl} (h : DocAt w d v z L) : d < w.heap.size := cell_old h.c0
theorem DocAt.keep {S : List Nat} {w w' : World} {d : Nat} {v : Value} {z : Int} {L : List Rl} (h : DocAt w d v z L) (k : Only S w w') (hd : d ∉ S) (hv : ∀ q ∈ ownB v, q ∉ S) : DocAt w' d v z L :=
  ⟨k.cellK (p := ⟨d, 0, none⟩) hd h.c0, k.cellK (p := ⟨d, 1, none⟩) hd h.c1, by rw [k.frozen (p := ⟨d, 1, none⟩) h.lt hd]; exact h.f1, h.rw.keep k hv, h.nq⟩
theorem DocAt.low {w w' : World} {d : Nat} {v : Value} {z : Int} {L : List Rl} (h : DocAt w d v z L) (k : Below w.heap.size w w') : DocAt w' d v z L := h.keep (S := []) (Only.of_below k) (by simp) (by simp)
theorem newDoc_any (r : Int) (w : World) : Calls Tryz.prog 23 #[.int .i64 r] w fun e w' => ∃ d, e = .returned (.pointer (some ⟨d, 0, none⟩)) ∧ DocAt w' d (.slice none 0 0) (capR r) [] ∧ w.heap.size ≤ d ∧ Below w.heap.size w w' := by
  have HR : Hid (capR r = max 0 (min r 1048576)) := Lib.hid (by unfold capR; omega)
  obtain ⟨q, hq⟩ : ∃ q, max 0 (min r 1048576) = q := ⟨_, rfl⟩
  rw [hq] at HR
  go_enter Tryz.func23, Tryz.ntmps23
  go_wp2_with fail
  go_ret
  exact ⟨w.heap.size, rfl, by rw [HR.out]; exact ⟨by simp, by simp, by simp [go_sem], Rows4.nil _, by simp [ownB_nil]⟩, Nat.le_refl _, below_alloc (Below.refl _ _) _⟩
/-- The room of a chest of the document's. -/
theorem rroom_any {w : World} {d : Nat} {v : Value} {z : Int} {L : List Rl} (H : DocAt w d v z L) (hL : L.length < 1000000) (hz : sumL L ≤ z) (hz2 : z ≤ 1048576) :
    Calls Tryz.prog 51 #[.pointer (some ⟨d, 0, none⟩)] w fun e w' => e = .returned (.int .i64 (z - sumL L)) ∧ w = w' := by
  have HH := Lib.hid H
  obtain ⟨a, c, rfl⟩ := H.rw.slice
  have c0 := H.c0
  have c1 := H.c1
  have hs0 := sumL_nonneg L
  clear H
  go_enter Tryz.func51, Tryz.ntmps51
  go_wp2_with fail
  go_loopw [3, 4] (fun u3 u4 wr => ∃ (k : Nat) (y : Int), u3 = .int .i64 y ∧ u4 = .int .i64 (k : Int) ∧ wr = w ∧ k ≤ L.length ∧ y = z - sumL (L.take k)) (fun _ u4 _ => L.length + 1 - (intOf u4).toNat)
  case atStart => exact ⟨0, z, rfl, rfl, rfl, Nat.zero_le _, by simp [sumL]⟩
  case round =>
    obtain ⟨k, y, rfl, rfl, rfl, hk, hy⟩ := hrel
    have hb := sumL_take_le L k
    by_cases hkl : k < L.length
    · have e1 : decide ((k : Int) < (L.length : Int)) = true := decide_eq_true (by omega)
      obtain ⟨q, cap, hsl, g0, g1, g2, g3, -⟩ := HH.out.rw.get (List.getElem?_eq_getElem hkl)
      simp only [Value.slice.injEq] at hsl
      obtain ⟨rfl, -, rfl⟩ := hsl
      have HT := Lib.hid (sumL_take_succ (List.getElem?_eq_getElem hkl))
      have hb2 := sumL_take_le L (k + 1)
      rw [HT.out] at hb2
      generalize L[k] = x at g0 g1 g2 g3 HT hb2
      have hw : IntKind.i64.wrap (y - (x.2.s.size : Int)) = y - (x.2.s.size : Int) := IntWalk.i64_in _ (by omega)
      have HY := Lib.hid hy
      clear hy
      go_wp2_with fail
      exact ⟨⟨k + 1, y - (x.2.s.size : Int), rfl, by go_num, trivial, by omega, by rw [HT.out, HY.out]; omega⟩, by simp [intOf]; omega⟩
    · have e1 : decide ((k : Int) < (L.length : Int)) = false := decide_eq_false (by omega)
      have HY : Hid (y = z - sumL L) := Lib.hid (by rw [hy, List.take_of_length_le (by omega)])
      clear hy
      go_wp2_with fail
      go_ret
      exact ⟨by rw [HY.out]; rfl, rfl⟩
theorem less_name (a : Nm) (b : ByteArray) : Op.bytesLess (nmB a).toList b.toList = decide (a < b.data.toList) := by
  rw [bytesLess_eq, ByteArray.toList_eq, ByteArray.toList_eq, nmB_list]
/-- Where a name stands. -/
theorem rat_any {w : World} {d : Nat} {v : Value} {z : Int} {L : List Rl} (H : DocAt w d v z L) (hL : L.length < 1000000) (hs : Rising L) (n : ByteArray) :
    Calls Tryz.prog 64 #[.pointer (some ⟨d, 0, none⟩), .string n] w fun e w' => e = .returned (.tuple #[.int .i64 (placeL n.data.toList L : Nat), .bool (lookL n.data.toList L).isSome]) ∧ Below w.heap.size w w' := by
  have HH := Lib.hid H
  have HS := Lib.hid hs
  obtain ⟨a, c, rfl⟩ := H.rw.slice
  have c1 := H.c1
  clear H hs
  go_enter Tryz.func64, Tryz.ntmps64
  go_wp2_with fail
  go_loopw [6] (fun u6 wr => ∃ k : Nat, u6 = .int .i64 (k : Int) ∧ wr = w ∧ k ≤ L.length ∧ ∀ i, i < k → ∀ x, L[i]? = some x → x.1 < n.data.toList) (fun u6 _ => L.length + 1 - (intOf u6).toNat)
  case atStart => exact ⟨0, rfl, rfl, Nat.zero_le _, fun i h => by omega⟩
  case round =>
    obtain ⟨k, rfl, rfl, hk, hlow⟩ := hrel
    have HLow := Lib.hid hlow
    clear hlow
    by_cases hkl : k < L.length
    · have e1 : decide ((k : Int) < (L.length : Int)) = true := decide_eq_true (by omega)
      obtain ⟨q, cap, hsl, g0, g1, g2, g3, -⟩ := HH.out.rw.get (List.getElem?_eq_getElem hkl)
      simp only [Value.slice.injEq] at hsl
      obtain ⟨rfl, -, rfl⟩ := hsl
      have HX := Lib.hid (List.getElem?_eq_getElem hkl)
      generalize L[k] = x at g0 g1 g2 g3 HX
      have hlt := less_name x.1 n
      obtain ⟨t, ht⟩ : ∃ t, decide (x.1 < n.data.toList) = t := ⟨_, rfl⟩
      rw [ht] at hlt
      have HT := Lib.hid ht
      clear ht
      cases t
      · have hn : ¬ x.1 < n.data.toList := of_decide_eq_false HT.out
        have HP : Hid (k = placeL n.data.toList L) := Lib.hid (placeL_is hk HLow.out (Or.inr ⟨x, HX.out, hn⟩))
        have heq := str_eqL (s := nmB x.1) (t := n)
        have HE : Hid (decide (nmB x.1 = n) = (lookL n.data.toList L).isSome) := Lib.hid (by
          cases hl : lookL n.data.toList L with
          | some y =>
            have h1 := (look_place HS.out y).1 hl
            rw [← HP.out, HX.out] at h1
            simp only [Option.some.injEq] at h1
            rw [h1]
            exact decide_eq_true (nmB_of n)
          | none =>
            refine decide_eq_false fun e => ?_
            have h1 := (look_place HS.out x.2).2 (by rw [← HP.out, HX.out, ← e, nmB_list])
            rw [hl] at h1; cases h1)
        obtain ⟨t2, ht2⟩ : ∃ t2, (lookL n.data.toList L).isSome = t2 := ⟨_, rfl⟩
        rw [HE.out, ht2] at heq
        have HT2 := Lib.hid ht2
        clear hn HE ht2
        go_wp2_with fail
        go_quiet (fail)
        go_wp2_with fail
        refine bodyPost_ret (v := .tuple #[.int .i64 (k : Int), .bool t2]) (by simp [results, Tryz.results64, go_sem]) rfl ⟨by rw [HT2.out, ← HP.out], below_drewN (Below.refl _ _) _⟩
      · have hn : x.1 < n.data.toList := of_decide_eq_true HT.out
        have HN := Lib.hid hn
        clear hn
        go_wp2_with fail
        exact ⟨⟨k + 1, by go_num, trivial, by omega, fun i h y hy => by
          by_cases h2 : i < k
          · exact HLow.out i h2 y hy
          · obtain rfl : i = k := by omega
            rw [HX.out] at hy
            cases hy
            exact HN.out⟩, by simp [intOf]; omega⟩
    · have e1 : decide ((k : Int) < (L.length : Int)) = false := decide_eq_false (by omega)
      have HP : Hid (k = placeL n.data.toList L) := Lib.hid (placeL_is hk HLow.out (Or.inl (by omega)))
      have HE : Hid ((lookL n.data.toList L).isSome = false) := Lib.hid (by
        cases hl : lookL n.data.toList L with
        | none => rfl
        | some y =>
          have h1 := (look_place HS.out y).1 hl
          rw [← HP.out, List.getElem?_eq_none (by omega)] at h1
          cases h1)
      go_wp2_with fail
      go_quiet (fail)
      go_wp2_with fail
      refine bodyPost_ret (v := .tuple #[.int .i64 (k : Int), .bool false]) (by simp [results, Tryz.results64, go_sem]) rfl ⟨by rw [HE.out, ← HP.out], below_drewN (Below.refl _ _) _⟩
end Go.Proofs.YtjblbjamceloaaaGreatDoor
