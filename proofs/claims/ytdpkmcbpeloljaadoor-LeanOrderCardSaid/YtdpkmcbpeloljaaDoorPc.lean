/- Walks of pouch.May, Eq. -/
import Derived.Test.YtdpkmcbpeloljaaDoorPb
namespace Go.Proofs.YtdpkmcbpeloljaaDoor
open Go.RowKit

def pmay (x : PV) : Bool := decide (pcount x 1 ≤ 6000)
set_option maxRecDepth 100000 in
set_option maxHeartbeats 800000 in
theorem may_pv {w : World} {x : PV} {v : Value} (h : PAt w x v) : Calls Tryd.prog 49 #[v] w fun e w' => e = .returned (.bool (pmay x)) ∧ Below w.heap.size w w' := by
  obtain ⟨k, n, s, a, m, c, rfl⟩ := h.form
  obtain ⟨q, hq⟩ : ∃ q, pcount x 1 = q := ⟨_, rfl⟩
  have HC := Lib.hid (count_any h 1)
  rw [hq] at HC
  have HP := Lib.hid (show pmay x = decide ((q : Int) ≤ 6000) by unfold pmay; rw [hq]; congr 1; rw [eq_iff_iff]; omega)
  have HB : Hid (Below w.heap.size w (w.alloc (.cells #[.int .i64 k, .int .i64 n, .string s, .slice a m c] 59))) := Lib.hid (below_alloc (Below.refl _ _) _)
  clear h hq
  go_enter Tryd.func49, Tryd.ntmps49
  go_wp2_with (go_at_call 61; refine (HC.out _ HB.out (by omega)).mono ?_; rintro e' w' ⟨rfl, hb2⟩; have HB2 := Lib.hid (below_on HB.out hb2); clear hb2)
  go_ret
  exact ⟨ret_bool HP.out.symm, HB2.out⟩
mutual
def peq : PV → PV → Bool
  | .mk k n s l, .mk k' n' s' l' => (k == k') && (n == n') && (s.toList == s'.toList) && peqL l l'
def peqL : List PV → List PV → Bool
  | [], [] => true
  | x :: t, y :: u => peq x y && peqL t u
  | [], _ :: _ => false
  | _ :: _, [] => false
end
mutual
theorem peq_iff : ∀ (x y : PV), peq x y = true ↔ x = y
  | .mk k n s l, .mk k' n' s' l' => by
    unfold peq
    simp only [Bool.and_eq_true, beq_iff_eq, PV.mk.injEq, peqL_iff l l', and_assoc]
    have : s.toList = s'.toList ↔ s = s' := by
      constructor
      · intro h; rw [Lib.toList_data, Lib.toList_data] at h; exact ByteArray.ext (Array.toList_inj.1 h)
      · rintro rfl; rfl
    rw [this]
theorem peqL_iff : ∀ (l l' : List PV), peqL l l' = true ↔ l = l'
  | [], [] => by simp [peqL]
  | x :: t, y :: u => by
    unfold peqL
    simp only [Bool.and_eq_true, List.cons.injEq, peq_iff x y, peqL_iff t u]
  | [], _ :: _ => by simp [peqL]
  | _ :: _, [] => by simp [peqL]
end
theorem peqL_len {l l' : List PV} (h : l.length ≠ l'.length) : peqL l l' = false := by
  rw [← Bool.not_eq_true, peqL_iff]; rintro rfl; exact h rfl
theorem peqL_step {l l' : List PV} {j : Nat} (h : j < l.length) (h' : j < l'.length) : peqL (l.drop j) (l'.drop j) = (peq l[j] l'[j] && peqL (l.drop (j + 1)) (l'.drop (j + 1))) := by
  rw [drop_cons h, drop_cons h']
  conv => lhs; unfold peqL
set_option maxRecDepth 100000 in
set_option maxHeartbeats 1600000 in
theorem equalFunc_pv {W : World} (l l' : List PV) (a a' : Option Addr) (c c' : Nat) (vs vs' : Nat → Value) (hl : l.length ≤ 9223372036854775807) (hr : RowP W a l.length vs) (hr' : RowP W a' l'.length vs')
    (hf : ∀ j, j < l.length → ∃ (k n : Int) (s : ByteArray) (a : Option Addr) (m c : Nat), vs j = .agg #[.int .i64 k, .int .i64 n, .string s, .slice a m c]) (hf' : ∀ j, j < l'.length → ∃ (k n : Int) (s : ByteArray) (a : Option Addr) (m c : Nat), vs' j = .agg #[.int .i64 k, .int .i64 n, .string s, .slice a m c])
    (hE : ∀ j (h : j < l.length) (h' : j < l'.length), ∀ W', Below W.heap.size W W' → Calls Tryd.prog 36 #[vs j, vs' j] W' fun e w' => e = .returned (.bool (peq l[j] l'[j])) ∧ Below W'.heap.size W' w') :
    Calls Tryd.prog 53 #[.slice a l.length c, .slice a' l'.length c', .func (.func 36) #[] #[]] W fun e w' => e = .returned (.bool (peqL l l')) ∧ Below W.heap.size W w' := by
  by_cases hlen : l.length = l'.length
  · have hne : ((l.length : Int) != (l'.length : Int)) = false := by simp; omega
    have HLen := Lib.hid hlen
    have HR := Lib.hid hr
    have HR' := Lib.hid hr'
    have HF := Lib.hid hf
    have HF' := Lib.hid hf'
    have HE := Lib.hid hE
    clear hlen hr hr' hf hf' hE
    go_enter Tryd.func53, Tryd.ntmps53
    go_wp2_with fail
    go_loopw [17] (fun i wr => ∃ j : Nat, j ≤ l.length ∧ i = .int .i64 j ∧ peqL (l.drop j) (l'.drop j) = peqL l l' ∧ Below W.heap.size W wr) (fun i _ => l.length - (intOf i).toNat)
    case atStart => exact ⟨0, Nat.zero_le _, rfl, rfl, Below.refl _ _⟩
    case round =>
      obtain ⟨j, hj, rfl, hP, hB⟩ := hrel
      have HP := Lib.hid hP
      have HB := Lib.hid hB
      clear hP hB
      by_cases hlt : j < l.length
      · have hlt' : j < l'.length := by have := HLen.out; omega
        have hi' : (j : Int) < (l'.length : Int) := by omega
        rcases HR.out with h | ⟨b, off, rfl, hbs, hc⟩
        · omega
        rcases HR'.out with h | ⟨b', off', rfl, hbs', hc'⟩
        · omega
        obtain ⟨k1, n1, s1, a1, m1, c1, hv1⟩ := HF.out j hlt
        obtain ⟨k2, n2, s2, a2, m2, c2, hv2⟩ := HF'.out j hlt'
        obtain ⟨y0, y1, y2, y3⟩ := ((hc j hlt).below HB.out hbs).of hv1
        obtain ⟨z0, z1, z2, z3⟩ := ((hc' j hlt').below (below_alloc HB.out (.cells #[.int .i64 k1, .int .i64 n1, .string s1, .slice a1 m1 c1] 59)) hbs').of hv2
        have HX := Lib.hid (HE.out j hlt hlt')
        rw [hv1, hv2] at HX
        have hst := peqL_step hlt hlt'
        obtain ⟨q, hq⟩ : ∃ q, peq l[j] l'[j] = q := ⟨_, rfl⟩
        rw [hq] at HX hst
        have HS := Lib.hid hst
        clear hq hc hc' hv1 hv2 hst
        have B2 : Hid (Below W.heap.size W ((wr.alloc (.cells #[.int .i64 k1, .int .i64 n1, .string s1, .slice a1 m1 c1] 59)).alloc (.cells #[.int .i64 k2, .int .i64 n2, .string s2, .slice a2 m2 c2] 59))) := Lib.hid (below_alloc (below_alloc HB.out _) _)
        cases q
        · have HE0 := Lib.hid (show peqL l l' = false by rw [← HP.out, HS.out]; rfl)
          go_wp2_with (go_at_call 36; refine (HX.out _ B2.out).mono ?_; rintro e' w' ⟨rfl, hb2⟩; have HB3 := Lib.hid (below_on B2.out hb2); clear hb2)
          go_ret
          exact ⟨ret_bool HE0.out.symm, HB3.out⟩
        · have HE0 := Lib.hid (show peqL (l.drop (j + 1)) (l'.drop (j + 1)) = peqL l l' by rw [← HP.out, HS.out]; rfl)
          go_wp2_with (go_at_call 36; refine (HX.out _ B2.out).mono ?_; rintro e' w' ⟨rfl, hb2⟩; have HB3 := Lib.hid (below_on B2.out hb2); clear hb2)
          go_roundw
          case rel => exact ⟨j + 1, by omega, by go_num, HE0.out, HB3.out⟩
          case measure => simp [intOf]; omega
      · obtain rfl : j = l.length := by omega
        have HE0 := Lib.hid (show peqL l l' = true by rw [← HP.out, List.drop_length, HLen.out, List.drop_length]; rfl)
        go_wp2_with fail
        go_ret
        exact ⟨ret_bool HE0.out.symm, HB.out⟩
  · have hne : ((l.length : Int) != (l'.length : Int)) = true := by simp; omega
    have HE := Lib.hid (peqL_len hlen)
    clear hlen hr hr' hf hf' hE
    go_enter Tryd.func53, Tryd.ntmps53
    go_wp2_with fail
    go_ret
    exact ⟨ret_bool HE.out.symm, Below.refl _ _⟩
set_option maxRecDepth 100000 in
set_option maxHeartbeats 1600000 in
theorem eq_pv {w : World} {x : PV} {v : Value} (h : PAt w x v) : ∀ (y : PV) (u : Value) (W : World), PAt W y u → Below w.heap.size w W →
    Calls Tryd.prog 36 #[v, u] W fun e w' => e = .returned (.bool (peq x y)) ∧ Below W.heap.size W w' := by
  induction h with
  | mk k n s l a c vs hk hn hs hl hr hv ih =>
    intro y u W hy hb
    cases hy with
    | mk k' n' s' l' a' c' vs' hk' hn' hs' hl' hr' hv' =>
    obtain ⟨b1, hb1⟩ : ∃ b, (k == k') = b := ⟨_, rfl⟩
    obtain ⟨b2, hb2⟩ : ∃ b, (n == n') = b := ⟨_, rfl⟩
    obtain ⟨b3, hb3⟩ : ∃ b, (s.toList == s'.toList) = b := ⟨_, rfl⟩
    have HP := Lib.hid (show peq (.mk k n s l) (.mk k' n' s' l') = (b1 && b2 && b3 && peqL l l') by unfold peq; rw [hb1, hb2, hb3])
    have B2 : Hid (Below W.heap.size W ((W.alloc (.cells #[.int .i64 k, .int .i64 n, .string s, .slice a l.length c] 59)).alloc (.cells #[.int .i64 k', .int .i64 n', .string s', .slice a' l'.length c'] 59))) := Lib.hid (below_alloc (below_alloc (Below.refl _ _) _) _)
    have HR := Lib.hid ((hr.below hb (Nat.le_refl _)).below B2.out (Nat.le_refl _))
    have HR' := Lib.hid (hr'.below B2.out (Nat.le_refl _))
    have HF := Lib.hid (show ∀ j, j < l.length → ∃ (k n : Int) (s : ByteArray) (a : Option Addr) (m c : Nat), vs j = .agg #[.int .i64 k, .int .i64 n, .string s, .slice a m c] from fun j hj => (hv j l[j] (List.getElem?_eq_getElem hj)).form)
    have HF' := Lib.hid (show ∀ j, j < l'.length → ∃ (k n : Int) (s : ByteArray) (a : Option Addr) (m c : Nat), vs' j = .agg #[.int .i64 k, .int .i64 n, .string s, .slice a m c] from fun j hj => (hv' j l'[j] (List.getElem?_eq_getElem hj)).form)
    have HE := Lib.hid (show ∀ j (h : j < l.length) (h' : j < l'.length), ∀ W', Below (((W.alloc (.cells #[.int .i64 k, .int .i64 n, .string s, .slice a l.length c] 59)).alloc (.cells #[.int .i64 k', .int .i64 n', .string s', .slice a' l'.length c'] 59))).heap.size ((W.alloc (.cells #[.int .i64 k, .int .i64 n, .string s, .slice a l.length c] 59)).alloc (.cells #[.int .i64 k', .int .i64 n', .string s', .slice a' l'.length c'] 59)) W' → Calls Tryd.prog 36 #[vs j, vs' j] W' fun e w' => e = .returned (.bool (peq l[j] l'[j])) ∧ Below W'.heap.size W' w' from
      fun j h h' W' hW => ih j l[j] (List.getElem?_eq_getElem h) l'[j] (vs' j) W' ((hv' j l'[j] (List.getElem?_eq_getElem h')).keep (below_on B2.out hW)) (hb.trans ((below_on B2.out hW).mono hb.size)))
    clear hr hr' hv hv' ih hb
    cases b1
    · go_enter Tryd.func36, Tryd.ntmps36
      go_wp2_with fail
      go_ret
      exact ⟨ret_bool (by rw [HP.out]; rfl), B2.out⟩
    cases b2
    · go_enter Tryd.func36, Tryd.ntmps36
      go_wp2_with fail
      go_ret
      exact ⟨ret_bool (by rw [HP.out]; rfl), B2.out⟩
    cases b3
    · go_enter Tryd.func36, Tryd.ntmps36
      go_wp2_with fail
      go_ret
      exact ⟨ret_bool (by rw [HP.out]; rfl), B2.out⟩
    · go_enter Tryd.func36, Tryd.ntmps36
      go_wp2_with (go_at_call 53; refine (equalFunc_pv l l' _ _ _ _ _ _ hl HR.out HR'.out HF.out HF'.out HE.out).mono ?_; rintro e' w' ⟨rfl, hb2⟩; have HB3 := Lib.hid (below_on B2.out hb2); clear hb2)
      go_ret
      exact ⟨ret_bool (by rw [HP.out]; rfl), HB3.out⟩
end Go.Proofs.YtdpkmcbpeloljaaDoor
