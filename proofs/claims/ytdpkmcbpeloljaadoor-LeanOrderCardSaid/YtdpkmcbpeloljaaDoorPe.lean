/- Walks of strconv.Itoa, FormatInt (by the shelf), of pouch.put. -/
import Derived.Test.YtdpkmcbpeloljaaDoorPd
import Derived.Lib.ItoaNum
namespace Go.Proofs.YtdpkmcbpeloljaaDoor
open Go.RowKit Go.Sort

/-- The library's table of powers stands as it was laid. -/
def Tab (w : World) : Prop := Lib.TabIs Tryd.prog w "internal/strconv.uint64pow10" .u64 Lib.pow10Tab
theorem Tab.keep {w w' : World} (h : Tab w) (hb : Below w.heap.size w w') : Tab w' := by
  unfold Tab Lib.TabIs World.var? at *
  cases hg : Tryd.prog.globalNamed "internal/strconv.uint64pow10" with
  | none => rw [hg] at h; simp at h
  | some g =>
    rw [hg] at h
    simp only [Option.bind_some] at h ⊢
    by_cases hlt : g < w.heap.size
    · rw [hb.block g hlt]; exact h
    · rw [Array.getElem?_eq_none (by omega)] at h; simp at h
theorem below_grow (w : World) (n : Nat) (os : Array Obj) : Below w.heap.size w (grow (w.drewN n) os) :=
  ⟨rfl, rfl, rfl, by simp [grow, World.drewN], fun k hk => by simp [grow, World.drewN, Array.getElem?_append, hk]⟩
theorem itoa_any (n : Int) (w : World) (h0 : -9223372036854775808 ≤ n) (h1 : n ≤ 9223372036854775807) (T : Tab w) :
    Calls Tryd.prog 65 #[.int .i64 n] w fun e w' => e = .returned (.string ⟨(Lib.itoa n).toArray⟩) ∧ Below w.heap.size w w' := by
  refine (Tryd.strconv_Itoa n h0 h1 w T).mono ?_
  rintro e w' ⟨rfl, k, os, rfl⟩
  exact ⟨rfl, below_grow _ _ _⟩
theorem formatInt_any (n : Int) (w : World) (h0 : -9223372036854775808 ≤ n) (h1 : n ≤ 9223372036854775807) (T : Tab w) :
    Calls Tryd.prog 62 #[.int .i64 n, .int .i64 10] w fun e w' => e = .returned (.string ⟨(Lib.itoa n).toArray⟩) ∧ Below w.heap.size w w' := by
  refine (Tryd.strconv_FormatInt_10 n h0 h1 w T).mono ?_
  rintro e w' ⟨rfl, k, os, rfl⟩
  exact ⟨rfl, below_grow _ _ _⟩
mutual
/-- A value's text. -/
def pput : PV → List UInt8
  | .mk k n s l => Lib.itoa (if k = 1 then Lib.itoa n else if k = 3 then pputL l else s.data.toList).length ++ (58 :: ((if k = 1 then Lib.itoa n else if k = 3 then pputL l else s.data.toList) ++ [if k = 1 then 35 else if k = 3 then 93 else 44]))
def pputL : List PV → List UInt8
  | [] => []
  | x :: t => pput x ++ pputL t
end
theorem pputL_append (l l' : List PV) : pputL (l ++ l') = pputL l ++ pputL l' := by
  induction l with
  | nil => rfl
  | cons x t ih => show pput x ++ pputL (t ++ l') = (pput x ++ pputL t) ++ pputL l'; rw [ih, List.append_assoc]
theorem pputL_one (x : PV) : pputL [x] = pput x := by show pput x ++ [] = _; simp
theorem pputL_snoc (l : List PV) (j : Nat) (h : j < l.length) : pputL (l.take (j + 1)) = pputL (l.take j) ++ pput l[j] := by
  rw [take_next l j h, pputL_append, pputL_one]
theorem pputL_len (l : List PV) (j : Nat) (h : j < l.length) : (pputL (l.take j)).length + (pput l[j]).length ≤ (pputL l).length := by
  have : pputL l = pputL (l.take (j + 1)) ++ pputL (l.drop (j + 1)) := by rw [← pputL_append, List.take_append_drop]
  rw [this, pputL_snoc l j h, List.length_append, List.length_append]
  omega
theorem decDigits_pos (u : Nat) : 1 ≤ (Lib.decDigits u).length := by
  rw [Lib.decDigits]
  split <;> simp
/-- The text's parts. -/
def wrapT (t : List UInt8) (e : UInt8) : List UInt8 := Lib.itoa t.length ++ (58 :: (t ++ [e]))
theorem wrapT_len (t : List UInt8) (e : UInt8) : t.length + (Lib.itoa t.length).length + 2 = (wrapT t e).length := by unfold wrapT; simp; omega
theorem cat3 (t : List UInt8) (e : UInt8) (h : (wrapT t e).length ≤ 140737488355328) : (∀ w, (Op.stringOp .add ⟨(Lib.itoa t.length).toArray⟩ ⟨#[58]⟩).run Tryd.prog w = .ok (.string ⟨(Lib.itoa t.length ++ [58]).toArray⟩) w) ∧
    (∀ w, (Op.stringOp .add ⟨(Lib.itoa t.length ++ [58]).toArray⟩ ⟨t.toArray⟩).run Tryd.prog w = .ok (.string ⟨(Lib.itoa t.length ++ 58 :: t).toArray⟩) w) ∧
    (∀ w, (Op.stringOp .add ⟨(Lib.itoa t.length ++ 58 :: t).toArray⟩ ⟨#[e]⟩).run Tryd.prog w = .ok (.string ⟨(wrapT t e).toArray⟩) w) := by
  have hl := wrapT_len t e
  refine ⟨fun w => run_cat _ [58] (by simp; omega) w, fun w => ?_, fun w => ?_⟩
  · have := run_cat (P := Tryd.prog) (Lib.itoa t.length ++ [58]) t (by simp; omega) w
    rw [this]; simp
  · have := run_cat (P := Tryd.prog) (Lib.itoa t.length ++ 58 :: t) [e] (by simp; omega) w
    rw [this]
    unfold wrapT
    simp
set_option maxRecDepth 100000 in
set_option maxHeartbeats 3200000 in
theorem put_pv {w : World} {x : PV} {v : Value} (h : PAt w x v) : ∀ (W : World), Below w.heap.size w W → Tab W → (pput x).length ≤ 140737488355328 →
    Calls Tryd.prog 50 #[v] W fun e w' => e = .returned (.string ⟨(pput x).toArray⟩) ∧ Below W.heap.size W w' := by
  induction h with
  | mk k n s l a c vs hk hn hs hl hr hv ih =>
    intro W hb T hlen
    have HR := Lib.hid (hr.below hb (Nat.le_refl _))
    have HI := Lib.hid ih
    have HV := Lib.hid hv
    have B1 : Hid (Below W.heap.size W (W.alloc (.cells #[.int .i64 k, .int .i64 n, .string s, .slice a l.length c] 59))) := Lib.hid (below_alloc (Below.refl _ _) _)
    clear hr ih hv
    by_cases h1 : k = 1
    · subst h1
      obtain ⟨t, ht⟩ : ∃ t, Lib.itoa n = t := ⟨_, rfl⟩
      have hp : pput (.mk 1 n s l) = wrapT t 35 := by unfold pput wrapT; simp [ht]
      rw [hp] at hlen ⊢
      obtain ⟨c1, c2, c3⟩ := cat3 t 35 hlen
      have hz : (⟨t.toArray⟩ : ByteArray).size = t.length := by simp [ByteArray.size]
      have hwl := wrapT_len t 35
      have HT := Lib.hid ht
      have TB := Lib.hid (T.keep B1.out)
      clear ht hp
      go_enter Tryd.func50, Tryd.ntmps50
      go_wp2_with (first | (go_at_call 62; refine (formatInt_any n _ hn.1 hn.2 TB.out).mono ?_; rw [HT.out]; rintro e' w1 ⟨rfl, hb1⟩; have B2 := Lib.hid (below_on B1.out hb1); have T2 := Lib.hid (TB.out.keep hb1); clear hb1) | (go_at_call 65; refine (itoa_any _ _ (by omega) (by omega) T2.out).mono ?_; rintro e' w2 ⟨rfl, hb2⟩; have B3 := Lib.hid (below_on B2.out hb2); clear hb2))
      go_ret
      exact ⟨rfl, B3.out⟩
    · have h1' : (k == 1) = false := by simpa using h1
      by_cases h3 : k = 3
      · subst h3
        obtain ⟨t, ht⟩ : ∃ t, pputL l = t := ⟨_, rfl⟩
        have hp : pput (.mk 3 n s l) = wrapT t 93 := by unfold pput wrapT; simp [ht]
        rw [hp] at hlen ⊢
        obtain ⟨c1, c2, c3⟩ := cat3 t 93 hlen
        have hz : (⟨t.toArray⟩ : ByteArray).size = t.length := by simp [ByteArray.size]
        have hwl := wrapT_len t 93
        have HT := Lib.hid ht
        have TB := Lib.hid (T.keep B1.out)
        have C := Lib.hid (And.intro c1 (And.intro c2 c3))
        have HBl : Hid (IsBl (W.heap.size + 1) (W.heap.size + 1) [] ((W.alloc (.cells #[.int .i64 3, .int .i64 n, .string s, .slice a l.length c] 59)).alloc (.cells #[.pointer none, .slice none 0 0] 88))) := Lib.hid (by
          have := Lib.fresh_isBuilder 88 5 (W.alloc (.cells #[.int .i64 3, .int .i64 n, .string s, .slice a l.length c] 59))
          unfold IsBl; simpa [Lib.byteCells] using this)
        have B2 : Hid (Below W.heap.size W ((W.alloc (.cells #[.int .i64 3, .int .i64 n, .string s, .slice a l.length c] 59)).alloc (.cells #[.pointer none, .slice none 0 0] 88))) := Lib.hid (below_alloc B1.out _)
        clear ht hp h1 c1 c2 c3 hz
        go_enter Tryd.func50, Tryd.ntmps50
        go_wp2_with fail
        generalize ((W.alloc (.cells #[.int .i64 3, .int .i64 n, .string s, .slice a l.length c] 59)).alloc (.cells #[.pointer none, .slice none 0 0] 88)) = V at HBl B2 ⊢
        clear B1 TB
        go_loopw [22] (fun i wr => ∃ j : Nat, j ≤ l.length ∧ i = .int .i64 j ∧ IsBl (W.heap.size + 1) (W.heap.size + 1) (pputL (l.take j)) wr ∧ Below W.heap.size W wr) (fun i _ => l.length - (intOf i).toNat)
        case atStart => exact ⟨0, Nat.zero_le _, rfl, HBl.out, B2.out⟩
        case round =>
          obtain ⟨j, hj, rfl, hBl, hB⟩ := hrel
          have HB := Lib.hid hB
          have HL := Lib.hid hBl
          have hzW : W.heap.size + 1 ≤ wr.heap.size := by
            rcases hBl with h | h
            · exact Nat.le_of_lt h.lt
            · exact Nat.le_of_lt h.lt
          clear HBl B2 hB hBl
          by_cases hlt : j < l.length
          · rcases HR.out with h | ⟨b, off, rfl, hbs, hc⟩
            · omega
            obtain ⟨k', n', s', a', m', c', hvj⟩ := (HV.out j l[j] (List.getElem?_eq_getElem hlt)).form
            obtain ⟨y0, y1, y2, y3⟩ := ((hc j hlt).below HB.out hbs).of hvj
            have HX := Lib.hid (HI.out j l[j] (List.getElem?_eq_getElem hlt))
            rw [hvj] at HX
            have HS := Lib.hid (pputL_snoc l j hlt)
            have hlj := pputL_len l j hlt
            rw [HT.out] at hlj
            obtain ⟨q, hq⟩ : ∃ q, pput l[j] = q := ⟨_, rfl⟩
            rw [hq] at HX HS hlj
            clear hq hc hvj
            have B3 : Hid (Below wr.heap.size wr (wr.alloc (.cells #[.int .i64 k', .int .i64 n', .string s', .slice a' m' c'] 59))) := Lib.hid (below_alloc (Below.refl _ _) _)
            have HA := Lib.hid (HX.out (wr.alloc (.cells #[.int .i64 k', .int .i64 n', .string s', .slice a' m' c'] 59)) (hb.trans ((below_on HB.out B3.out).mono hb.size)) (T.keep (below_on HB.out B3.out)) (by omega))
            go_wp2_with (first | (go_at_call 50; refine HA.out.mono ?_; rintro e' w2 ⟨rfl, hb2⟩; have B4 := Lib.hid (below_on B3.out hb2); clear hb2) | (go_at_call 63; refine (writeString_bl (W.heap.size + 1) (W.heap.size + 1) _ ⟨q.toArray⟩ _ (HL.out.keep B4.out) (by simp [ByteArray.size]; omega) (by have := B4.out.size; omega)).mono ?_; rintro e' w3 ⟨rfl, hw3, hb3⟩; have HL3 := Lib.hid hw3; have HB3 := Lib.hid ((below_on HB.out B4.out).trans (hb3.mono (by omega))); clear hw3 hb3))
            go_roundw
            case rel => exact ⟨j + 1, by omega, by go_num, by rw [HS.out]; exact HL3.out, HB3.out⟩
            case measure => simp [intOf]; omega
          · obtain rfl : j = l.length := by omega
            rw [List.take_length, HT.out] at HL
            have T2 := Lib.hid (T.keep HB.out)
            have hz : (⟨t.toArray⟩ : ByteArray).size = t.length := by simp [ByteArray.size]
            obtain ⟨c1, c2, c3⟩ := C.out
            go_wp2_with (first | (go_at_call 64; refine (string_bl (W.heap.size + 1) (W.heap.size + 1) _ _ HL.out hzW).mono ?_; rintro e' w2 ⟨rfl, hb2⟩; have hbx := hb2; have B4 := Lib.hid (HB.out.trans (hb2.mono (by omega))); clear hb2 hbx) | (go_at_call 65; refine (itoa_any _ _ (by omega) (by omega) (T.keep B4.out)).mono ?_; rintro e' w3 ⟨rfl, hb3⟩; have B5 := Lib.hid (below_on B4.out hb3); clear hb3))
            go_ret
            exact ⟨rfl, B5.out⟩
      · have h3' : (k == 3) = false := by simpa using h3
        obtain ⟨t, ht⟩ : ∃ t, s.data.toList = t := ⟨_, rfl⟩
        have hst : s = ⟨t.toArray⟩ := by rw [← ht]
        have hp : pput (.mk k n s l) = wrapT t 44 := by unfold pput wrapT; simp only [if_neg h1, if_neg h3, ht]
        rw [hp] at hlen ⊢
        obtain ⟨c1, c2, c3⟩ := cat3 t 44 hlen
        have hz : (⟨t.toArray⟩ : ByteArray).size = t.length := by simp [ByteArray.size]
        have hwl := wrapT_len t 44
        have TB := Lib.hid (T.keep B1.out)
        clear ht hp h1 h3
        subst hst
        go_enter Tryd.func50, Tryd.ntmps50
        go_wp2_with (go_at_call 65; refine (itoa_any _ _ (by omega) (by omega) TB.out).mono ?_; rintro e' w2 ⟨rfl, hb2⟩; have B3 := Lib.hid (below_on B1.out hb2); clear hb2)
        go_ret
        exact ⟨rfl, B3.out⟩
end Go.Proofs.YtdpkmcbpeloljaaDoor
