/- Walks of a Builder's copyCheck, WriteString. Walks of strconv.Itoa, FormatInt (by the shelf), of pouch.put. Walk of pouch.Put. -/
import Derived.Test.YthbbfdlacclccaaDoorM6
import Derived.Test.YthbbfdlacclccaaDoorShelf
import Derived.Lib.AppendStr
import Derived.Lib.ItoaNum
namespace Go.Proofs.YthbbfdlacclccaaDoor
open Go.RowKit

theorem Tryd.sizeBuilder : (Tryd.prog.info? 64).map (fun i => i.size) = some 2 := by kernel_rfl
set_option maxRecDepth 100000 in
set_option maxHeartbeats 1000000 in
theorem copyCheck_used (b : Nat) (w : World) (h0 : w.cell? ⟨b, 0, none⟩ = some (.pointer (some ⟨b, 0, none⟩))) :
    Calls Tryd.prog 40 #[.pointer (some ⟨b, 0, none⟩)] w fun e w' => e = .returned (.tuple #[]) ∧ w = w' := by
  obtain ⟨j, hj, _⟩ := Option.map_eq_some_iff.1 Tryd.sizeBuilder
  have kn : ∀ w, (binOp .neq 62 (.pointer (some ⟨b, 0, none⟩)) (.pointer (some ⟨b, 0, none⟩))).run Tryd.prog w = .ok (.bool false) w := fun w => Lib.run_neq_ptr_same w _ Tryd.underlying62 hj
  go_enter Tryd.func40, Tryd.ntmps40
  go_wp2_with fail
  go_end0
  exact ⟨rfl, rfl⟩
set_option maxRecDepth 100000 in
set_option maxHeartbeats 1000000 in
theorem copyCheck_fresh (b : Nat) (w : World) (h0 : w.cell? ⟨b, 0, none⟩ = some (.pointer none)) (hsh : w.shape? b = some (64, 2)) (hfz : w.frozen? ⟨b, 0, none⟩ = false) :
    Calls Tryd.prog 40 #[.pointer (some ⟨b, 0, none⟩)] w fun e w' => e = .returned (.tuple #[]) ∧ w' = w.setCell ⟨b, 0, none⟩ (.pointer (some ⟨b, 0, none⟩)) := by
  obtain ⟨j, hj, hjs⟩ := Option.map_eq_some_iff.1 Tryd.sizeBuilder
  have k1 : (convert 62 85 (.pointer (some ⟨b, 0, none⟩))).run Tryd.prog w = .ok (.pointer (some ⟨b, 0, none⟩)) w := Lib.run_to_unsafe w ⟨b, 0, none⟩ Tryd.underlying62 Tryd.underlying85 hj (by rw [hjs]; decide) hsh (Nat.zero_lt_succ 1)
  have k2 : ∀ w, (callFunc 49 #[.pointer (some ⟨b, 0, none⟩)]).run Tryd.prog w = .ok (.value (.pointer (some ⟨b, 0, none⟩))) w := fun w => by
    rw [run_callFunc_extern Tryd.func49 (by kernel_rfl) (by kernel_rfl) (by kernel_rfl) (e := Extern.AbiNoEscape.same) (by kernel_rfl), Lib.run_noEscape]; rfl
  have k3 : (convert 85 62 (.pointer (some ⟨b, 0, none⟩))).run Tryd.prog w = .ok (.pointer (some ⟨b, 0, none⟩)) w := Lib.run_from_unsafe w ⟨b, 0, none⟩ Tryd.underlying85 Tryd.underlying62 hj hsh (by kernel_rfl)
  clear hj hjs
  have kn : ∀ w, (binOp .neq 62 (.pointer (some ⟨b, 0, none⟩)) (.pointer (some ⟨b, 0, none⟩))).run Tryd.prog w = .ok (.bool false) w := fun w => by
    obtain ⟨j, hj, _⟩ := Option.map_eq_some_iff.1 Tryd.sizeBuilder
    exact Lib.run_neq_ptr_same w _ Tryd.underlying62 hj
  go_enter Tryd.func40, Tryd.ntmps40
  go_wp2_with fail
  go_end0
  exact ⟨rfl, rfl⟩
/-- A Builder in block b, of the call's own from B on, that holds these bytes. -/
def IsBl (B b : Nat) (l : List UInt8) (w : World) : Prop := Lib.IsBuilder 64 5 B b (Lib.byteCells l) w
theorem builderAt_keep {T e : TypeId} {B b : Nat} {p : Value} {bs : List Value} {w w' : World} (h : Lib.BuilderAt T e B b p bs w) (hb : Below w.heap.size w w') : Lib.BuilderAt T e B b p bs w' := by
  obtain ⟨h1, v, h2, h3, h4⟩ := h
  refine ⟨h1, v, ?_, ownsRow_below h3 hb, h4⟩
  rw [hb.block b (Array.getElem?_eq_some_iff.1 h2).1]; exact h2
theorem IsBl.keep {B b : Nat} {l : List UInt8} {w w' : World} (h : IsBl B b l w) (hb : Below w.heap.size w w') : IsBl B b l w' := by
  rcases h with h | h
  · exact Or.inl (builderAt_keep h hb)
  · exact Or.inr (builderAt_keep h hb)
theorem copyCheck_bl (B b : Nat) (l : List UInt8) (w : World) (h : IsBl B b l w) :
    Calls Tryd.prog 40 #[.pointer (some ⟨b, 0, none⟩)] w fun e w' => e = .returned (.tuple #[]) ∧ Lib.BuilderAt 64 5 B b (.pointer (some ⟨b, 0, none⟩)) (Lib.byteCells l) w' ∧ Below B w w' := by
  rcases h with h | h
  · refine (copyCheck_fresh b w h.cell0 h.shape h.frozen0).mono ?_
    rintro e w' ⟨rfl, rfl⟩
    exact ⟨rfl, h.used _, (Below.refl B w).setCell (p := ⟨b, 0, none⟩) h.1 _⟩
  · refine (copyCheck_used b w h.cell0).mono ?_
    rintro e w' ⟨rfl, rfl⟩
    exact ⟨rfl, h, Below.refl _ _⟩
set_option maxRecDepth 100000 in
set_option maxHeartbeats 1000000 in
theorem writeString_bl (B b : Nat) (l : List UInt8) (s : ByteArray) (w : World) (h : IsBl B b l w) (hlen : l.length + s.size ≤ 140737488355328) (hBw : B ≤ w.heap.size) :
    Calls Tryd.prog 29 #[.pointer (some ⟨b, 0, none⟩), .string s] w fun e w' => e = .returned (.tuple #[.int .i64 s.size, .nilIface]) ∧ IsBl B b (l ++ s.data.toList) w' ∧ Below B w w' := by
  obtain ⟨i0, hi, hz0, hz1, hz2⟩ := info_parts Tryd.infoU8
  have HI := Lib.hid hi
  have HZ := Lib.hid (And.intro hz0 (And.intro hz1 hz2))
  clear hi hz0 hz1 hz2
  have hs63 : (s.size : Int) ≤ 9223372036854775807 := by omega
  go_enter Tryd.func29, Tryd.ntmps29
  go_wp2_with (go_at_call 40; refine (copyCheck_bl B b l _ h).mono ?_)
  rintro e w1 ⟨rfl, h1, hb1⟩
  have hs1 := hb1.size
  have HB1 := Lib.hid hb1
  have H1 := Lib.hid h1
  obtain ⟨hB, v, hbk, hown, hne⟩ := h1
  have hll : (Lib.byteCells l).length = l.length := by simp [Lib.byteCells]
  rw [hll] at hown
  have HO := Lib.hid hown
  have HN := Lib.hid hne
  have HK := Lib.hid hbk
  have c1 : w1.cell? ⟨b, 1, none⟩ = some v := by rw [Lib.cell_of_heap hbk]; rfl
  clear hown hne hbk hb1 hll
  go_wp2_with (at_builtin; refine Lib.wpList_append_own_string _ rfl _ _ 39 9 rfl B 5 i0 Tryd.underlying39 Tryd.underlying9 HI.out HZ.out.1 HZ.out.2.1 HZ.out.2.2 _ _ _ rfl HO.out s rfl ?c3 ?c4 ?c5 ?_)
  case c3 => unfold maxLen; omega
  case c4 => omega
  case c5 => omega
  intro v' w2 hown' hgrow _
  have hlt : b < w1.heap.size := (Array.getElem?_eq_some_iff.1 HK.out).1
  have hb2 : w2.heap[b]? = some (.cells #[.pointer (some ⟨b, 0, none⟩), v] 64 (0, 0)) := by
    rw [hgrow.block b hlt (fun e => HN.out e.symm)]; exact HK.out
  have d1 : w2.cell? ⟨b, 1, none⟩ = some v := by rw [Lib.cell_of_heap hb2]; rfl
  have f1 : w2.frozen? ⟨b, 1, none⟩ = false := Lib.frozen_of_heap hb2 1
  obtain ⟨a', c', rfl, _⟩ := ownsRow_row hown'
  have HB2 := Lib.hid (below_of_grown HO.out (show B ≤ w1.heap.size by omega) hgrow)
  have HO' := Lib.hid hown'
  have HK2 := Lib.hid hb2
  clear hgrow hown' hb2
  go_wp2_with fail
  go_ret2
  refine ⟨rfl, Or.inr ?_, (HB1.out.trans HB2.out).setCell (p := ⟨b, 1, none⟩) hB _⟩
  have e : Lib.byteCells (l ++ s.data.toList) = Lib.byteCells l ++ Lib.strCells s := by unfold Lib.byteCells Lib.strCells; rw [List.map_append]
  rw [e]
  refine Lib.BuilderAt.put hB HK2.out ?_ (by decide)
  have el : (Lib.byteCells l ++ Lib.strCells s).length = l.length + s.size := by simp [Lib.byteCells, Lib.strCells]
  rw [el]; exact HO'.out
theorem string_bl (B b : Nat) (l : List UInt8) (w : World) (h : IsBl B b l w) (hBw : B ≤ w.heap.size) :
    Calls Tryd.prog 30 #[.pointer (some ⟨b, 0, none⟩)] w fun e w' => e = .returned (.string ⟨l.toArray⟩) ∧ Below B w w' := Tryd.Builder_String_any B b l w h hBw
end Go.Proofs.YthbbfdlacclccaaDoor
namespace Go.Proofs.YthbbfdlacclccaaDoor
open Go.RowKit Go.Sort

/-- The library's table of powers stands as it was laid. -/
def Tab (w : World) : Prop := Lib.TabIs Tryd.prog w "internal/strconv.uint64pow10" .u64 Lib.pow10Tab
theorem Tab.keep {w w' : World} (h : Tab w) (hb : Below w.heap.size w w') : Tab w' := by
  unfold Tab Lib.TabIs World.var? at *
  cases hg : Tryd.prog.globalNamed "internal/strconv.uint64pow10" with
  | none => rw [hg] at h; simp at h
  | some g =>
    rw [hg] at h
    simp only [Option.bind_some] at h ⊢
    by_cases hlt : g < w.heap.size
    · rw [hb.block g hlt]; exact h
    · rw [Array.getElem?_eq_none (by omega)] at h; simp at h
theorem below_grow (w : World) (n : Nat) (os : Array Obj) : Below w.heap.size w (grow (w.drewN n) os) :=
  ⟨rfl, rfl, rfl, by simp [grow, World.drewN], fun k hk => by simp [grow, World.drewN, Array.getElem?_append, hk]⟩
theorem itoa_any (n : Int) (w : World) (h0 : -9223372036854775808 ≤ n) (h1 : n ≤ 9223372036854775807) (T : Tab w) :
    Calls Tryd.prog 31 #[.int .i64 n] w fun e w' => e = .returned (.string ⟨(Lib.itoa n).toArray⟩) ∧ Below w.heap.size w w' := by
  refine (Tryd.strconv_Itoa n h0 h1 w T).mono ?_
  rintro e w' ⟨rfl, k, os, rfl⟩
  exact ⟨rfl, below_grow _ _ _⟩
theorem formatInt_any (n : Int) (w : World) (h0 : -9223372036854775808 ≤ n) (h1 : n ≤ 9223372036854775807) (T : Tab w) :
    Calls Tryd.prog 28 #[.int .i64 n, .int .i64 10] w fun e w' => e = .returned (.string ⟨(Lib.itoa n).toArray⟩) ∧ Below w.heap.size w w' := by
  refine (Tryd.strconv_FormatInt_10 n h0 h1 w T).mono ?_
  rintro e w' ⟨rfl, k, os, rfl⟩
  exact ⟨rfl, below_grow _ _ _⟩
mutual
/-- A value's text. -/
def pput : PV → List UInt8
  | .mk k n s l => Lib.itoa (if k = 1 then Lib.itoa n else if k = 3 then pputL l else s.data.toList).length ++ (58 :: ((if k = 1 then Lib.itoa n else if k = 3 then pputL l else s.data.toList) ++ [if k = 1 then 35 else if k = 3 then 93 else 44]))
def pputL : List PV → List UInt8
  | [] => []
  | x :: t => pput x ++ pputL t
end
theorem pputL_append (l l' : List PV) : pputL (l ++ l') = pputL l ++ pputL l' := by
  induction l with
  | nil => rfl
  | cons x t ih => show pput x ++ pputL (t ++ l') = (pput x ++ pputL t) ++ pputL l'; rw [ih, List.append_assoc]
theorem pputL_one (x : PV) : pputL [x] = pput x := by show pput x ++ [] = _; simp
theorem pputL_snoc (l : List PV) (j : Nat) (h : j < l.length) : pputL (l.take (j + 1)) = pputL (l.take j) ++ pput l[j] := by
  rw [take_next l j h, pputL_append, pputL_one]
theorem pputL_len (l : List PV) (j : Nat) (h : j < l.length) : (pputL (l.take j)).length + (pput l[j]).length ≤ (pputL l).length := by
  have : pputL l = pputL (l.take (j + 1)) ++ pputL (l.drop (j + 1)) := by rw [← pputL_append, List.take_append_drop]
  rw [this, pputL_snoc l j h, List.length_append, List.length_append]
  omega
theorem decDigits_pos (u : Nat) : 1 ≤ (Lib.decDigits u).length := by
  rw [Lib.decDigits]
  split <;> simp
/-- The text's parts. -/
def wrapT (t : List UInt8) (e : UInt8) : List UInt8 := Lib.itoa t.length ++ (58 :: (t ++ [e]))
theorem wrapT_len (t : List UInt8) (e : UInt8) : t.length + (Lib.itoa t.length).length + 2 = (wrapT t e).length := by unfold wrapT; simp; omega
theorem cat3 (t : List UInt8) (e : UInt8) (h : (wrapT t e).length ≤ 140737488355328) : (∀ w, (Op.stringOp .add ⟨(Lib.itoa t.length).toArray⟩ ⟨#[58]⟩).run Tryd.prog w = .ok (.string ⟨(Lib.itoa t.length ++ [58]).toArray⟩) w) ∧
    (∀ w, (Op.stringOp .add ⟨(Lib.itoa t.length ++ [58]).toArray⟩ ⟨t.toArray⟩).run Tryd.prog w = .ok (.string ⟨(Lib.itoa t.length ++ 58 :: t).toArray⟩) w) ∧
    (∀ w, (Op.stringOp .add ⟨(Lib.itoa t.length ++ 58 :: t).toArray⟩ ⟨#[e]⟩).run Tryd.prog w = .ok (.string ⟨(wrapT t e).toArray⟩) w) := by
  have hl := wrapT_len t e
  refine ⟨fun w => run_cat _ [58] (by simp; omega) w, fun w => ?_, fun w => ?_⟩
  · have := run_cat (P := Tryd.prog) (Lib.itoa t.length ++ [58]) t (by simp; omega) w
    rw [this]; simp
  · have := run_cat (P := Tryd.prog) (Lib.itoa t.length ++ 58 :: t) [e] (by simp; omega) w
    rw [this]
    unfold wrapT
    simp
set_option maxRecDepth 100000 in
set_option maxHeartbeats 3200000 in
theorem put_pv {w : World} {x : PV} {v : Value} (h : PAt w x v) : ∀ (W : World), Below w.heap.size w W → Tab W → (pput x).length ≤ 140737488355328 →
    Calls Tryd.prog 19 #[v] W fun e w' => e = .returned (.string ⟨(pput x).toArray⟩) ∧ Below W.heap.size W w' := by
  induction h with
  | mk k n s l a c vs hk hn hs hl hr hv ih =>
    intro W hb T hlen
    have HR := Lib.hid (hr.below hb (Nat.le_refl _))
    have HI := Lib.hid ih
    have HV := Lib.hid hv
    have B1 : Hid (Below W.heap.size W (W.alloc (.cells #[.int .i64 k, .int .i64 n, .string s, .slice a l.length c] 27))) := Lib.hid (below_alloc (Below.refl _ _) _)
    clear hr ih hv
    by_cases h1 : k = 1
    · subst h1
      obtain ⟨t, ht⟩ : ∃ t, Lib.itoa n = t := ⟨_, rfl⟩
      have hp : pput (.mk 1 n s l) = wrapT t 35 := by unfold pput wrapT; simp [ht]
      rw [hp] at hlen ⊢
      obtain ⟨c1, c2, c3⟩ := cat3 t 35 hlen
      have hz : (⟨t.toArray⟩ : ByteArray).size = t.length := by simp [ByteArray.size]
      have hwl := wrapT_len t 35
      have HT := Lib.hid ht
      have TB := Lib.hid (T.keep B1.out)
      clear ht hp
      go_enter Tryd.func19, Tryd.ntmps19
      go_wp2_with (first | (go_at_call 28; refine (formatInt_any n _ hn.1 hn.2 TB.out).mono ?_; rw [HT.out]; rintro e' w1 ⟨rfl, hb1⟩; have B2 := Lib.hid (below_on B1.out hb1); have T2 := Lib.hid (TB.out.keep hb1); clear hb1) | (go_at_call 31; refine (itoa_any _ _ (by omega) (by omega) T2.out).mono ?_; rintro e' w2 ⟨rfl, hb2⟩; have B3 := Lib.hid (below_on B2.out hb2); clear hb2))
      go_ret
      exact ⟨rfl, B3.out⟩
    · have h1' : (k == 1) = false := by simpa using h1
      by_cases h3 : k = 3
      · subst h3
        obtain ⟨t, ht⟩ : ∃ t, pputL l = t := ⟨_, rfl⟩
        have hp : pput (.mk 3 n s l) = wrapT t 93 := by unfold pput wrapT; simp [ht]
        rw [hp] at hlen ⊢
        obtain ⟨c1, c2, c3⟩ := cat3 t 93 hlen
        have hz : (⟨t.toArray⟩ : ByteArray).size = t.length := by simp [ByteArray.size]
        have hwl := wrapT_len t 93
        have HT := Lib.hid ht
        have TB := Lib.hid (T.keep B1.out)
        have C := Lib.hid (And.intro c1 (And.intro c2 c3))
        have HBl : Hid (IsBl (W.heap.size + 1) (W.heap.size + 1) [] ((W.alloc (.cells #[.int .i64 3, .int .i64 n, .string s, .slice a l.length c] 27)).alloc (.cells #[.pointer none, .slice none 0 0] 64))) := Lib.hid (by
          have := Lib.fresh_isBuilder 64 5 (W.alloc (.cells #[.int .i64 3, .int .i64 n, .string s, .slice a l.length c] 27))
          unfold IsBl; simpa [Lib.byteCells] using this)
        have B2 : Hid (Below W.heap.size W ((W.alloc (.cells #[.int .i64 3, .int .i64 n, .string s, .slice a l.length c] 27)).alloc (.cells #[.pointer none, .slice none 0 0] 64))) := Lib.hid (below_alloc B1.out _)
        clear ht hp h1 c1 c2 c3 hz
        go_enter Tryd.func19, Tryd.ntmps19
        go_wp2_with fail
        generalize ((W.alloc (.cells #[.int .i64 3, .int .i64 n, .string s, .slice a l.length c] 27)).alloc (.cells #[.pointer none, .slice none 0 0] 64)) = V at HBl B2 ⊢
        clear B1 TB
        go_loopw [22] (fun i wr => ∃ j : Nat, j ≤ l.length ∧ i = .int .i64 j ∧ IsBl (W.heap.size + 1) (W.heap.size + 1) (pputL (l.take j)) wr ∧ Below W.heap.size W wr) (fun i _ => l.length - (intOf i).toNat)
        case atStart => exact ⟨0, Nat.zero_le _, rfl, HBl.out, B2.out⟩
        case round =>
          obtain ⟨j, hj, rfl, hBl, hB⟩ := hrel
          have HB := Lib.hid hB
          have HL := Lib.hid hBl
          have hzW : W.heap.size + 1 ≤ wr.heap.size := by
            rcases hBl with h | h
            · exact Nat.le_of_lt h.lt
            · exact Nat.le_of_lt h.lt
          clear HBl B2 hB hBl
          by_cases hlt : j < l.length
          · rcases HR.out with h | ⟨b, off, rfl, hbs, hc⟩
            · omega
            obtain ⟨k', n', s', a', m', c', hvj⟩ := (HV.out j l[j] (List.getElem?_eq_getElem hlt)).form
            obtain ⟨y0, y1, y2, y3⟩ := ((hc j hlt).below HB.out hbs).of hvj
            have HX := Lib.hid (HI.out j l[j] (List.getElem?_eq_getElem hlt))
            rw [hvj] at HX
            have HS := Lib.hid (pputL_snoc l j hlt)
            have hlj := pputL_len l j hlt
            rw [HT.out] at hlj
            obtain ⟨q, hq⟩ : ∃ q, pput l[j] = q := ⟨_, rfl⟩
            rw [hq] at HX HS hlj
            clear hq hc hvj
            have B3 : Hid (Below wr.heap.size wr (wr.alloc (.cells #[.int .i64 k', .int .i64 n', .string s', .slice a' m' c'] 27))) := Lib.hid (below_alloc (Below.refl _ _) _)
            have HA := Lib.hid (HX.out (wr.alloc (.cells #[.int .i64 k', .int .i64 n', .string s', .slice a' m' c'] 27)) (hb.trans ((below_on HB.out B3.out).mono hb.size)) (T.keep (below_on HB.out B3.out)) (by omega))
            go_wp2_with (first | (go_at_call 19; refine HA.out.mono ?_; rintro e' w2 ⟨rfl, hb2⟩; have B4 := Lib.hid (below_on B3.out hb2); clear hb2) | (go_at_call 29; refine (writeString_bl (W.heap.size + 1) (W.heap.size + 1) _ ⟨q.toArray⟩ _ (HL.out.keep B4.out) (by simp [ByteArray.size]; omega) (by have := B4.out.size; omega)).mono ?_; rintro e' w3 ⟨rfl, hw3, hb3⟩; have HL3 := Lib.hid hw3; have HB3 := Lib.hid ((below_on HB.out B4.out).trans (hb3.mono (by omega))); clear hw3 hb3))
            go_roundw
            case rel => exact ⟨j + 1, by omega, by go_num, by rw [HS.out]; exact HL3.out, HB3.out⟩
            case measure => simp [intOf]; omega
          · obtain rfl : j = l.length := by omega
            rw [List.take_length, HT.out] at HL
            have T2 := Lib.hid (T.keep HB.out)
            have hz : (⟨t.toArray⟩ : ByteArray).size = t.length := by simp [ByteArray.size]
            obtain ⟨c1, c2, c3⟩ := C.out
            go_wp2_with (first | (go_at_call 30; refine (string_bl (W.heap.size + 1) (W.heap.size + 1) _ _ HL.out hzW).mono ?_; rintro e' w2 ⟨rfl, hb2⟩; have hbx := hb2; have B4 := Lib.hid (HB.out.trans (hb2.mono (by omega))); clear hb2 hbx) | (go_at_call 31; refine (itoa_any _ _ (by omega) (by omega) (T.keep B4.out)).mono ?_; rintro e' w3 ⟨rfl, hb3⟩; have B5 := Lib.hid (below_on B4.out hb3); clear hb3))
            go_ret
            exact ⟨rfl, B5.out⟩
      · have h3' : (k == 3) = false := by simpa using h3
        obtain ⟨t, ht⟩ : ∃ t, s.data.toList = t := ⟨_, rfl⟩
        have hst : s = ⟨t.toArray⟩ := by rw [← ht]
        have hp : pput (.mk k n s l) = wrapT t 44 := by unfold pput wrapT; simp only [if_neg h1, if_neg h3, ht]
        rw [hp] at hlen ⊢
        obtain ⟨c1, c2, c3⟩ := cat3 t 44 hlen
        have hz : (⟨t.toArray⟩ : ByteArray).size = t.length := by simp [ByteArray.size]
        have hwl := wrapT_len t 44
        have TB := Lib.hid (T.keep B1.out)
        clear ht hp h1 h3
        subst hst
        go_enter Tryd.func19, Tryd.ntmps19
        go_wp2_with (go_at_call 31; refine (itoa_any _ _ (by omega) (by omega) TB.out).mono ?_; rintro e' w2 ⟨rfl, hb2⟩; have B3 := Lib.hid (below_on B1.out hb2); clear hb2)
        go_ret
        exact ⟨rfl, B3.out⟩
end Go.Proofs.YthbbfdlacclccaaDoor
namespace Go.Proofs.YthbbfdlacclccaaDoor
open Go.RowKit

/-- What Put writes. -/
def pPut (x : PV) : List UInt8 := if pmay x = true ∧ Lib.indexByte (pput x) 58 ≤ 7 then pput x else []
theorem indexByte58 (s : ByteArray) (w : World) : Calls Tryd.prog 20 #[.string s, .int .u8 58] w fun e w' => e = .returned (.int .i64 (Lib.indexByte s.data.toList 58)) ∧ w = w' := by
  refine (Tryd.strings_IndexByte s 58 w).mono ?_
  rintro e w' ⟨rfl, rfl⟩
  exact ⟨rfl, rfl⟩
set_option maxRecDepth 100000 in
set_option maxHeartbeats 1600000 in
theorem Put_pv {w : World} {x : PV} {v : Value} (h : PAt w x v) (T : Tab w) (hlen : pmay x = true → (pput x).length ≤ 140737488355328) :
    Calls Tryd.prog 6 #[v] w fun e w' => e = .returned (.string ⟨(pPut x).toArray⟩) ∧ Below w.heap.size w w' := by
  obtain ⟨k, n, s, a, m, c, rfl⟩ := h.form
  have B1 : Hid (Below w.heap.size w (w.alloc (.cells #[.int .i64 k, .int .i64 n, .string s, .slice a m c] 27))) := Lib.hid (below_alloc (Below.refl _ _) _)
  have HM := Lib.hid (may_pv (h.keep B1.out))
  have HP := Lib.hid (put_pv h)
  have x0 : (w.alloc (.cells #[.int .i64 k, .int .i64 n, .string s, .slice a m c] 27)).cell? ⟨w.heap.size, 0, none⟩ = some (.int .i64 k) := by simp [go_sem]
  have x1 : (w.alloc (.cells #[.int .i64 k, .int .i64 n, .string s, .slice a m c] 27)).cell? ⟨w.heap.size, 1, none⟩ = some (.int .i64 n) := by simp [go_sem]
  have x2 : (w.alloc (.cells #[.int .i64 k, .int .i64 n, .string s, .slice a m c] 27)).cell? ⟨w.heap.size, 2, none⟩ = some (.string s) := by simp [go_sem]
  have x3 : (w.alloc (.cells #[.int .i64 k, .int .i64 n, .string s, .slice a m c] 27)).cell? ⟨w.heap.size, 3, none⟩ = some (.slice a m c) := by simp [go_sem]
  have X := Lib.hid (And.intro x0 (And.intro x1 (And.intro x2 x3)))
  clear x0 x1 x2 x3 h
  obtain ⟨q, hq⟩ : ∃ q, pmay x = q := ⟨_, rfl⟩
  have HQ := Lib.hid hq
  rw [hq] at HM hlen
  clear hq
  cases q
  · have HE := Lib.hid (show pPut x = [] by unfold pPut; rw [HQ.out, if_neg (by simp)])
    go_enter Tryd.func6, Tryd.ntmps6
    go_wp2_with (go_at_call 18; refine HM.out.mono ?_; rintro e' w1 ⟨rfl, hb1⟩; have B2 := Lib.hid (below_on B1.out hb1); clear hb1)
    go_ret
    rw [HE.out]
    exact ⟨rfl, B2.out⟩
  · have hl := hlen rfl
    obtain ⟨t, ht⟩ : ∃ t, pput x = t := ⟨_, rfl⟩
    rw [ht] at HP hl
    obtain ⟨i, hi⟩ : ∃ i, Lib.indexByte t 58 = i := ⟨_, rfl⟩
    have HI := Lib.hid hi
    have HE := Lib.hid (show pPut x = if i ≤ 7 then t else [] by unfold pPut; rw [HQ.out, ht, hi]; simp)
    clear hlen ht hi
    by_cases h7 : i ≤ 7
    · have h7' : decide ((7 : Int) < i) = false := decide_eq_false (by omega)
      rw [if_pos h7] at HE
      go_enter Tryd.func6, Tryd.ntmps6
      go_wp2_with (first | (go_at_call 18; refine HM.out.mono ?_; rintro e' w1 ⟨rfl, hb1⟩; have B2 := Lib.hid (below_on B1.out hb1); have y0 := cell_keep hb1 X.out.1; have y1 := cell_keep hb1 X.out.2.1; have y2 := cell_keep hb1 X.out.2.2.1; have y3 := cell_keep hb1 X.out.2.2.2; clear hb1) | (go_at_call 19; refine (HP.out _ B2.out (T.keep B2.out) hl).mono ?_; rintro e' w2 ⟨rfl, hb2⟩; have B3 := Lib.hid (below_on B2.out hb2); clear hb2) | (go_at_call 20; refine (indexByte58 _ _).mono ?_; rw [HI.out]; rintro e' w3 ⟨rfl, rfl⟩))
      go_ret
      rw [HE.out]
      exact ⟨rfl, B3.out⟩
    · have h7' : decide ((7 : Int) < i) = true := decide_eq_true (by omega)
      rw [if_neg h7] at HE
      go_enter Tryd.func6, Tryd.ntmps6
      go_wp2_with (first | (go_at_call 18; refine HM.out.mono ?_; rintro e' w1 ⟨rfl, hb1⟩; have B2 := Lib.hid (below_on B1.out hb1); have y0 := cell_keep hb1 X.out.1; have y1 := cell_keep hb1 X.out.2.1; have y2 := cell_keep hb1 X.out.2.2.1; have y3 := cell_keep hb1 X.out.2.2.2; clear hb1) | (go_at_call 19; refine (HP.out _ B2.out (T.keep B2.out) hl).mono ?_; rintro e' w2 ⟨rfl, hb2⟩; have B3 := Lib.hid (below_on B2.out hb2); clear hb2) | (go_at_call 20; refine (indexByte58 _ _).mono ?_; rw [HI.out]; rintro e' w3 ⟨rfl, rfl⟩))
      go_ret
      rw [HE.out]
      exact ⟨rfl, B3.out⟩
end Go.Proofs.YthbbfdlacclccaaDoor
