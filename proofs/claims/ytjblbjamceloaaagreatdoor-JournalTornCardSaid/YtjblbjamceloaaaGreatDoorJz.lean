/- JournalTorn: the walk. -/
import Derived.Test.YtjblbjamceloaaaGreatDoorJy
import Derived.Test.YtjblbjamceloaaaGreatDoorJt
import Derived.Deep.CutBlock
import Derived.Deep.DeepMust
import Derived.Deep.DeepCutAuto
namespace Go.Proofs.YtjblbjamceloaaaGreatDoor
open Go.RowKit

theorem clone_own {w : World} {a : Option Addr} {c : Nat} {ss : List ByteArray} (h : RowAt w a (ss.map .string)) {n : Nat} (hn : ss.length = n) (hl : n < 1000000) :
    Calls Tryz.prog 36 #[.slice a n c] w fun e w' => ∃ a' c', e = .returned (.slice a' n c') ∧ MidRow w' (.slice a' ss.length c') ss ∧ (∀ q ∈ ownL (.slice a' ss.length c'), w.heap.size ≤ q) ∧ Below w.heap.size w w' := by
  subst hn
  rcases a with _ | a
  · refine (Tryz.slices_Clone_string_nil ss.length c w).mono ?_
    rintro e w' ⟨rfl, rfl⟩
    rcases h with h | ⟨q, o, e, _⟩
    · have : ss = [] := by simpa using h
      subst this
      exact ⟨none, 0, rfl, Or.inl ⟨rfl, rfl⟩, by intro q hq; exact absurd hq (by simp [ownL, Value.ownBlock]), Below.refl _ _⟩
    · cases e
  · rcases h with h | ⟨q, o, e, hq, hc⟩
    · have : ss = [] := by simpa using h
      subst this
      refine (Tryz.slices_Clone_string_zero a c w).mono ?_
      rintro e w' ⟨v', rfl, hown, -, hb⟩
      obtain ⟨h1, h2⟩ := midrow_of_owns (ss := []) hown
      obtain ⟨a', c', rfl⟩ := h1.form
      exact ⟨a', c', rfl, h1, h2, hb⟩
    · cases e
      refine (Tryz.slices_Clone_string q o ss.length c ss w (Nat.le_refl _) (by omega) (fun j hj => hc j _ (by rw [List.getElem?_map, List.getElem?_eq_getElem hj, List.getD_eq_getElem?_getD, List.getElem?_eq_getElem hj]; rfl))).mono ?_
      rintro e w' ⟨v', rfl, hown, -, hb⟩
      rw [List.take_length] at hown
      obtain ⟨h1, h2⟩ := midrow_of_owns hown
      obtain ⟨a', c', rfl⟩ := h1.form
      exact ⟨a', c', rfl, h1, h2, hb⟩
set_option maxRecDepth 100000 in
theorem records_own {w : World} {J g : Nat} {v : Value} {first : ByteArray} {recs : List ByteArray} {down : Bool} (h : JAt w J g v first recs down) {n : Nat} (hn : recs.length = n) (hl : n < 1000000) :
    Calls Tryz.prog 16 #[.pointer (some ⟨J, 0, none⟩)] w fun e w' => ∃ a c, e = .returned (.slice a n c) ∧ MidRow w' (.slice a recs.length c) recs ∧ (∀ q ∈ ownL (.slice a recs.length c), w.heap.size ≤ q) ∧ Below w.heap.size w w' := by
  subst hn
  obtain ⟨a, c, rfl⟩ := h.mr.form
  have HC := Lib.hid (clone_own (c := c) h.mr.row rfl hl)
  have c2 := h.c2
  clear h
  go_enter Tryz.func16, Tryz.ntmps16
  go_wp2_with (go_at_call 36; refine HC.out.mono ?_; rintro e' w1 ⟨a1, c1, rfl, hr, hq, hb⟩; have HR := Lib.hid hr; have HQ := Lib.hid hq; have HB := Lib.hid hb; clear hr hb hq)
  go_ret
  exact ⟨_, _, rfl, HR.out, HQ.out, HB.out⟩
theorem cell_thru {w w' : World} (k : Below w.heap.size w w') {p : Addr} {x : Value} (h : w.cell? p = some x) : w'.cell? p = some x := (Only.of_below k).cellK (S := []) (by simp) h
theorem below_to {w : World} {W : World} (h : Below w.heap.size w W) : Below w.drew.heap.size w.drew W := ⟨h.os, h.tape, h.output, h.size, h.block⟩
/-- 'append(nil, row...)' at a step of a region that draws its order. -/
theorem step_copy {w : World} {ops : Array Oper} {o : Oper} {a : Act} {K : Act → World → Prop} {Q : Exit → Act → World → Prop} {E : Prop} (hw : Region.wanted o (yielded ops a.tmps) = true) (s x : Operand)
    (ho : o.op = .call { callee := .builtin .append, args := #[s, x], argTypes := #[30, 30] }) (hs : a.eval s = .slice none 0 0) (ad : Option Addr) (n c : Nat) (ss : List ByteArray) (hx : a.eval x = .slice ad n c) (hn : ss.length = n) (hr : RowAt w ad (ss.map .string)) (ha : ad = none → ss = []) (hl : n < 1000000)
    (h : ∀ a' c' w', MidRow w' (.slice a' ss.length c') ss → Below w.heap.size w w' → (∀ q ∈ ownL (.slice a' ss.length c'), w.heap.size ≤ q) → K (a.put o.dst (.slice a' n c')) w') :
    if Region.wanted o (yielded ops a.tmps) = true then Oper.wp Tryz.prog o a w K Q else E := by
  subst hn
  rw [if_pos hw]
  obtain ⟨v', w', hrun, r1, r2, r3⟩ := copy_row (c := c) hr ha hl o.type
  obtain ⟨a', c', rfl⟩ := r1.form
  unfold Oper.wp execOp
  simp only [ho, resolve, invoke, builtin, Sem.run_bind, Sem.run_pure, Result.andThen_ok, List.map_toArray, List.map_cons, List.map_nil, hs, hx, hrun]
  exact h _ _ _ r1 r2 r3
/-- One text more behind a row, at a step of a region that draws its order. -/
theorem step_more {w : World} {ops : Array Oper} {o : Oper} {a : Act} {K : Act → World → Prop} {Q : Exit → Act → World → Prop} {E : Prop} (hw : Region.wanted o (yielded ops a.tmps) = true) (s x : Operand)
    (ho : o.op = .call { callee := .builtin .append, args := #[s, x], argTypes := #[30, 30] }) (a0 : Option Addr) (n c0 : Nat) (ss : List ByteArray) (hs : a.eval s = .slice a0 n c0) (hn : ss.length = n) (hm : MidRow w (.slice a0 ss.length c0) ss) (u : ByteArray) (b : Nat) (hx : a.eval x = .slice (some ⟨b, 0, none⟩) 1 1) (hb : w.cell? ⟨b, 0, none⟩ = some (.string u)) (hl : n < 1000000)
    (h : ∀ a' c' w', MidRow w' (.slice a' (ss ++ [u]).length c') (ss ++ [u]) → Only (ownL (.slice a0 ss.length c0)) w w' → (∀ q ∈ ownL (.slice a' (ss ++ [u]).length c'), q ∈ ownL (.slice a0 ss.length c0) ∨ w.heap.size ≤ q) → K (a.put o.dst (.slice a' (n + 1) c')) w') :
    if Region.wanted o (yielded ops a.tmps) = true then Oper.wp Tryz.prog o a w K Q else E := by
  subst hn
  rw [if_pos hw]
  obtain ⟨v', w', hrun, r1, r2, r3⟩ := hm.append u b hb hl o.type
  obtain ⟨a', c', rfl⟩ := r1.form
  unfold Oper.wp execOp
  simp only [ho, resolve, invoke, builtin, Sem.run_bind, Sem.run_pure, Result.andThen_ok, List.map_toArray, List.map_cons, List.map_nil, hs, hx, hrun]
  have h2 := h a' c' w' r1 r2 r3
  rw [List.length_append] at *
  exact h2
theorem dj_fresh {w0 W : World} {v : Value} {ss : List ByteArray} {l : List Nat} (hq : ∀ q ∈ l, W.heap.size ≤ q) (h : Below w0.heap.size w0 W) (hm : MidRow w0 v ss) : (∀ q ∈ l, q ∉ ownL v) ∧ (∀ q ∈ ownL v, q ∉ l) := by
  have h0 := h.size
  refine ⟨fun q h1 h2 => ?_, fun q h2 h1 => ?_⟩
  · have := hq q h1; have := hm.lt q h2; omega
  · have := hq q h1; have := hm.lt q h2; omega
theorem below_thru {w0 W w2 : World} (hb : Below W.heap.size W w2) (h : Below w0.heap.size w0 W) : Below w0.heap.size w0 w2 := below_on h hb
theorem keep_thru {w0 W w2 : World} {v : Value} {ss : List ByteArray} {l : List Nat} (ho : Only l W w2) (hd : ∀ q ∈ ownL v, q ∉ l) (h : Below w0.heap.size w0 W) (hm : MidRow w0 v ss) : MidRow w2 v ss := (hm.low h).keep ho hd
theorem only_thru {w0 W w2 : World} {l : List Nat} (ho : Only l W w2) (hl : ∀ q ∈ l, w0.heap.size ≤ q) (h : Below w0.heap.size w0 W) : Below w0.heap.size w0 w2 := Only.under h ho hl
theorem fresh_thru {w0 W : World} {l : List Nat} (hq : ∀ q ∈ l, W.heap.size ≤ q) (h : Below w0.heap.size w0 W) : ∀ q ∈ l, w0.heap.size ≤ q := fun q h1 => Nat.le_trans h.size (hq q h1)
theorem IntRow.get {w : World} {a : Option Addr} {c : Nat} {es : List Int} (h : IntRow w (.slice a es.length c) es) {i : Nat} (hi : i < es.length) : ∃ q o, a = some ⟨q, o, none⟩ ∧ w.cell? ⟨q, o + i, none⟩ = some (.int .i64 es[i]) := by
  rcases h with ⟨_, h⟩ | ⟨q, o, cap, e, _, _, _, h3, _⟩
  · subst h; simp at hi
  · simp only [Value.slice.injEq] at e
    exact ⟨q, o, e.1, h3 i _ (List.getElem?_eq_getElem hi)⟩
set_option maxRecDepth 100000 in
set_option maxHeartbeats 6400000 in
theorem journalTorn_neg (a : Option Addr) (c : Nat) (l : Nat) (n : Int) (hn : n < 0) (w : World) (LA : Laid w) :
    Calls Tryz.prog 4 #[.slice a l c, .int .i64 n] w fun e w' => e = .returned (.bool true) ∧ Below w.heap.size w w' := by
  have d0 : decide (n < 0) = true := decide_eq_true hn
  have HL := Lib.hid LA
  clear LA
  go_enter Tryz.func4, Tryz.ntmps4
  go_wp2_with fail
  refine (begun4_any w HL.out).mono ?_
  rintro e w1 ⟨rfl, hb⟩
  have HB := Lib.hid hb
  clear hb
  go_wp2_with fail
  refine (new_S (w0 := w) HB.out 1048576 1048576 (by decide)).mono ?_
  rintro e w2 ⟨g, b, rfl, hs, -, -, -⟩
  have HS := Lib.hid hs
  clear hs
  go_wp2_with fail
  refine (open_fresh HL.out HS.out (by decide) (by decide)).mono ?_
  rintro e w3 ⟨J, v, L, rfl, hj, -, -⟩
  have HJ := Lib.hid hj
  clear hj HS HB
  go_wp2_with fail
  go_ret
  exact ⟨rfl, HJ.out.js.ch.2.1⟩
set_option maxRecDepth 100000 in
set_option maxHeartbeats 12800000 in
theorem journalTorn_main (n : Nat) (hn : n ≤ 9223372036854775807) (a : Option Addr) (c : Nat) (z : List ByteArray) (w : World) (hr : RowAt w a (z.map .string)) (hs : ∀ s ∈ z, s.size ≤ 9223372036854775807) (hl : z.length ≤ 9223372036854775807) (LA : Laid w) :
    Calls Tryz.prog 4 #[.slice a z.length c, .int .i64 (n : Int)] w fun e w' => e = .returned (.bool true) ∧ Below w.heap.size w w' := by
  have d0 : decide ((n : Int) < 0) = false := decide_eq_false (by omega)
  have HL := Lib.hid LA
  have HZ := Lib.hid hr
  have HZs := Lib.hid hs
  clear LA hr hs
  go_enter Tryz.func4, Tryz.ntmps4
  go_wp2_with fail
  refine (begun4_any w HL.out).mono ?_
  rintro e w1 ⟨rfl, hb⟩
  have HB := Lib.hid hb
  clear hb
  go_wp2_with fail
  refine (new_S (w0 := w) HB.out 1048576 1048576 (by decide)).mono ?_
  rintro e w2 ⟨g, b, rfl, hs, -, -, -⟩
  have HS := Lib.hid hs
  clear hs
  go_wp2_with fail
  refine (open_fresh HL.out HS.out (by decide) (by decide)).mono ?_
  rintro e w3 ⟨J, v, L, rfl, hj, -, -⟩
  have HJ := Lib.hid hj
  clear hj HS HB
  go_wp2_with fail
  refine (read_S HJ.out.js.ch ⟨#[76, 79, 71]⟩ (by decide) (t := true) (congrArg Scr.s HJ.out.lg.at) (congrArg Option.isSome HJ.out.lg.lk)).mono ?_
  rintro e w4 ⟨rfl, hb⟩
  replace HJ := Lib.hid (HJ.out.low hb)
  clear hb
  obtain ⟨F0, hF0⟩ : ∃ F0, leafB ⟨#[]⟩ = F0 := ⟨_, rfl⟩
  have HF0 := Lib.hid hF0
  have sF0 : Hid (F0.size = 11) := Lib.hid (by rw [← hF0]; exact leaf_nil_size)
  rw [hF0] at HJ ⊢
  clear hF0
  go_upto_block 0 with fail
  go_cut [11, 12, 13] (fun u11 u12 u13 wx => ∃ (k : Nat) (used : Int) (done : List ByteArray) (v va ve : Value) (L : List Rl) (s : ByteArray), u11 = va ∧ u12 = ve ∧ k ≤ 8 ∧ k ≤ z.length ∧ done.length = k ∧ 11 ≤ used ∧ used ≤ 11 + 57 * k ∧ (s.size : Int) = used ∧ JL w wx J g b v (3 + 2 * k) (1048576 - used) L s 11 true ⟨#[]⟩ done ∧ Side w wx J g b v va done ∧ SideI w wx J g b v va ve (endsL done))
  case first =>
    go_wp2_with fail
    go_loopw [11, 12, 13] (fun u11 u12 u13 wr => ∃ (k : Nat) (used : Int) (done : List ByteArray) (v va ve : Value) (L : List Rl) (s : ByteArray), u11 = va ∧ u12 = ve ∧ u13 = .int .i64 (k : Int) ∧ k ≤ 8 ∧ k ≤ z.length ∧ done.length = k ∧ 11 ≤ used ∧ used ≤ 11 + 57 * k ∧ (s.size : Int) = used ∧ JL w wr J g b v (3 + 2 * k) (1048576 - used) L s 11 true ⟨#[]⟩ done ∧ Side w wr J g b v va done ∧ SideI w wr J g b v va ve (endsL done)) (fun _ _ u13 _ => 30 - (intOf u13).toNat)
    case atStart => exact ⟨0, 11, [], v, _, _, L, F0, rfl, rfl, rfl, by omega, by omega, rfl, by omega, by omega, by rw [sF0.out]; rfl, HJ.out, Side.nil _ _ _ _ _ _, SideI.nil _ _ _ _ _ _ _⟩
    case round =>
      obtain ⟨k, used, done, v, va, ve, L, s0, rfl, rfl, rfl, hk, hkz, hd, hu0, hu, hsu, hj, hside, hint⟩ := hrel
      have HJ1 := Lib.hid hj
      have HS1 := Lib.hid hside
      have HI1 := Lib.hid hint
      obtain ⟨aa, ca, rfl⟩ := hside.mr.form
      obtain ⟨ae, ce, rfl⟩ := hint.mr.form
      have HDk := Lib.hid hd
      have hsz := Lib.hid hsu
      have hdl : done.length ≤ 8 := by omega
      have hln := Lib.hid HJ1.out.lg.ln
      clear hj hside hint HJ hd hsu
      by_cases hkl : k < z.length ∧ k < 8
      · obtain ⟨hk1, hk2⟩ := hkl
        have e1 : decide ((k : Int) < (z.length : Int)) = true := decide_eq_true (by omega)
        have e2 : decide ((k : Int) < 8) = true := decide_eq_true (by omega)
        obtain ⟨q, o, rfl, hc⟩ := (RowAt.keep HZ.out HJ1.out.js.ch.2.1).strs hk1
        have hzk := HZs.out z[k] (List.getElem_mem hk1)
        obtain ⟨A, hA⟩ : ∃ A, cutS z[k] 40 = A := ⟨_, rfl⟩
        have hAs : A.size ≤ 40 := by rw [← hA, cutS_size]; omega
        have HA := Lib.hid hA
        clear hA
        generalize z[k] = x at hc hzk HA
        obtain ⟨hF1, hF2⟩ := leaf_bd (s := A) (by omega)
        have HX := Lib.hid hzk
        clear hzk
        go_wp2_with fail
        refine (jcut_h x A 40 40 wr HA HX.out (by decide) rfl).mono ?_
        rintro e w4 ⟨rfl, rfl⟩
        clear hc
        have HAd := Lib.hid (add_soft HL.out HJ1.out (by have := hln.out; omega) (by omega) A (by omega) (by omega) (r' := 1048576 - (used + ((leafB A).size : Int))) (by omega))
        have hcs : Hid (((catB s0 (leafB A)).size : Int) = used + ((leafB A).size : Int)) := Lib.hid (by have := hsz.out; rw [catB_size]; omega)
        generalize leafB A = F at HAd hF1 hF2 hcs
        go_wp2_with fail
        refine HAd.out.mono ?_
        rintro e w5 ⟨rfl, v5, L5, hj, ho, hq⟩
        have HJ5 := Lib.hid hj
        have HS5 := Lib.hid (HS1.out.add ho hq)
        have HI5 := Lib.hid (HI1.out.add ho hq)
        clear hj ho hq HAd
        go_wp2_with fail
        refine (read_S HJ5.out.js.ch ⟨#[76, 79, 71]⟩ (by decide) (t := true) (congrArg Scr.s HJ5.out.lg.at) (congrArg Option.isSome HJ5.out.lg.lk)).mono ?_
        rintro e w6 ⟨rfl, hb⟩
        have HJ6 := Lib.hid (HJ5.out.low hb)
        have HS6 := Lib.hid (HS5.out.low hb)
        have HI6 := Lib.hid (HI5.out.low hb)
        clear hb HJ5 HS5 HI5
        have HM : Hid (∀ o, MidRow (w6.alloc o) (.slice aa done.length ca) done) := Lib.hid (fun o => HS6.out.mr.low (below_alloc (Below.refl _ _) _))
        have hl2 := Lib.hid (show done.length < 1000000 by omega)
        have HE : Hid (endsL done ++ [((catB s0 F).size : Int)] = endsL (done ++ [A])) := Lib.hid (by rw [endsL_snoc, ← HJ6.out.da, ← Lib.size_eq])
        generalize catB s0 F = s6 at HJ6 hcs HE ⊢
        have HMI : Hid (∀ va' w7, SideI w w7 J g b v5 va' (.slice ae (endsL done).length ce) (endsL done) → ∀ o, IntRow (w7.alloc o) (.slice ae (endsL done).length ce) (endsL done)) := Lib.hid (fun va' w7 h o => h.mr.low (below_alloc (Below.refl _ _) _))
        have hl3 := Lib.hid (show (endsL done).length < 1000000 by rw [endsL_len]; omega)
        go_wp2_with (at_builtin; first | (refine wpList_more rfl _ _ rfl (.slice aa done.length ca) done rfl (HM.out _) A w6.heap.size rfl (by simp) hl2.out ?_; intro va' w7 hm ho hq; obtain ⟨a', c', rfl⟩ := hm.form; obtain ⟨g1, g2⟩ := HS6.out.push HJ6.out (below_alloc (Below.refl _ _) _) ho hm hq; have HI7 := Lib.hid (HI6.out.push (below_alloc (Below.refl _ _) _) ho hq); have HS7 := Lib.hid g1; have HJ7 := Lib.hid g2; clear hm ho hq g1 g2) | (refine wpList_moreI rfl _ _ rfl (.slice ae (endsL done).length ce) (endsL done) rfl (HMI.out _ _ HI7.out _) (s6.size : Int) w7.heap.size rfl (by simp) hl3.out ?_; intro ve' w8 hm ho hq; obtain ⟨a2', c2', rfl⟩ := hm.form; obtain ⟨g1, g2, g3⟩ := HI7.out.more HS7.out HJ7.out (below_alloc (Below.refl _ _) _) ho hm hq; have HI8 := Lib.hid g1; have HS8 := Lib.hid g2; have HJ8 := Lib.hid g3; clear hm ho hq g1 g2 g3))
        have hS8 := HS8.out
        have hJ8 := HJ8.out
        have hI8 := HI8.out
        simp only [List.length_append, List.length_cons, List.length_nil, Nat.zero_add] at hS8 hI8
        rw [HE.out] at hI8
        rw [show 3 + 2 * k + 2 = 3 + 2 * (k + 1) by omega] at hJ8
        have hdk := HDk.out
        have hcs' := hcs.out
        exact ⟨⟨k + 1, used + (F.size : Int), done ++ [A], v5, _, _, L5, s6, rfl, rfl, by go_num, by omega, by omega, by simp [hdk], by omega, by omega, hcs', hJ8, hS8, hI8⟩, by simp [intOf]; omega⟩
      · have hex : (k < z.length ∧ ¬ k < 8 ∧ decide ((k : Int) < (z.length : Int)) = true ∧ decide ((k : Int) < 8) = false) ∨ (¬ k < z.length ∧ decide ((k : Int) < (z.length : Int)) = false) := by
          by_cases h1 : k < z.length
          · exact Or.inl ⟨h1, by omega, decide_eq_true (by omega), decide_eq_false (by omega)⟩
          · exact Or.inr ⟨h1, decide_eq_false (by omega)⟩
        rcases hex with ⟨i1, i2, e1, e2⟩ | ⟨i1, e1⟩
        all_goals
          go_wp2_with fail
          go_meet
          exact ⟨k, used, done, v, _, _, L, s0, rfl, rfl, hk, hkz, HDk.out, hu0, hu, hsz.out, HJ1.out, HS1.out, HI1.out⟩
  case rest =>
    obtain ⟨k, used, done, v, va, ve, L, s0, rfl, rfl, hk, hkz, hd, hu0, hu, hsu, hj, hside, hint⟩ := hcut
    have HJ1 := Lib.hid hj
    have HS1 := Lib.hid hside
    have HI1 := Lib.hid hint
    obtain ⟨aa, ca, rfl⟩ := hside.mr.form
    obtain ⟨ae, ce, rfl⟩ := hint.mr.form
    have HDk := Lib.hid hd
    have hsz := Lib.hid hsu
    have hdl : done.length ≤ 8 := by omega
    have hln := Lib.hid HJ1.out.lg.ln
    clear hj hside hint HJ hd hsu
    have hsl2 : (F0.size : Int) ≤ s0.size := by have := hsz.out; have := sF0.out; omega
    have hs9 : (s0.size : Int) ≤ 9223372036854775807 := by have := hsz.out; omega
    have w1 : IntKind.i64.wrap ((s0.size : Int) - (F0.size : Int)) = (s0.size : Int) - (F0.size : Int) := IntWalk.i64_in _ (by omega)
    have w2 : IntKind.i64.wrap ((s0.size : Int) - (F0.size : Int) + 1) = (s0.size : Int) - (F0.size : Int) + 1 := IntWalk.i64_in _ (by have := sF0.out; omega)
    have w3 : ((s0.size : Int) - (F0.size : Int) + 1 == 0) = false := by rw [beq_eq_false_iff_ne]; omega
    obtain ⟨q, hq⟩ : ∃ q, n % (s0.size - F0.size + 1) = q := ⟨_, rfl⟩
    have hqb : q < s0.size - F0.size + 1 := by rw [← hq]; exact Nat.mod_lt _ (by omega)
    have w4 : (n : Int) % ((s0.size : Int) - (F0.size : Int) + 1) = (q : Int) := by rw [← hq, Int.natCast_emod, Int.natCast_add, Int.natCast_sub (by omega)]; rfl
    have w5 : IntKind.i64.wrap (q : Int) = (q : Int) := IntWalk.i64_in _ (by omega)
    have w6 : IntKind.i64.wrap ((F0.size : Int) + (q : Int)) = (F0.size : Int) + (q : Int) := IntWalk.i64_in _ (by omega)
    clear hq
    obtain ⟨P, hP⟩ : ∃ P, s0.extract 0 (F0.size + q) = P := ⟨_, rfl⟩
    have hslc : ∀ w, (Instr.slice 9 (.string s0) none (some (.int .i64 ((F0.size : Int) + (q : Int)))) none).run Tryz.prog w = .ok (.string P) w := fun w => by
      have := run_cutS s0 (F0.size + q) (by omega) (by omega) w
      rw [Int.natCast_add] at this
      rw [← hP]; exact this
    have HP := Lib.hid hP
    clear hP
    go_wp2_with fail
    refine (read_S HJ1.out.js.ch ⟨#[76, 79, 71]⟩ (by decide) (t := true) (congrArg Scr.s HJ1.out.lg.at) (congrArg Option.isSome HJ1.out.lg.lk)).mono ?_
    rintro e wa ⟨rfl, hb⟩
    have HJ4 := Lib.hid (HJ1.out.low hb)
    have HS4 := Lib.hid (HS1.out.low hb)
    have HI4 := Lib.hid (HI1.out.low hb)
    clear hb
    go_wp2_with fail
    refine (new_S (w0 := wa) (Below.refl _ _) 1048576 1048576 (by decide)).mono ?_
    rintro e wb ⟨g2, b2, rfl, hs, -, -, -⟩
    have HC := Lib.hid hs
    clear hs
    have HBa := Lib.hid HJ4.out.js.ch.2.1
    have HF := HJ4.out.front (m := F0.size + q) (by omega)
    rw [HP.out] at HF
    have sP : P.size = F0.size + q := HF.1
    have hF11 := sF0.out
    have HFs := HF.2.2
    have hszo := hsz.out
    obtain ⟨Lw, hwr, hlw, -⟩ := (Che.new 0 (r := 1048576) (by decide) (by decide)).start rfl P (by omega)
    have HWr := Lib.hid (write_S HC.out (by decide) (Che.new 0 (r := 1048576) (by decide) (by decide)).ok ⟨#[76, 79, 71]⟩ P (by decide) hwr)
    have HO := Lib.hid (fun W (h : ChS wa W g2 b2 (1048576 - P.size) Lw) => open_front (HL.out.keep HBa.out) h hlw (by decide) HJ4.out.sz (by rw [← HFs]; omega) (by rw [sP, ← leafB_list, ← Lib.size_eq, HF0.out]; omega) HF.2.1 (by omega))
    have sPH := Lib.hid sP
    have sPs := Lib.hid (show P.size ≤ 11 + 57 * k by omega)
    clear hwr hlw sP hF11 HF HFs hszo
    go_wp2_with fail
    refine HWr.out.mono ?_
    rintro e wc ⟨rfl, hc, -⟩
    have HC6 := Lib.hid hc
    have HI6 := Lib.hid (HI4.out.mr.low hc.2.1)
    clear hc HWr HC
    go_upto_block 2 with fail
    go_cut [21] (fun u21 wx => ∃ i : Nat, u21 = .int .i64 (i : Int) ∧ wx = wc ∧ i ≤ done.length ∧ (∀ i', i' < i → ∀ e, (endsL done)[i']? = some e → e ≤ (F0.size : Int) + (q : Int)) ∧ (i = done.length ∨ ∃ e, (endsL done)[i]? = some e ∧ (F0.size : Int) + (q : Int) < e))
    case first =>
      go_wp2_with fail
      go_loopw [21] (fun u21 wr => ∃ i : Nat, u21 = .int .i64 (i : Int) ∧ wr = wc ∧ i ≤ done.length ∧ ∀ i', i' < i → ∀ e, (endsL done)[i']? = some e → e ≤ (F0.size : Int) + (q : Int)) (fun u21 _ => 30 - (intOf u21).toNat)
      case atStart => exact ⟨0, rfl, rfl, Nat.zero_le _, fun i' h => by omega⟩
      case round =>
        obtain ⟨i, rfl, rfl, hi, hlow⟩ := hrel
        have hlen := endsL_len done
        have HLow := Lib.hid hlow
        clear hlow
        by_cases hgo : ∃ ei, (endsL done)[i]? = some ei ∧ ei ≤ (F0.size : Int) + (q : Int)
        · obtain ⟨ei, hge, hle⟩ := hgo
          have hil : i < (endsL done).length := (List.getElem?_eq_some_iff.1 hge).1
          obtain ⟨qe, oe, rfl, hce⟩ := HI6.out.get hil
          have e3 : decide ((i : Int) < ((endsL done).length : Int)) = true := decide_eq_true (by omega)
          rw [(List.getElem?_eq_some_iff.1 hge).2] at hce
          have HGe := Lib.hid hge
          have hlenH := Lib.hid hlen
          have e4 : decide (ei ≤ (F0.size : Int) + (q : Int)) = true := decide_eq_true hle
          clear hge hlen
          go_wp2_with fail
          have hlen := hlenH.out
          exact ⟨⟨i + 1, by go_num, trivial, by omega, fun i' h e he => by
            by_cases h2 : i' < i
            · exact HLow.out i' h2 e he
            · obtain rfl : i' = i := by omega
              rw [HGe.out] at he
              simp only [Option.some.injEq] at he
              omega⟩, by simp [intOf]; omega⟩
        · have hend : i = done.length ∨ ∃ e, (endsL done)[i]? = some e ∧ (F0.size : Int) + (q : Int) < e := by
            by_cases h1 : i = done.length
            · exact Or.inl h1
            · refine Or.inr ⟨_, List.getElem?_eq_getElem (by omega), Classical.byContradiction fun h2 => hgo ⟨_, List.getElem?_eq_getElem (by omega), by omega⟩⟩
          have hex2 : (∃ qe oe ei, ae = some ⟨qe, oe, none⟩ ∧ wr.cell? ⟨qe, oe + i, none⟩ = some (.int .i64 ei) ∧ i < (endsL done).length ∧ decide ((i : Int) < ((endsL done).length : Int)) = true ∧ ¬ ei ≤ (F0.size : Int) + (q : Int) ∧ decide (ei ≤ (F0.size : Int) + (q : Int)) = false) ∨ (¬ i < (endsL done).length ∧ decide ((i : Int) < ((endsL done).length : Int)) = false) := by
            by_cases h1 : i < (endsL done).length
            · obtain ⟨qe, oe, h2, hce⟩ := HI6.out.get h1
              have h3 : ¬ (endsL done)[i] ≤ (F0.size : Int) + (q : Int) := fun h => hgo ⟨_, List.getElem?_eq_getElem h1, h⟩
              exact Or.inl ⟨qe, oe, _, h2, hce, h1, decide_eq_true (by omega), h3, decide_eq_false h3⟩
            · exact Or.inr ⟨h1, decide_eq_false (by omega)⟩
          have HEnd := Lib.hid hend
          clear hgo hend hlen
          rcases hex2 with ⟨qe, oe, ei, rfl, hce, i3, e3, i4, e4⟩ | ⟨i3, e3⟩
          all_goals
            go_wp2_with fail
            go_meet
            exact ⟨i, rfl, rfl, hi, HLow.out, HEnd.out⟩
    case rest =>
      obtain ⟨i, rfl, rfl, hi, hlow, hend⟩ := hcut
      have HLow := Lib.hid hlow
      have HEnd := Lib.hid hend
      have HOO := Lib.hid (HO.out _ HC6.out)
      clear hlow hend HO
      go_wp2_with fail
      refine HOO.out.mono ?_
      rintro e wd ⟨J9, v9, r9, L9, s9, p9, k9, j9, rfl, hj, -, -, hr9, hj1, hj2, hj3, -⟩
      have hij : i = j9 := ends_is hi HLow.out HEnd.out (m := P.size) (by rw [sPH.out, Int.natCast_add]) hj1 hj3 hj2
      subst hij
      have HR9 := Lib.hid ((HS4.out.mr.low hj.js.ch.2.1).front hi)
      have HFr := Lib.hid (fun w' => run_front HS4.out.mr hi w')
      have HS9 : Hid (s9.size ≤ 500 ∧ (18 : Int) ≤ r9) := Lib.hid (by
        have h1 := hj.da
        have h2 := Lib.size_eq s9
        rw [h1] at h2
        have h3 := sPs.out
        omega)
      have HJ9 := Lib.hid (hj.low (below_drewN (Below.refl _ _) 1))
      have HRa := Lib.hid (HS4.out.mr.front hi)
      have HLa := Lib.hid (HL.out.keep HBa.out)
      clear hj hj1 hj2 hj3 hr9 HOO
      go_upto_region 27 with fail
      go_cut [135] (fun u wx => u = .bool false ∧ ∃ v' L' r' s' p', JL wa wx J9 g2 b2 v' 5 r' L' s' p' true ⟨#[]⟩ (done.take i ++ [⟨#[122]⟩]) ∧ 11 ≤ p' ∧ (s'.size : Int) = p' ∧ s'.size ≤ 2000)
      case first =>
        have hfr := fun w' => HFr.out w'
        obtain ⟨hz1, hz2⟩ := leaf_bd (s := ⟨#[122]⟩) (by decide)
        have hz3 : (⟨#[122]⟩ : ByteArray).size = 1 := rfl
        have hHR := HS9.out
        have HAd := Lib.hid (fun W (h : JL wa W J9 g2 b2 v9 3 r9 L9 s9 p9 k9 ⟨#[]⟩ (done.take i)) => add_press HLa.out h (by decide) (by rw [List.length_take]; omega) ⟨#[122]⟩ (by decide) (by omega) (r' := r9 - (leafB ⟨#[122]⟩).size) (p' := s9.size + (leafB ⟨#[122]⟩).size) rfl rfl)
        have hlt : Hid ((done.take i).length = i) := Lib.hid (by rw [List.length_take]; omega)
        clear hz1 hz2 hz3 hHR
        go_region_held3 (fun W => Below wa.heap.size wa W) (first | exact HJa.out.js.ch.2.1 | exact HJe.out.js.ch.2.1 | exact HJr.out.js.ch.2.1 | exact HJ9.out.js.ch.2.1) (first | (go_at_call 16; refine (records_at HJ9.out.js.j hlt.out (by omega)).mono ?_; rintro e' w1 ⟨a1, c1, rfl, hr1, hb1⟩; have HRr := Lib.hid hr1; have HJr := Lib.hid (HJ9.out.low hb1); clear hr1 hb1) | (go_at_call 18; refine (eq_at HRr.out (RowAt.keep HRa.out HJr.out.js.ch.2.1) hlt.out (by omega)).mono ?_; rintro e' w2 ⟨rfl, hb2⟩; have HJe := Lib.hid (HJr.out.low hb2); clear hb2) | (go_at_call 12; refine (HAd.out _ HJe.out).mono ?_; rintro e' w3 ⟨rfl, v', L', hj, -, -⟩; have HJa := Lib.hid hj; clear hj))
        all_goals
          obtain ⟨hz1, hz2⟩ := leaf_bd (s := ⟨#[122]⟩) (by decide)
          have hz3 : (⟨#[122]⟩ : ByteArray).size = 1 := rfl
          have hHR := HS9.out
          go_wp2_with fail
          go_meet
          exact ⟨rfl, _, _, _, _, _, HJa.out, by omega, by rw [catB_size]; omega, by rw [catB_size]; omega⟩
      case rest =>
        obtain ⟨rfl, v10, L10, r10, s10, p10, hj, hp1, hp2, hp3⟩ := hcut
        have HJ10 := Lib.hid hj
        clear hj HJ9 HR9
        go_wp2_with fail
        refine (tear_log HJ10.out.js.ch HJ10.out.lg (by decide) 0 (by decide) (Or.inl (by omega))).mono ?_
        rintro e we ⟨g11, b11, r11, L11, m11, rfl, hc, hlg, hr, hp, hm, hlk, hb, -, -⟩
        obtain rfl : m11 = s10.size := by omega
        have HF := Lib.hid (HJ10.out.front hm)
        have HK := Lib.hid (open_front (HLa.out.keep HJ10.out.js.ch.2.1) hc hlg (by decide) HJ10.out.sz (by rw [HF.out.1, ← HF.out.2.2]; exact hm) (by rw [HF.out.1, HF.out.2.2, leavesL_cons_len, ← leafB_list, ← Lib.size_eq]; omega) HF.out.2.1 (by rw [HF.out.1]; omega))
        clear hc hlg hr hp hm hlk hb
        go_wp2_with fail
        refine HK.out.mono ?_
        rintro e wf ⟨J12, v12, r12, L12, s12, p12, k12, j12, rfl, hj, -, -, -, -, hj2, -, -⟩
        rw [take_all (hj2 _ (Nat.le_refl _) (by rw [List.take_length, HF.out.1, HF.out.2.2]; exact Nat.le_refl _))] at hj
        have HKA := Lib.hid hj.kat
        have HBf := Lib.hid (below_on HJ10.out.js.ch.2.1 hj.js.ch.2.1)
        have hKk := Lib.hid (hj.js.j.low (below_drewN (Below.refl _ _) 1))
        clear hj hj2 HK HF HJ10 hp1 hp2 hp3
        have hfr := fun w' => HFr.out w'
        have hlt : Hid ((done.take i).length = i) := Lib.hid (by rw [List.length_take]; omega)
        have hlz : Hid ((done.take i ++ [(⟨#[122]⟩ : ByteArray)]).length = i + 1) := Lib.hid (by rw [List.length_append, List.length_take]; simp; omega)
        have hff2 : (F0.toList == F0.toList) = true := by simp
        have HLf : Hid (∀ W, Calls Tryz.prog 21 #[.string ⟨#[]⟩] W fun e w' => e = .returned (.string F0) ∧ Below W.heap.size W w') := Lib.hid (fun W => by rw [← HF0.out]; exact rleaf_any ⟨#[]⟩ W (by decide))
        have hnil : Hid (aa = none → done.take i = []) := Lib.hid (fun e => by rw [HS4.out.mr.anil e]; simp)
        go_upto_region 30 with fail
        go_cut [4] (fun u wx => u = .bool true ∧ Below wa.heap.size wa wx)
        case first =>
          have hi6 : i < 1000000 := by omega
          go_region_held3 (fun W => Below wf.heap.size wf W) (first | exact (Below.refl _ _).drew | exact hbS | exact below_alloc (show Below wf.heap.size wf _ from ‹_›) _)
            (first
              | (go_at_call 16; refine (records_own (hKk.out.low (below_to (show Below wf.heap.size wf _ from ‹_›))) hlz.out (by omega)).mono ?_; rintro e' w1 ⟨a1, c1, rfl, hm1, hq1, hb1⟩; have hbS : Below wf.heap.size wf w1 := below_thru hb1 (by with_reducible assumption); have HM1 := Lib.hid hm1; (try have HDJ := Lib.hid (dj_fresh hq1 (by first | exact Below.refl _ _ | exact below_alloc (Below.refl _ _) _) HC.out).1); (try replace HC := Lib.hid (HC.out.low (below_thru hb1 (by first | exact Below.refl _ _ | exact below_alloc (Below.refl _ _) _)))); (try replace HD := Lib.hid (HD.out.low (below_thru hb1 (by first | exact Below.refl _ _ | exact below_alloc (Below.refl _ _) _)))))
              | (refine step_copy (by rfl) _ _ rfl rfl aa i ca (done.take i) rfl hlt.out (RowAt.keep HRa.out (below_on HBf.out (by with_reducible assumption))) hnil.out hi6 ?_; intro a2 c2 w2 hm2 hb2 hq2; have hbS : Below wf.heap.size wf w2 := below_thru hb2 (by with_reducible assumption); have HC := Lib.hid hm2; have HQC := Lib.hid (fresh_thru hq2 (w0 := wf) (by with_reducible assumption)); (try have HDJ := Lib.hid (dj_fresh hq2 (by first | exact Below.refl _ _ | exact below_alloc (Below.refl _ _) _) HM1.out).2); (try replace HM1 := Lib.hid (HM1.out.low (below_thru hb2 (by first | exact Below.refl _ _ | exact below_alloc (Below.refl _ _) _)))))
              | (refine step_more (by rfl) _ _ rfl a2 i c2 (done.take i) rfl hlt.out (by first | exact HC.out | exact HC.out.low (below_alloc (Below.refl _ _) _)) ⟨#[122]⟩ _ rfl ?hb hi6 ?_; (case hb => first | (simp; done) | exact cell_thru hb1 (by simp) | exact cell_thru hb2 (by simp) | exact cell_thru hb2 (cell_thru hb1 (by simp)) | exact cell_thru hb1 (cell_thru hb2 (by simp))); intro a3 c3 w3 hm3 ho3 hq3; have hbS : Below wf.heap.size wf w3 := only_thru ho3 HQC.out (by with_reducible assumption); have HD := Lib.hid hm3; (try replace HM1 := Lib.hid (keep_thru ho3 HDJ.out (by first | exact Below.refl _ _ | exact below_alloc (Below.refl _ _) _) HM1.out)))
              | (go_at_call 18; go_must (refine (eq_at HM1.out.row HD.out.row hlz.out (by omega)).mono ?_; rintro e' w4 ⟨rfl, hb4⟩); have hbS : Below wf.heap.size wf w4 := below_thru hb4 (by with_reducible assumption))
              | (go_at_call 21; refine (HLf.out _).mono ?_; rintro e' w5 ⟨rfl, hb5⟩; have hbS : Below wf.heap.size wf w5 := below_thru hb5 (by with_reducible assumption)))
          all_goals
            go_wp2_with fail
            go_meet
            exact ⟨rfl, below_on HBf.out hbS⟩
        case rest =>
          obtain ⟨rfl, hbx⟩ := hcut
          have HBx := Lib.hid (below_on HBa.out hbx)
          clear hbx
          go_wp2_with fail
          go_ret
          exact ⟨rfl, HBx.out⟩
theorem journalTorn_walk (a : Option Addr) (c : Nat) (z : List ByteArray) (n : Int) (hn : -9223372036854775808 ≤ n ∧ n ≤ 9223372036854775807) (w : World) (hr : RowAt w a (z.map .string)) (hs : ∀ s ∈ z, s.size ≤ 9223372036854775807) (hl : z.length ≤ 9223372036854775807) (LA : Laid w) :
    Calls Tryz.prog 4 #[.slice a z.length c, .int .i64 n] w fun e w' => e = .returned (.bool true) ∧ Below w.heap.size w w' := by
  by_cases h : n < 0
  · exact journalTorn_neg a c z.length n h w LA
  obtain ⟨k, rfl⟩ := Int.eq_ofNat_of_zero_le (by omega : 0 ≤ n)
  exact journalTorn_main k (by omega) a c z w hr hs hl LA
end Go.Proofs.YtjblbjamceloaaaGreatDoor
