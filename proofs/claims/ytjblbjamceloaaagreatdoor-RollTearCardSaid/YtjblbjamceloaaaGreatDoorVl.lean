/- A chest of the document's: a tear. -/
import Derived.Test.YtjblbjamceloaaaGreatDoorVd
import Derived.Deep.CutBlock
import Derived.Deep.DeepCutAuto
import Derived.Deep.RegionHeld3
namespace Go.Proofs.YtjblbjamceloaaaGreatDoor
open Go.RowKit

set_option maxRecDepth 100000
theorem DocAt.push {W cur w3 : World} {d : Nat} {v v3 : Value} {z : Int} {T T' : List Rl} (H : DocAt W d v z T) (hb : Below W.heap.size W cur) (r3 : Rows4 w3 v3 T') (o3 : Only (ownB v) cur w3) (q3 : ∀ q ∈ ownB v3, q ∈ ownB v ∨ cur.heap.size ≤ q) :
    DocAt (w3.setCell ⟨d, 1, none⟩ v3) d v3 z T' ∧ Only (d :: ownB v) W (w3.setCell ⟨d, 1, none⟩ v3) ∧ (∀ q ∈ ownB v3, q ∈ ownB v ∨ W.heap.size ≤ q) ∧ w3.cell? ⟨d, 1, none⟩ = some v ∧ w3.frozen? ⟨d, 1, none⟩ = false := by
  have hd := H.lt
  have h0 := hb.size
  have H2 := H.low hb
  have h1 : w3.cell? ⟨d, 0, none⟩ = some (.int .i64 z) := o3.cellK H.nq H2.c0
  have h2 : w3.cell? ⟨d, 1, none⟩ = some v := o3.cellK H.nq H2.c1
  have h3 : w3.frozen? ⟨d, 1, none⟩ = false := by rw [o3.frozen (p := ⟨d, 1, none⟩) H2.lt H.nq]; exact H2.f1
  have hn : d ∉ ownB v3 := fun h => by
    rcases q3 d h with h4 | h4
    · exact H.nq h4
    · omega
  refine ⟨⟨?_, World.cell?_setCell_same _ _ _ h2, by rw [World.frozen?_setCell]; exact h3, ?_, hn⟩, ?_, fun q hq => ?_, h2, h3⟩
  · rw [World.cell?_setCell_other _ _ _ _ (by simp)]; exact h1
  · exact r3.keep (S := [d]) ((Only.refl _ _).setCell (Or.inl (by simp)) _) (fun q hq hm => by simp at hm; subst hm; exact hn hq)
  · exact (((Only.of_below (S := d :: ownB v) hb).join o3 (fun i hi => Or.inl (by simp [hi])))).setCell (Or.inl (by simp)) _
  · rcases q3 q hq with h4 | h4
    · exact Or.inl h4
    · exact Or.inr (by omega)
/-- An append at the operation. -/
theorem wpList_rows {w : World} {ops : Array Oper} {rest : List Oper} {o : Oper} {a : Act} {Q : Exit → Act → World → Prop} (hg : o.guard = none) (s x : Operand)
    (ho : o.op = .call { callee := .builtin .append, args := #[s, x], argTypes := #[85, 85] }) (v : Value) (L : List Rl) (hs : a.eval s = v) (hL : Rows4 w v L) (ad : Option Addr) (m c : Nat) (M : List Rl) (hx : a.eval x = .slice ad m c) (hm : M.length = m) (hsrc : SrcRow w ad M) (hl : L.length + m < 1000000)
    (h : ∀ v' w', Rows4 w' v' (L ++ M) → Only (ownB v) w w' → (∀ q ∈ ownB v', q ∈ ownB v ∨ w.heap.size ≤ q) → wpList Tryz.prog ops Q rest (a.put o.dst v') w') : wpList Tryz.prog ops Q (o :: rest) a w := by
  refine wpList_plain hg fun K' hK' => ?_
  obtain ⟨v', w', hrun, r1, r2, r3⟩ := run_rows (c := c) hL hm hsrc hl o.type
  unfold Oper.wp execOp
  simp only [ho, resolve, invoke, builtin, Sem.run_bind, Sem.run_pure, Result.andThen_ok, List.map_toArray, List.map_cons, List.map_nil, hs, hx, hrun]
  exact hK' _ _ (h v' w' r1 r2 r3)
theorem tearL_snoc (t : Int) {L : List Rl} {i : Nat} {x : Rl} (h : L[i]? = some x) : tearL t (L.take (i + 1)) = tearL t (L.take i) ++ ((tearOne t x.2).map fun d => (x.1, d)).toList := by
  obtain ⟨hi, e⟩ := List.getElem?_eq_some_iff.1 h
  rw [List.take_succ_eq_append_getElem hi, e]
  unfold tearL
  rw [List.filterMap_append]
  congr 1
theorem tearL_len (t : Int) (L : List Rl) : (tearL t L).length ≤ L.length := by unfold tearL; exact List.length_filterMap_le _ _
set_option maxHeartbeats 12800000 in
theorem rtear_any {w : World} {d : Nat} {v : Value} {z r : Int} {L : List Rl} (H : DocAt w d v z L) (hL : L.length < 800000) (hk : OkL r L) (t : Int) (ht : -9223372036854775808 ≤ t ∧ t ≤ 9223372036854775807) :
    Calls Tryz.prog 26 #[.pointer (some ⟨d, 0, none⟩), .int .i64 t] w fun e w' => ∃ d' v', e = .returned (.pointer (some ⟨d', 0, none⟩)) ∧ DocAt w' d' v' z (tearL t L) ∧ Below w.heap.size w w' ∧ w.heap.size ≤ d' ∧ ∀ q ∈ ownB v', w.heap.size ≤ q := by
  have HD := Lib.hid H
  have HK := Lib.hid hk
  obtain ⟨a, c, rfl⟩ := H.rw.slice
  have c0 := H.c0
  clear H hk
  go_enter Tryz.func26, Tryz.ntmps26
  go_wp2_with fail
  have HN0 : Hid (DocAt (w.alloc (.cells #[.int .i64 z, .slice none 0 0] 87)) w.heap.size (.slice none 0 0) z []) := Lib.hid ⟨by simp, by simp, by simp [go_sem], Rows4.nil _, by simp [ownB_nil]⟩
  have HB0 := Lib.hid (below_alloc (Below.refl w.heap.size w) (.cells #[.int .i64 z, .slice none 0 0] 87))
  generalize w.alloc (.cells #[.int .i64 z, .slice none 0 0] 87) = w1 at HN0 HB0 ⊢
  obtain ⟨d', hd'⟩ : ∃ d', w.heap.size = d' := ⟨_, rfl⟩
  have HD' := Lib.hid hd'
  rw [hd'] at HN0 ⊢
  clear hd' c0
  go_loopw [6] (fun u6 wr => ∃ (i : Nat) (v' : Value), u6 = .int .i64 (i : Int) ∧ i ≤ L.length ∧ DocAt wr d' v' z (tearL t (L.take i)) ∧ Below w.heap.size w wr ∧ ∀ q ∈ ownB v', w.heap.size ≤ q) (fun u6 _ => L.length + 1 - (intOf u6).toNat)
  case atStart => exact ⟨0, _, rfl, Nat.zero_le _, HN0.out, HB0.out, by simp [ownB_nil]⟩
  case round =>
    obtain ⟨i, v', rfl, hi, hdn, hbl, hql⟩ := hrel
    have HN := Lib.hid hdn
    have HB := Lib.hid hbl
    have HQ := Lib.hid hql
    have HDr := Lib.hid (HD.out.low hbl)
    have c1 := HDr.out.c1
    clear hdn hbl hql HN0 HB0
    by_cases hil : i < L.length
    · have e1 : decide ((i : Int) < (L.length : Int)) = true := decide_eq_true (by omega)
      obtain ⟨x, hx⟩ : ∃ x, L[i]? = some x := ⟨_, List.getElem?_eq_getElem hil⟩
      obtain ⟨q, cap, hsl, g0, g1, g2, g3, -⟩ := HDr.out.rw.get hx
      simp only [Value.slice.injEq] at hsl
      obtain ⟨rfl, -, rfl⟩ := hsl
      have HS := Lib.hid (tearL_snoc t hx)
      obtain ⟨hp0, hps⟩ := HK.out.2.2 x (List.mem_of_getElem? hx)
      have hsz : (x.2.s.size : Int) ≤ 1048576 := by
        have h1 := sumL_take_succ hx
        have h2 := sumL_take_le L (i + 1)
        have h3 := sumL_take_le L i
        have := HK.out.1; have := HK.out.2.1
        omega
      have HTl : Hid ((tearL t (L.take i)).length < 900000) := Lib.hid (by have := tearL_len t (L.take i); rw [List.length_take] at this; omega)
      obtain ⟨T, hT⟩ : ∃ T, tearL t (L.take i) = T := ⟨_, rfl⟩
      rw [hT] at HS HN HTl
      obtain ⟨nm, cs⟩ := x
      obtain ⟨s, p, kp⟩ := cs
      dsimp only at g0 g1 g2 g3 hp0 hps hsz HS
      obtain ⟨kk, hkk⟩ : ∃ kk : Int, (if 0 ≤ t then t % ((s.size : Int) - p + 1) else 0) = kk := ⟨_, rfl⟩
      have hlk : leftK t ⟨s, p, kp⟩ = p + kk := by
        unfold leftK
        rw [← hkk]
        by_cases h0 : 0 < t
        · rw [if_pos h0, if_pos (by omega)]
        · rw [if_neg h0]
          by_cases h1 : 0 ≤ t
          · rw [if_pos h1, show t = 0 by omega]; simp
          · rw [if_neg h1]
      have hkb : 0 ≤ kk ∧ p + kk ≤ s.size := by
        have := leftK_bd (k := t) (c := ⟨s, p, kp⟩) ⟨hp0, hps⟩
        rw [hlk] at this
        have h2 : 0 ≤ kk := by
          rw [← hkk]
          by_cases h1 : 0 ≤ t
          · rw [if_pos h1]; exact Int.emod_nonneg _ (by omega)
          · rw [if_neg h1]; exact Int.le_refl _
        exact ⟨h2, this.2⟩
      have HOne : Hid (tearOne t ⟨s, p, kp⟩ = if (decide (0 < p + kk) || kp) = true then some ⟨s.extract 0 (p + kk).toNat, p + kk, true⟩ else none) := Lib.hid (by unfold tearOne; rw [hlk])
      have hw1 : IntKind.i64.wrap ((s.size : Int) - p) = (s.size : Int) - p := IntWalk.i64_in _ (by omega)
      have hw2 : IntKind.i64.wrap ((s.size : Int) - p + 1) = (s.size : Int) - p + 1 := IntWalk.i64_in _ (by omega)
      have hw3 : ((s.size : Int) - p + 1 == 0) = false := by rw [beq_eq_false_iff_ne]; omega
      have hw4 : IntKind.i64.wrap (p + kk) = p + kk := IntWalk.i64_in _ (by omega)
      clear hT hlk
      obtain ⟨ln, hln⟩ : ∃ ln : Nat, p + kk = ln := ⟨(p + kk).toNat, by omega⟩
      have hls : ln ≤ s.size := by omega
      rw [hln, Int.toNat_natCast] at HOne
      obtain ⟨X, hX⟩ : ∃ X, s.extract 0 ln = X := ⟨_, rfl⟩
      have hslc : ∀ w, (Instr.slice 9 (.string s) none (some (.int .i64 (ln : Int))) none).run Tryz.prog w = .ok (.string X) w := fun w => by
        rw [← hX]; exact run_cutS s ln hls (by omega) w
      rw [hX] at HOne
      rw [hln] at hw4
      clear hX
      have HKK : Hid (kk = if 0 ≤ t then t % ((s.size : Int) - p + 1) else 0) := Lib.hid hkk.symm
      have f3 : IntKind.i64.wrap kk = kk := IntWalk.i64_in _ (by omega)
      have hw5 : IntKind.i64.wrap (p + kk) = (ln : Int) := by rw [hln]; exact hw4
      clear hkk hln
      obtain ⟨b0, hb0⟩ : ∃ b0, decide (0 ≤ t) = b0 := ⟨_, rfl⟩
      go_upto_if 32 with fail
      have HBx := Lib.hid (BoxR.new wr (nmB nm) ⟨s, p, kp⟩ 89).1
      have HA := Lib.hid (below_alloc HB.out (.cells #[.string (nmB nm), .string s, .int .i64 p, .bool kp] 89))
      have HN2 := Lib.hid (HN.out.low (below_alloc (Below.refl _ _) (.cells #[.string (nmB nm), .string s, .int .i64 p, .bool kp] 89)))
      have HRd : Hid (wr.heap.size ≠ d') := Lib.hid (by have := HN.out.lt; omega)
      have HRv0 := Lib.hid (HN.out.rw.lt)
      generalize wr.alloc (.cells #[.string (nmB nm), .string s, .int .i64 p, .bool kp] 89) = wq at HBx HA HN2 ⊢
      generalize wr.heap.size = rb at HBx HRd HRv0 ⊢
      obtain ⟨y0, y1, y2, y3⟩ := HBx.out
      have HBa := Lib.hid (fun o => HBx.out.low (below_alloc (Below.refl _ _) o))
      obtain ⟨va, vm, vc, rfl⟩ : ∃ va vm vc, v' = .slice va vm vc := by
        obtain ⟨va, vc, e⟩ := HN2.out.rw.slice
        exact ⟨va, _, vc, e⟩
      have c1' := HN2.out.c1
      have ca := fun o => cell_keep (below_alloc (Below.refl wq.heap.size wq) o) HN2.out.c1
      have HRv : Hid (rb ∉ ownB (.slice va vm vc)) := Lib.hid (fun h => by have := HRv0.out _ h; omega)
      clear g0 g1 g2 g3 c1
      go_cut [8] (fun u8 wx => u8 = .int .i64 kk ∧ wx = wq)
      case first =>
        cases b0
        · have h1 : ¬ 0 ≤ t := of_decide_eq_false hb0
          have f2 : kk = 0 := by rw [HKK.out, if_neg h1]
          have HF2 := Lib.hid f2
          clear h1 f2
          go_wp2_with fail
          go_meet
          exact ⟨by rw [HF2.out], rfl⟩
        · have h1 : 0 ≤ t := of_decide_eq_true hb0
          have f2 : t.tmod ((s.size : Int) - p + 1) = kk := by rw [HKK.out, if_pos h1, Int.tmod_eq_emod_of_nonneg h1]
          clear h1
          go_wp2_with fail
          go_meet
          exact ⟨rfl, rfl⟩
      case rest =>
        obtain ⟨rfl, rfl⟩ := hcut
        by_cases h0 : ln = 0
        · have z0 : (((ln : Nat) : Int) == 0) = true := by rw [beq_iff_eq]; omega
          have z1 : (ln == 0) = true := by rw [beq_iff_eq]; exact h0
          have q0 : ¬ 0 < ln := by omega
          clear h0
          cases kp
          · have HZ : Hid (tearL t (L.take (i + 1)) = T) := Lib.hid (by rw [HS.out, HOne.out, if_neg (by simp [q0])]; simp)
            go_wp2_with fail
            exact ⟨⟨i + 1, _, by go_num, by omega, by rw [HZ.out]; exact HN2.out, HA.out, HQ.out⟩, by simp [intOf]; omega⟩
          · skip
            have HZ : Hid (tearL t (L.take (i + 1)) = T ++ [(nm, ⟨X, (ln : Int), true⟩)]) := Lib.hid (by rw [HS.out, HOne.out, if_pos (by simp [q0])]; rfl)
            go_wp2_with fail
            refine wp_region_held_drew (S := fun W => W.cell? ⟨rb, 0, none⟩ = some (.string (nmB nm)) ∧ W.cell? ⟨rb, 1, none⟩ = some (.string s) ∧ W.cell? ⟨rb, 2, none⟩ = some (.int .i64 p)) (by kernel_rfl) ?_ (fun hHeld => ?_)
            · exact ⟨y0, y1, y2⟩
            refine wpAnyH_take (i := 0) (v := ?_) rfl (by kernel_rfl) (by kernel_rfl) (by kernel_rfl) (fun _ _ _ h => h) (Or.inl ⟨by rfl, ?_⟩) (by assumption) ?_
            rotate_left
            · intro w hSw
              (try dsimp only at hSw)
              go_simp <;> with_reducible rfl
            (try simp only [Act.put, List.setIfInBounds_toArray])
            refine wpAnyH_take (i := 1) (v := ?_) rfl (by kernel_rfl) (by kernel_rfl) (by kernel_rfl) (fun _ _ _ h => h) (Or.inl ⟨by rfl, ?_⟩) (by assumption) ?_
            rotate_left
            · intro w hSw
              (try dsimp only at hSw)
              go_simp <;> with_reducible rfl
            (try simp only [Act.put])
            refine wpAnyH_take (i := 2) (v := ?_) rfl (by kernel_rfl) (by kernel_rfl) (by kernel_rfl) (fun _ _ _ h => h) (Or.inl ⟨by rfl, ?_⟩) (by assumption) ?_
            rotate_left
            · intro w hSw
              (try dsimp only at hSw)
              go_simp <;> with_reducible rfl
            (try simp only [Act.put])
            refine wpAnyH_take (i := 3) (v := ?_) rfl (by kernel_rfl) (by kernel_rfl) (by kernel_rfl) (fun _ _ _ h => h) (Or.inl ⟨by rfl, ?_⟩) (by assumption) ?_
            rotate_left
            · intro w hSw
              (try dsimp only at hSw)
              go_simp <;> with_reducible rfl
            (try simp only [Act.put])
            refine wpAnyH_take (i := 5) (v := ?_) rfl (by kernel_rfl) (by kernel_rfl) (by kernel_rfl) (fun _ _ _ h => h) (Or.inl ⟨by rfl, ?_⟩) (by assumption) ?_
            rotate_left
            · intro w hSw
              (try dsimp only at hSw)
              go_simp <;> with_reducible rfl
            (try simp only [Act.put])
            refine wpAnyH_take (i := 6) (v := ?_) rfl (by kernel_rfl) (by kernel_rfl) (by kernel_rfl) (fun _ _ _ h => h) (Or.inl ⟨by rfl, ?_⟩) (by assumption) ?_
            rotate_left
            · intro w hSw
              (try dsimp only at hSw)
              go_simp <;> with_reducible rfl
            (try simp only [Act.put])
            refine wpAnyH_take (i := 7) (v := ?_) rfl (by kernel_rfl) (by kernel_rfl) (by kernel_rfl) (fun _ _ _ h => h) (Or.inl ⟨by rfl, ?_⟩) (by assumption) ?_
            rotate_left
            · intro w hSw
              (try dsimp only at hSw)
              go_simp <;> with_reducible rfl
            (try simp only [Act.put])
            refine wpAnyH_take (i := 8) (v := ?_) rfl (by kernel_rfl) (by kernel_rfl) (by kernel_rfl) (fun _ _ _ h => h) (Or.inl ⟨by rfl, ?_⟩) (by assumption) ?_
            rotate_left
            · intro w hSw
              (try dsimp only at hSw)
              go_simp <;> with_reducible rfl
            (try simp only [Act.put])
            refine wpAnyH_take (i := 9) (v := ?_) rfl (by kernel_rfl) (by kernel_rfl) (by kernel_rfl) (fun _ _ _ h => h) (Or.inl ⟨by rfl, ?_⟩) (by assumption) ?_
            rotate_left
            · intro w hSw
              (try dsimp only at hSw)
              go_simp <;> with_reducible rfl
            (try simp only [Act.put])
            refine wpAnyH_take (i := 10) (v := ?_) rfl (by kernel_rfl) (by kernel_rfl) (by kernel_rfl) (fun _ _ _ h => h) (Or.inl ⟨by rfl, ?_⟩) (by assumption) ?_
            rotate_left
            · intro w hSw
              (try dsimp only at hSw)
              go_simp <;> with_reducible rfl
            (try simp only [Act.put])
            refine wpAnyH_take (i := 11) (v := ?_) rfl (by kernel_rfl) (by kernel_rfl) (by kernel_rfl) (fun _ _ _ h => h) (Or.inl ⟨by rfl, ?_⟩) (by assumption) ?_
            rotate_left
            · intro w hSw
              (try dsimp only at hSw)
              go_simp <;> with_reducible rfl
            (try simp only [Act.put])
            refine wpAnyH_take (i := 12) (v := ?_) rfl (by kernel_rfl) (by kernel_rfl) (by kernel_rfl) (fun _ _ _ h => h) (Or.inl ⟨by rfl, ?_⟩) (by assumption) ?_
            rotate_left
            · intro w hSw
              (try dsimp only at hSw)
              go_simp <;> with_reducible rfl
            (try simp only [Act.put])
            refine wpAnyH_take (i := 13) (v := ?_) rfl (by kernel_rfl) (by kernel_rfl) (by kernel_rfl) (fun _ _ _ h => h) (Or.inl ⟨by rfl, ?_⟩) (by assumption) ?_
            rotate_left
            · intro w hSw
              (try dsimp only at hSw)
              go_simp <;> with_reducible rfl
            (try simp only [Act.put])
            refine wpAnyH_take (i := 14) (v := ?_) rfl (by kernel_rfl) (by kernel_rfl) (by kernel_rfl) (fun _ _ _ h => h) (Or.inl ⟨by rfl, ?_⟩) (by assumption) ?_
            rotate_left
            · intro w hSw
              (try dsimp only at hSw)
              go_simp <;> with_reducible rfl
            (try simp only [Act.put])
            refine wpAnyH_take (i := 15) (v := ?_) rfl (by kernel_rfl) (by kernel_rfl) (by kernel_rfl) (fun _ _ _ h => h) (Or.inl ⟨by rfl, ?_⟩) (by assumption) ?_
            rotate_left
            · intro w hSw
              (try dsimp only at hSw)
              go_simp <;> with_reducible rfl
            (try simp only [Act.put])
            refine wpAnyH_take (i := 16) (v := ?_) rfl (by kernel_rfl) (by kernel_rfl) (by kernel_rfl) (fun _ _ _ h => h) (Or.inl ⟨by rfl, ?_⟩) (by assumption) ?_
            rotate_left
            · intro w hSw
              (try dsimp only at hSw)
              go_simp <;> with_reducible rfl
            (try simp only [Act.put])
            refine wpAnyH_take (i := 17) (v := ?_) rfl (by kernel_rfl) (by kernel_rfl) (by kernel_rfl) (fun _ _ _ h => h) (Or.inl ⟨by rfl, ?_⟩) (by assumption) ?_
            rotate_left
            · intro w hSw
              (try dsimp only at hSw)
              go_simp <;> with_reducible rfl
            (try simp only [Act.put])
            refine wpAnyH_take (i := 18) (v := ?_) rfl (by kernel_rfl) (by kernel_rfl) (by kernel_rfl) (fun _ _ _ h => h) (Or.inl ⟨by rfl, ?_⟩) (by assumption) ?_
            rotate_left
            · intro w hSw
              (try dsimp only at hSw)
              go_simp <;> with_reducible rfl
            (try simp only [Act.put])
            refine wpAnyH_ready (rs := [4, 19]) (by kernel_rfl) (by simp) ?_
            refine AllReadyH.cons rfl (fun K hK => ?_) ?_
            · skip
              go_simp
              refine hK.out _ _ ?_ (fun hHeld => ?_)
              · exact ⟨y0, y1, y2⟩
              clear hK K
              (try simp only [Act.put, List.setIfInBounds_toArray, List.set_cons_zero, List.set_cons_succ])
              refine wpAnyH_ready (rs := [19]) (by kernel_rfl) (by simp) ?_
              refine AllReadyH.cons rfl (fun K hK => ?_) AllReadyH.nil
              go_simp
              refine hK.out _ _ ?_ (fun hHeld => ?_)
              · exact ⟨(HBa.out _).c0, (HBa.out _).c1, (HBa.out _).c2⟩
              clear hK K
              (try simp only [Act.put, List.setIfInBounds_toArray, List.set_cons_zero, List.set_cons_succ])
              refine wpAnyH_ready (rs := [20]) (by kernel_rfl) (by simp) ?_
              refine AllReadyH.cons rfl (fun K hK => ?_) AllReadyH.nil
              refine step_rows rfl _ _ rfl (.slice va vm vc) T rfl (HN2.out.rw.low (below_alloc (below_drewN (Below.refl _ _) 1) _)) _ 1 1 [(nm, ⟨X, (ln : Int), true⟩)] rfl rfl (src_built (nm, ⟨X, (ln : Int), true⟩) _) (by have := HTl.out; omega) ?_
              intro v3 w3 r3 o3 q3
              obtain ⟨a3, c3, hv3⟩ := r3.slice
              generalize (T ++ [(nm, (⟨X, (ln : Int), true⟩ : Scr))]).length = m3 at hv3
              subst hv3
              obtain ⟨p1, p2, p3, c1', f1'⟩ := HN2.out.push (below_alloc (below_drewN (Below.refl _ _) 1) _) r3 o3 q3
              have HP3 := Lib.hid (((HBx.out.low (below_alloc (below_drewN (Below.refl _ _) 1) _)).keep o3 HRv.out))
              have HP4 := Lib.hid (HP3.out.keep (S := [d']) ((Only.refl _ _).setCell (p := ⟨d', 1, none⟩) (Or.inl (by simp)) (.slice a3 m3 c3)) (by simpa using HRd.out))
              have P1 := Lib.hid p1
              have P2 := Lib.hid p2
              have P3 := Lib.hid p3
              clear r3 o3 q3 p1 p2 p3
              refine hK.out _ _ ?_ (fun hHeld => ?_)
              · exact ⟨HP3.out.c0, HP3.out.c1, HP3.out.c2⟩
              clear hK K
              (try simp only [Act.put, List.setIfInBounds_toArray])
              refine wpAnyH_take (i := 21) (v := ?_) rfl (by kernel_rfl) (by kernel_rfl) (by kernel_rfl) (fun _ _ _ h => h) (Or.inl ⟨by rfl, ?_⟩) (by assumption) ?_
              rotate_left
              · intro w hSw
                (try dsimp only at hSw)
                go_simp <;> with_reducible rfl
              (try simp only [Act.put])
              refine wpAnyH_take (i := 22) (v := ?_) rfl (by kernel_rfl) (by kernel_rfl) (by kernel_rfl) (fun _ _ _ h => h) (Or.inl ⟨by rfl, ?_⟩) (by assumption) ?_
              rotate_left
              · intro w hSw
                (try dsimp only at hSw)
                go_simp <;> with_reducible rfl
              (try simp only [Act.put])
              refine wpAnyH_ready (rs := [23]) (by kernel_rfl) (by simp) ?_
              refine AllReadyH.cons rfl (fun K hK => ?_) AllReadyH.nil
              go_simp
              refine hK.out _ _ ?_ (fun hHeld => ?_)
              · exact ⟨HP4.out.c0, HP4.out.c1, HP4.out.c2⟩
              clear hK K
              (try simp only [Act.put, List.setIfInBounds_toArray, List.set_cons_zero, List.set_cons_succ])
              refine wpAnyH_done (by kernel_rfl) ?_ _
              go_wp2_with fail
              exact ⟨⟨i + 1, _, by go_num, by omega, by rw [HZ.out]; exact P1.out, Only.under HA.out P2.out (fun j hj => by
                rcases List.mem_cons.1 hj with h | h
                · subst h; rw [← HD'.out]; exact Nat.le_refl _
                · exact HQ.out j h), fun j hj => by
                rcases P3.out j hj with h | h
                · exact HQ.out j h
                · exact Nat.le_trans HA.out.size h⟩, by simp [intOf]; omega⟩
            · refine AllReadyH.cons rfl (fun K hK => ?_) AllReadyH.nil
              go_simp
              refine hK.out _ _ ?_ (fun hHeld => ?_)
              · exact ⟨(HBa.out _).c0, (HBa.out _).c1, (HBa.out _).c2⟩
              clear hK K
              (try simp only [Act.put, List.setIfInBounds_toArray, List.set_cons_zero, List.set_cons_succ])
              refine wpAnyH_ready (rs := [4]) (by kernel_rfl) (by simp) ?_
              refine AllReadyH.cons rfl (fun K hK => ?_) AllReadyH.nil
              go_simp
              refine hK.out _ _ ?_ (fun hHeld => ?_)
              · exact ⟨(HBa.out _).c0, (HBa.out _).c1, (HBa.out _).c2⟩
              clear hK K
              (try simp only [Act.put, List.setIfInBounds_toArray, List.set_cons_zero, List.set_cons_succ])
              refine wpAnyH_ready (rs := [20]) (by kernel_rfl) (by simp) ?_
              refine AllReadyH.cons rfl (fun K hK => ?_) AllReadyH.nil
              refine step_rows rfl _ _ rfl (.slice va vm vc) T rfl (HN2.out.rw.low (below_alloc (below_drewN (Below.refl _ _) 1) _)) _ 1 1 [(nm, ⟨X, (ln : Int), true⟩)] rfl rfl (src_built (nm, ⟨X, (ln : Int), true⟩) _) (by have := HTl.out; omega) ?_
              intro v3 w3 r3 o3 q3
              obtain ⟨a3, c3, hv3⟩ := r3.slice
              generalize (T ++ [(nm, (⟨X, (ln : Int), true⟩ : Scr))]).length = m3 at hv3
              subst hv3
              obtain ⟨p1, p2, p3, c1', f1'⟩ := HN2.out.push (below_alloc (below_drewN (Below.refl _ _) 1) _) r3 o3 q3
              have HP3 := Lib.hid (((HBx.out.low (below_alloc (below_drewN (Below.refl _ _) 1) _)).keep o3 HRv.out))
              have HP4 := Lib.hid (HP3.out.keep (S := [d']) ((Only.refl _ _).setCell (p := ⟨d', 1, none⟩) (Or.inl (by simp)) (.slice a3 m3 c3)) (by simpa using HRd.out))
              have P1 := Lib.hid p1
              have P2 := Lib.hid p2
              have P3 := Lib.hid p3
              clear r3 o3 q3 p1 p2 p3
              refine hK.out _ _ ?_ (fun hHeld => ?_)
              · exact ⟨HP3.out.c0, HP3.out.c1, HP3.out.c2⟩
              clear hK K
              (try simp only [Act.put, List.setIfInBounds_toArray])
              refine wpAnyH_take (i := 21) (v := ?_) rfl (by kernel_rfl) (by kernel_rfl) (by kernel_rfl) (fun _ _ _ h => h) (Or.inl ⟨by rfl, ?_⟩) (by assumption) ?_
              rotate_left
              · intro w hSw
                (try dsimp only at hSw)
                go_simp <;> with_reducible rfl
              (try simp only [Act.put])
              refine wpAnyH_take (i := 22) (v := ?_) rfl (by kernel_rfl) (by kernel_rfl) (by kernel_rfl) (fun _ _ _ h => h) (Or.inl ⟨by rfl, ?_⟩) (by assumption) ?_
              rotate_left
              · intro w hSw
                (try dsimp only at hSw)
                go_simp <;> with_reducible rfl
              (try simp only [Act.put])
              refine wpAnyH_ready (rs := [23]) (by kernel_rfl) (by simp) ?_
              refine AllReadyH.cons rfl (fun K hK => ?_) AllReadyH.nil
              go_simp
              refine hK.out _ _ ?_ (fun hHeld => ?_)
              · exact ⟨HP4.out.c0, HP4.out.c1, HP4.out.c2⟩
              clear hK K
              (try simp only [Act.put, List.setIfInBounds_toArray, List.set_cons_zero, List.set_cons_succ])
              refine wpAnyH_done (by kernel_rfl) ?_ _
              go_wp2_with fail
              exact ⟨⟨i + 1, _, by go_num, by omega, by rw [HZ.out]; exact P1.out, Only.under HA.out P2.out (fun j hj => by
                rcases List.mem_cons.1 hj with h | h
                · subst h; rw [← HD'.out]; exact Nat.le_refl _
                · exact HQ.out j h), fun j hj => by
                rcases P3.out j hj with h | h
                · exact HQ.out j h
                · exact Nat.le_trans HA.out.size h⟩, by simp [intOf]; omega⟩
        · have z0 : (((ln : Nat) : Int) == 0) = false := by rw [beq_eq_false_iff_ne]; omega
          have z1 : (ln == 0) = false := by rw [beq_eq_false_iff_ne]; exact h0
          have q0 : 0 < ln := by omega
          clear h0
          have HZ : Hid (tearL t (L.take (i + 1)) = T ++ [(nm, ⟨X, (ln : Int), true⟩)]) := Lib.hid (by rw [HS.out, HOne.out, if_pos (by simp [q0])]; rfl)
          go_wp2_with fail
          refine wp_region_held_drew (S := fun W => W.cell? ⟨rb, 0, none⟩ = some (.string (nmB nm)) ∧ W.cell? ⟨rb, 1, none⟩ = some (.string s) ∧ W.cell? ⟨rb, 2, none⟩ = some (.int .i64 p)) (by kernel_rfl) ?_ (fun hHeld => ?_)
          · exact ⟨y0, y1, y2⟩
          refine wpAnyH_take (i := 0) (v := ?_) rfl (by kernel_rfl) (by kernel_rfl) (by kernel_rfl) (fun _ _ _ h => h) (Or.inl ⟨by rfl, ?_⟩) (by assumption) ?_
          rotate_left
          · intro w hSw
            (try dsimp only at hSw)
            go_simp <;> with_reducible rfl
          (try simp only [Act.put, List.setIfInBounds_toArray])
          refine wpAnyH_take (i := 1) (v := ?_) rfl (by kernel_rfl) (by kernel_rfl) (by kernel_rfl) (fun _ _ _ h => h) (Or.inl ⟨by rfl, ?_⟩) (by assumption) ?_
          rotate_left
          · intro w hSw
            (try dsimp only at hSw)
            go_simp <;> with_reducible rfl
          (try simp only [Act.put])
          refine wpAnyH_take (i := 2) (v := ?_) rfl (by kernel_rfl) (by kernel_rfl) (by kernel_rfl) (fun _ _ _ h => h) (Or.inl ⟨by rfl, ?_⟩) (by assumption) ?_
          rotate_left
          · intro w hSw
            (try dsimp only at hSw)
            go_simp <;> with_reducible rfl
          (try simp only [Act.put])
          refine wpAnyH_take (i := 3) (v := ?_) rfl (by kernel_rfl) (by kernel_rfl) (by kernel_rfl) (fun _ _ _ h => h) (Or.inl ⟨by rfl, ?_⟩) (by assumption) ?_
          rotate_left
          · intro w hSw
            (try dsimp only at hSw)
            go_simp <;> with_reducible rfl
          (try simp only [Act.put])
          refine wpAnyH_take (i := 5) (v := ?_) rfl (by kernel_rfl) (by kernel_rfl) (by kernel_rfl) (fun _ _ _ h => h) (Or.inl ⟨by rfl, ?_⟩) (by assumption) ?_
          rotate_left
          · intro w hSw
            (try dsimp only at hSw)
            go_simp <;> with_reducible rfl
          (try simp only [Act.put])
          refine wpAnyH_take (i := 6) (v := ?_) rfl (by kernel_rfl) (by kernel_rfl) (by kernel_rfl) (fun _ _ _ h => h) (Or.inl ⟨by rfl, ?_⟩) (by assumption) ?_
          rotate_left
          · intro w hSw
            (try dsimp only at hSw)
            go_simp <;> with_reducible rfl
          (try simp only [Act.put])
          refine wpAnyH_take (i := 7) (v := ?_) rfl (by kernel_rfl) (by kernel_rfl) (by kernel_rfl) (fun _ _ _ h => h) (Or.inl ⟨by rfl, ?_⟩) (by assumption) ?_
          rotate_left
          · intro w hSw
            (try dsimp only at hSw)
            go_simp <;> with_reducible rfl
          (try simp only [Act.put])
          refine wpAnyH_take (i := 8) (v := ?_) rfl (by kernel_rfl) (by kernel_rfl) (by kernel_rfl) (fun _ _ _ h => h) (Or.inl ⟨by rfl, ?_⟩) (by assumption) ?_
          rotate_left
          · intro w hSw
            (try dsimp only at hSw)
            go_simp <;> with_reducible rfl
          (try simp only [Act.put])
          refine wpAnyH_take (i := 9) (v := ?_) rfl (by kernel_rfl) (by kernel_rfl) (by kernel_rfl) (fun _ _ _ h => h) (Or.inl ⟨by rfl, ?_⟩) (by assumption) ?_
          rotate_left
          · intro w hSw
            (try dsimp only at hSw)
            go_simp <;> with_reducible rfl
          (try simp only [Act.put])
          refine wpAnyH_take (i := 10) (v := ?_) rfl (by kernel_rfl) (by kernel_rfl) (by kernel_rfl) (fun _ _ _ h => h) (Or.inl ⟨by rfl, ?_⟩) (by assumption) ?_
          rotate_left
          · intro w hSw
            (try dsimp only at hSw)
            go_simp <;> with_reducible rfl
          (try simp only [Act.put])
          refine wpAnyH_take (i := 11) (v := ?_) rfl (by kernel_rfl) (by kernel_rfl) (by kernel_rfl) (fun _ _ _ h => h) (Or.inl ⟨by rfl, ?_⟩) (by assumption) ?_
          rotate_left
          · intro w hSw
            (try dsimp only at hSw)
            go_simp <;> with_reducible rfl
          (try simp only [Act.put])
          refine wpAnyH_take (i := 12) (v := ?_) rfl (by kernel_rfl) (by kernel_rfl) (by kernel_rfl) (fun _ _ _ h => h) (Or.inl ⟨by rfl, ?_⟩) (by assumption) ?_
          rotate_left
          · intro w hSw
            (try dsimp only at hSw)
            go_simp <;> with_reducible rfl
          (try simp only [Act.put])
          refine wpAnyH_take (i := 13) (v := ?_) rfl (by kernel_rfl) (by kernel_rfl) (by kernel_rfl) (fun _ _ _ h => h) (Or.inl ⟨by rfl, ?_⟩) (by assumption) ?_
          rotate_left
          · intro w hSw
            (try dsimp only at hSw)
            go_simp <;> with_reducible rfl
          (try simp only [Act.put])
          refine wpAnyH_take (i := 14) (v := ?_) rfl (by kernel_rfl) (by kernel_rfl) (by kernel_rfl) (fun _ _ _ h => h) (Or.inl ⟨by rfl, ?_⟩) (by assumption) ?_
          rotate_left
          · intro w hSw
            (try dsimp only at hSw)
            go_simp <;> with_reducible rfl
          (try simp only [Act.put])
          refine wpAnyH_take (i := 15) (v := ?_) rfl (by kernel_rfl) (by kernel_rfl) (by kernel_rfl) (fun _ _ _ h => h) (Or.inl ⟨by rfl, ?_⟩) (by assumption) ?_
          rotate_left
          · intro w hSw
            (try dsimp only at hSw)
            go_simp <;> with_reducible rfl
          (try simp only [Act.put])
          refine wpAnyH_take (i := 16) (v := ?_) rfl (by kernel_rfl) (by kernel_rfl) (by kernel_rfl) (fun _ _ _ h => h) (Or.inl ⟨by rfl, ?_⟩) (by assumption) ?_
          rotate_left
          · intro w hSw
            (try dsimp only at hSw)
            go_simp <;> with_reducible rfl
          (try simp only [Act.put])
          refine wpAnyH_take (i := 17) (v := ?_) rfl (by kernel_rfl) (by kernel_rfl) (by kernel_rfl) (fun _ _ _ h => h) (Or.inl ⟨by rfl, ?_⟩) (by assumption) ?_
          rotate_left
          · intro w hSw
            (try dsimp only at hSw)
            go_simp <;> with_reducible rfl
          (try simp only [Act.put])
          refine wpAnyH_take (i := 18) (v := ?_) rfl (by kernel_rfl) (by kernel_rfl) (by kernel_rfl) (fun _ _ _ h => h) (Or.inl ⟨by rfl, ?_⟩) (by assumption) ?_
          rotate_left
          · intro w hSw
            (try dsimp only at hSw)
            go_simp <;> with_reducible rfl
          (try simp only [Act.put])
          refine wpAnyH_ready (rs := [4, 19]) (by kernel_rfl) (by simp) ?_
          refine AllReadyH.cons rfl (fun K hK => ?_) ?_
          · skip
            go_simp
            refine hK.out _ _ ?_ (fun hHeld => ?_)
            · exact ⟨y0, y1, y2⟩
            clear hK K
            (try simp only [Act.put, List.setIfInBounds_toArray, List.set_cons_zero, List.set_cons_succ])
            refine wpAnyH_ready (rs := [19]) (by kernel_rfl) (by simp) ?_
            refine AllReadyH.cons rfl (fun K hK => ?_) AllReadyH.nil
            go_simp
            refine hK.out _ _ ?_ (fun hHeld => ?_)
            · exact ⟨(HBa.out _).c0, (HBa.out _).c1, (HBa.out _).c2⟩
            clear hK K
            (try simp only [Act.put, List.setIfInBounds_toArray, List.set_cons_zero, List.set_cons_succ])
            refine wpAnyH_ready (rs := [20]) (by kernel_rfl) (by simp) ?_
            refine AllReadyH.cons rfl (fun K hK => ?_) AllReadyH.nil
            refine step_rows rfl _ _ rfl (.slice va vm vc) T rfl (HN2.out.rw.low (below_alloc (below_drewN (Below.refl _ _) 1) _)) _ 1 1 [(nm, ⟨X, (ln : Int), true⟩)] rfl rfl (src_built (nm, ⟨X, (ln : Int), true⟩) _) (by have := HTl.out; omega) ?_
            intro v3 w3 r3 o3 q3
            obtain ⟨a3, c3, hv3⟩ := r3.slice
            generalize (T ++ [(nm, (⟨X, (ln : Int), true⟩ : Scr))]).length = m3 at hv3
            subst hv3
            obtain ⟨p1, p2, p3, c1', f1'⟩ := HN2.out.push (below_alloc (below_drewN (Below.refl _ _) 1) _) r3 o3 q3
            have HP3 := Lib.hid (((HBx.out.low (below_alloc (below_drewN (Below.refl _ _) 1) _)).keep o3 HRv.out))
            have HP4 := Lib.hid (HP3.out.keep (S := [d']) ((Only.refl _ _).setCell (p := ⟨d', 1, none⟩) (Or.inl (by simp)) (.slice a3 m3 c3)) (by simpa using HRd.out))
            have P1 := Lib.hid p1
            have P2 := Lib.hid p2
            have P3 := Lib.hid p3
            clear r3 o3 q3 p1 p2 p3
            refine hK.out _ _ ?_ (fun hHeld => ?_)
            · exact ⟨HP3.out.c0, HP3.out.c1, HP3.out.c2⟩
            clear hK K
            (try simp only [Act.put, List.setIfInBounds_toArray])
            refine wpAnyH_take (i := 21) (v := ?_) rfl (by kernel_rfl) (by kernel_rfl) (by kernel_rfl) (fun _ _ _ h => h) (Or.inl ⟨by rfl, ?_⟩) (by assumption) ?_
            rotate_left
            · intro w hSw
              (try dsimp only at hSw)
              go_simp <;> with_reducible rfl
            (try simp only [Act.put])
            refine wpAnyH_take (i := 22) (v := ?_) rfl (by kernel_rfl) (by kernel_rfl) (by kernel_rfl) (fun _ _ _ h => h) (Or.inl ⟨by rfl, ?_⟩) (by assumption) ?_
            rotate_left
            · intro w hSw
              (try dsimp only at hSw)
              go_simp <;> with_reducible rfl
            (try simp only [Act.put])
            refine wpAnyH_ready (rs := [23]) (by kernel_rfl) (by simp) ?_
            refine AllReadyH.cons rfl (fun K hK => ?_) AllReadyH.nil
            go_simp
            refine hK.out _ _ ?_ (fun hHeld => ?_)
            · exact ⟨HP4.out.c0, HP4.out.c1, HP4.out.c2⟩
            clear hK K
            (try simp only [Act.put, List.setIfInBounds_toArray, List.set_cons_zero, List.set_cons_succ])
            refine wpAnyH_done (by kernel_rfl) ?_ _
            go_wp2_with fail
            exact ⟨⟨i + 1, _, by go_num, by omega, by rw [HZ.out]; exact P1.out, Only.under HA.out P2.out (fun j hj => by
              rcases List.mem_cons.1 hj with h | h
              · subst h; rw [← HD'.out]; exact Nat.le_refl _
              · exact HQ.out j h), fun j hj => by
              rcases P3.out j hj with h | h
              · exact HQ.out j h
              · exact Nat.le_trans HA.out.size h⟩, by simp [intOf]; omega⟩
          · refine AllReadyH.cons rfl (fun K hK => ?_) AllReadyH.nil
            go_simp
            refine hK.out _ _ ?_ (fun hHeld => ?_)
            · exact ⟨(HBa.out _).c0, (HBa.out _).c1, (HBa.out _).c2⟩
            clear hK K
            (try simp only [Act.put, List.setIfInBounds_toArray, List.set_cons_zero, List.set_cons_succ])
            refine wpAnyH_ready (rs := [4]) (by kernel_rfl) (by simp) ?_
            refine AllReadyH.cons rfl (fun K hK => ?_) AllReadyH.nil
            go_simp
            refine hK.out _ _ ?_ (fun hHeld => ?_)
            · exact ⟨(HBa.out _).c0, (HBa.out _).c1, (HBa.out _).c2⟩
            clear hK K
            (try simp only [Act.put, List.setIfInBounds_toArray, List.set_cons_zero, List.set_cons_succ])
            refine wpAnyH_ready (rs := [20]) (by kernel_rfl) (by simp) ?_
            refine AllReadyH.cons rfl (fun K hK => ?_) AllReadyH.nil
            refine step_rows rfl _ _ rfl (.slice va vm vc) T rfl (HN2.out.rw.low (below_alloc (below_drewN (Below.refl _ _) 1) _)) _ 1 1 [(nm, ⟨X, (ln : Int), true⟩)] rfl rfl (src_built (nm, ⟨X, (ln : Int), true⟩) _) (by have := HTl.out; omega) ?_
            intro v3 w3 r3 o3 q3
            obtain ⟨a3, c3, hv3⟩ := r3.slice
            generalize (T ++ [(nm, (⟨X, (ln : Int), true⟩ : Scr))]).length = m3 at hv3
            subst hv3
            obtain ⟨p1, p2, p3, c1', f1'⟩ := HN2.out.push (below_alloc (below_drewN (Below.refl _ _) 1) _) r3 o3 q3
            have HP3 := Lib.hid (((HBx.out.low (below_alloc (below_drewN (Below.refl _ _) 1) _)).keep o3 HRv.out))
            have HP4 := Lib.hid (HP3.out.keep (S := [d']) ((Only.refl _ _).setCell (p := ⟨d', 1, none⟩) (Or.inl (by simp)) (.slice a3 m3 c3)) (by simpa using HRd.out))
            have P1 := Lib.hid p1
            have P2 := Lib.hid p2
            have P3 := Lib.hid p3
            clear r3 o3 q3 p1 p2 p3
            refine hK.out _ _ ?_ (fun hHeld => ?_)
            · exact ⟨HP3.out.c0, HP3.out.c1, HP3.out.c2⟩
            clear hK K
            (try simp only [Act.put, List.setIfInBounds_toArray])
            refine wpAnyH_take (i := 21) (v := ?_) rfl (by kernel_rfl) (by kernel_rfl) (by kernel_rfl) (fun _ _ _ h => h) (Or.inl ⟨by rfl, ?_⟩) (by assumption) ?_
            rotate_left
            · intro w hSw
              (try dsimp only at hSw)
              go_simp <;> with_reducible rfl
            (try simp only [Act.put])
            refine wpAnyH_take (i := 22) (v := ?_) rfl (by kernel_rfl) (by kernel_rfl) (by kernel_rfl) (fun _ _ _ h => h) (Or.inl ⟨by rfl, ?_⟩) (by assumption) ?_
            rotate_left
            · intro w hSw
              (try dsimp only at hSw)
              go_simp <;> with_reducible rfl
            (try simp only [Act.put])
            refine wpAnyH_ready (rs := [23]) (by kernel_rfl) (by simp) ?_
            refine AllReadyH.cons rfl (fun K hK => ?_) AllReadyH.nil
            go_simp
            refine hK.out _ _ ?_ (fun hHeld => ?_)
            · exact ⟨HP4.out.c0, HP4.out.c1, HP4.out.c2⟩
            clear hK K
            (try simp only [Act.put, List.setIfInBounds_toArray, List.set_cons_zero, List.set_cons_succ])
            refine wpAnyH_done (by kernel_rfl) ?_ _
            go_wp2_with fail
            exact ⟨⟨i + 1, _, by go_num, by omega, by rw [HZ.out]; exact P1.out, Only.under HA.out P2.out (fun j hj => by
              rcases List.mem_cons.1 hj with h | h
              · subst h; rw [← HD'.out]; exact Nat.le_refl _
              · exact HQ.out j h), fun j hj => by
              rcases P3.out j hj with h | h
              · exact HQ.out j h
              · exact Nat.le_trans HA.out.size h⟩, by simp [intOf]; omega⟩
    · have e1 : decide ((i : Int) < (L.length : Int)) = false := decide_eq_false (by omega)
      go_wp2_with fail
      go_ret
      have hii : i = L.length := by omega
      subst hii
      have h1 := HN.out
      rw [List.take_length] at h1
      exact ⟨d', v', rfl, h1, HB.out, by rw [← HD'.out]; exact Nat.le_refl _, HQ.out⟩
end Go.Proofs.YtjblbjamceloaaaGreatDoor
