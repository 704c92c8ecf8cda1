/- Walks of journal's writes, Add, Lay. The run of a roll's leaves; walk of journal.Open. -/
import Derived.Test.YthiphdcbboapkaaGreatDoorNB
import Derived.Deep.RegionLaw
import Derived.StillTailTactics
import Derived.Test.YthiphdcbboapkaaGreatDoorNA
namespace Go.Proofs.YthiphdcbboapkaaGreatDoor
open Go.RowKit

theorem JS.only {w w' : World} {J g b : Nat} {S : List Nat} (h : Only S w w') (hS : ∀ i ∈ S, i = J ∨ i = g ∨ i = b) : Only [J, g, b] w w' :=
  (Only.refl [J, g, b] w).join h (fun i hi => Or.inl (by
    rcases hS i hi with rfl | rfl | rfl <;> simp))
/-- What writes comes to: written, and pressed. -/
theorem jwrites_ok {w0 w : World} {J g b : Nat} {v : Value} {r : Int} {L : List Rl} {first : ByteArray} {recs : List ByteArray} {down : Bool} (H : JS w0 w J g b v r L first recs down) (hL : L.length < 1000) (hk : OkL r L) (hR : Rising L) (n s : ByteArray) (hn : n.size ≤ 9223372036854775807) {r' : Int} {L' L2 : List Rl} (he : writeS r L n.data.toList s = (0, r', L')) (hp : pressS L' n.data.toList = (0, L2)) :
    Calls Tryz.prog 52 #[.pointer (some ⟨J, 0, none⟩), .string n, .string s] w fun e w' => e = .returned (.int .i64 0) ∧ ChS w0 w' g b r' L2 ∧ Only [g, b] w w' := by
  have hok := writeS_ok hk hR n.data.toList s
  rw [he] at hok
  have hok1 : L'.length ≤ L.length + 1 := hok.2.2.1
  have hok2 : OkL r' L' := hok.1
  have HW := Lib.hid (write_S H.ch (by omega) hk n s hn he)
  have HP : Hid (∀ w1, ChS w0 w1 g b r' L' → Calls Tryz.prog 79 #[.pointer (some ⟨g, 0, none⟩), .string n] w1 fun e w' => e = .returned (.int .i64 0) ∧ ChS w0 w' g b r' L2 ∧ Only [g, b] w1 w') := Lib.hid (fun w1 h1 => press_S h1 (by omega) hok2 n hn hp)
  have HH := Lib.hid H
  have c0 := H.j.c0
  clear H hk he hp hok hok1 hok2
  go_enter Tryz.func52, Tryz.ntmps52
  go_wp2_with fail
  refine HW.out.mono ?_
  rintro e w1 ⟨rfl, hs, ho⟩
  have HS := Lib.hid hs
  have HO := Lib.hid ho
  have c0' := (HH.out.chest hs ho).j.c0
  clear hs ho c0
  go_wp2_with fail
  refine (HP.out _ HS.out).mono ?_
  rintro e w2 ⟨rfl, hs, ho⟩
  have HS2 := Lib.hid hs
  have HO2 := Lib.hid (HO.out.trans ho)
  clear hs ho
  go_wp2_with fail
  go_ret
  exact ⟨rfl, HS2.out, HO2.out⟩
theorem jwrites_no {w0 w : World} {J g b : Nat} {v : Value} {r : Int} {L : List Rl} {first : ByteArray} {recs : List ByteArray} {down : Bool} (H : JS w0 w J g b v r L first recs down) (hL : L.length < 1000) (hk : OkL r L) (n s : ByteArray) (hn : n.size ≤ 9223372036854775807) {er r' : Int} {L' : List Rl} (h0 : (er != 0) = true) (he : writeS r L n.data.toList s = (er, r', L')) :
    Calls Tryz.prog 52 #[.pointer (some ⟨J, 0, none⟩), .string n, .string s] w fun e w' => e = .returned (.int .i64 er) ∧ ChS w0 w' g b r' L' ∧ Only [g, b] w w' := by
  have HW := Lib.hid (write_S H.ch (by omega) hk n s hn he)
  have c0 := H.j.c0
  clear H hk he
  go_enter Tryz.func52, Tryz.ntmps52
  go_wp2_with fail
  refine HW.out.mono ?_
  rintro e w1 ⟨rfl, hs, ho⟩
  have HS := Lib.hid hs
  have HO := Lib.hid ho
  clear hs ho c0
  go_wp2_with fail
  go_ret
  exact ⟨rfl, HS.out, HO.out⟩
theorem JS.state {w0 w : World} {J g b : Nat} {v : Value} {r : Int} {L : List Rl} {first : ByteArray} {recs : List ByteArray} {down : Bool} (h : JS w0 w J g b v r L first recs down) (s : ByteArray) : JS w0 ((w.setCell ⟨J, 1, none⟩ (.string s)).setCell ⟨J, 2, none⟩ (.slice none 0 0)) J g b (.slice none 0 0) r L s [] down := by
  have ho : Only [J] w ((w.setCell ⟨J, 1, none⟩ (.string s)).setCell ⟨J, 2, none⟩ (.slice none 0 0)) := ((Only.refl _ _).setCell (Or.inl (by simp)) _).setCell (Or.inl (by simp)) _
  exact ⟨h.j.state s, h.ch.aside ho (by simpa using h.jg.symm) (by simpa using h.jbn.symm) (by simpa using h.jb), h.jb, by simp [ownL_nil], h.jg, h.jbn, by simp [ownL_nil], by simp [ownL_nil]⟩
/-- One more text behind the records, at the operation. -/
theorem wpList_more {w : World} {ops : Array Oper} {rest : List Oper} {o : Oper} {a : Act} {Q : Exit → Act → World → Prop} (hg : o.guard = none) (s x : Operand)
    (ho : o.op = .call { callee := .builtin .append, args := #[s, x], argTypes := #[77, 77] }) (v : Value) (ss : List ByteArray) (hs : a.eval s = v) (hm : MidRow w v ss) (u : ByteArray) (b : Nat) (hx : a.eval x = .slice (some ⟨b, 0, none⟩) 1 1) (hb : w.cell? ⟨b, 0, none⟩ = some (.string u)) (hl : ss.length < 1000000)
    (hK : ∀ v' w', MidRow w' v' (ss ++ [u]) → Only (ownL v) w w' → (∀ q ∈ ownL v', q ∈ ownL v ∨ w.heap.size ≤ q) → wpList Tryz.prog ops Q rest (a.put o.dst v') w') : wpList Tryz.prog ops Q (o :: rest) a w := by
  refine wpList_plain hg fun K' hK' => ?_
  obtain ⟨v', w', hrun, r1, r2, r3⟩ := hm.append u b hb hl o.type
  unfold Oper.wp execOp
  simp only [ho, resolve, invoke, builtin, Sem.run_bind, Sem.run_pure, Result.andThen_ok, List.map_toArray, List.map_cons, List.map_nil, hs, hx, hrun]
  exact hK' _ _ (hK v' w' r1 r2 r3)
theorem MidRow.low {w w' : World} {v : Value} {ss : List ByteArray} (h : MidRow w v ss) (k : Below w.heap.size w w') : MidRow w' v ss := h.keep (S := []) (Only.of_below k) (by simp)
theorem JS.more {w0 w w1 w' : World} {J g b : Nat} {v v' : Value} {r : Int} {L : List Rl} {first : ByteArray} {recs recs' : List ByteArray} {down : Bool} (H : JS w0 w J g b v r L first recs down) (k : Below w.heap.size w w1) (ho : Only (ownL v) w1 w') (hm : MidRow w' v' recs') (hq : ∀ q ∈ ownL v', q ∈ ownL v ∨ w1.heap.size ≤ q) :
    JS w0 (w'.setCell ⟨J, 2, none⟩ v') J g b v' r L first recs' down ∧ w'.cell? ⟨J, 2, none⟩ = some v ∧ w'.frozen? ⟨J, 2, none⟩ = false := by
  have H1 := H.low k
  have hlt : J < w1.heap.size := H1.j.lt
  have hJ : J ∉ ownL v' := fun h => by
    rcases hq _ h with h | h
    · exact H.j.nq h
    · omega
  have hw0 : w0.heap.size ≤ w1.heap.size := H1.ch.2.1.size
  have hon : Only (J :: ownL v) w1 (w'.setCell ⟨J, 2, none⟩ v') := ((Only.refl _ _).join ho (fun i hi => Or.inl (List.mem_cons_of_mem _ hi))).setCell (Or.inl (by simp)) _
  refine ⟨⟨H1.j.more ho hm hJ, H1.ch.aside hon ?_ ?_ ?_, H.jb, ?_, H.jg, H.jbn, ?_, ?_⟩, ho.cellK H.j.nq H1.j.c2, ho.frozenK H.j.nq H1.j.c2 H1.j.f2⟩
  · intro h
    rcases List.mem_cons.mp h with h | h
    · exact H.jg h.symm
    · exact H.vg h
  · intro h
    rcases List.mem_cons.mp h with h | h
    · exact H.jbn h.symm
    · exact H.vbn h
  · intro i h
    rcases List.mem_cons.mp h with h | h
    · exact h ▸ H.jb
    · exact H.vb _ h
  · intro q h
    rcases hq _ h with h | h
    · exact H.vb _ h
    · omega
  · intro h
    have := H1.ch.1.ltg
    rcases hq _ h with h | h
    · exact H.vg h
    · omega
  · intro h
    have := H1.ch.1.ltb
    rcases hq _ h with h | h
    · exact H.vbn h
    · omega
theorem ne_nil {s : ByteArray} (hs : s.size ≤ 400000) : ((leafB s).toList == []) = false ∧ (leafB s).toList.isEmpty = false := by
  have h : ((leafB s).toList == []) = false := by
    rw [ByteArray.toList_eq, leafB_list, leafL_eq (by rw [← size_list]; exact hs), wrapT_eq]
    simp
  refine ⟨h, ?_⟩
  cases e : (leafB s).toList with
  | nil => rw [e] at h; simp at h
  | cons _ _ => rfl
theorem mem3 {J g b i : Nat} {l : List Nat} (h : i ∈ [g, b]) : i ∈ J :: g :: b :: l := by
  simp at h ⊢
  rcases h with rfl | rfl
  · exact Or.inr (Or.inl rfl)
  · exact Or.inr (Or.inr (Or.inl rfl))
theorem mem3' {J g b i : Nat} {l : List Nat} (h : i ∈ [J, g, b]) : i ∈ J :: g :: b :: l := by
  simp at h ⊢
  rcases h with rfl | rfl | rfl
  · exact Or.inl rfl
  · exact Or.inr (Or.inl rfl)
  · exact Or.inr (Or.inr (Or.inl rfl))
set_option maxRecDepth 100000 in
set_option maxHeartbeats 3200000 in
theorem jadd_ok {w0 w : World} {J g b : Nat} {v : Value} {r : Int} {L : List Rl} {first : ByteArray} {recs : List ByteArray} (LA : Laid w) (H : JS w0 w J g b v r L first recs false) (hL : L.length < 1000) (hk : OkL r L) (hR : Rising L) (hrl : recs.length < 1000000) (s : ByteArray) (hs : s.size ≤ 400000) (p : Bool) {r' : Int} {L' L2 : List Rl} (he : writeS r L bLOG.data.toList (leafB s) = (0, r', L')) (hp : p = true → pressS L' bLOG.data.toList = (0, L2)) (hp0 : p = false → L2 = L') :
    Calls Tryz.prog 59 #[.pointer (some ⟨J, 0, none⟩), .string s, .bool p] w fun e w' => e = .returned (.int .i64 0) ∧ ∃ v', JS w0 w' J g b v' r' L2 first (recs ++ [s]) false ∧ Only (J :: g :: b :: ownL v) w w' ∧ ∀ q ∈ ownL v', q ∈ ownL v ∨ w.heap.size ≤ q := by
  have HLf := Lib.hid (leaf_any s w LA (by omega))
  obtain ⟨hne, hne2⟩ := ne_nil hs
  have hok := writeS_ok hk hR bLOG.data.toList (leafB s)
  rw [he] at hok
  have hok1 : L'.length ≤ L.length + 1 := hok.2.2.1
  have hok2 : OkL r' L' := hok.1
  have HW : Hid (∀ w1, ChS w0 w1 g b r L → Calls Tryz.prog 78 #[.pointer (some ⟨g, 0, none⟩), .string ⟨#[76, 79, 71]⟩, .string (leafB s)] w1 fun e w' => e = .returned (.int .i64 0) ∧ ChS w0 w' g b r' L' ∧ Only [g, b] w1 w') := Lib.hid (fun w1 h1 => write_S h1 (by omega) hk ⟨#[76, 79, 71]⟩ (leafB s) (by decide) he)
  have HP : Hid (∀ w1 v', p = true → JS w0 w1 J g b v' r' L' first (recs ++ [s]) false → Calls Tryz.prog 85 #[.pointer (some ⟨J, 0, none⟩)] w1 fun e w' => e = .returned (.int .i64 0) ∧ JS w0 w' J g b v' r' L2 first (recs ++ [s]) ((0 : Int) != 0) ∧ Only [J, g, b] w1 w') := Lib.hid (fun w1 v' hpp h => jpress_any h (by omega) hok2 (hp hpp))
  have HP0 := Lib.hid hp0
  have HH := Lib.hid H
  have c3 := H.j.c3
  have hws : Hid (Only (J :: g :: b :: ownL v) w w) := Lib.hid (Only.refl _ _)
  generalize leafB s = F at HLf hne hne2 HW
  clear H hk he LA hok hok1 hok2 hp hp0
  go_enter Tryz.func59, Tryz.ntmps59
  go_wp2_with fail
  refine HLf.out.mono ?_
  rintro e w1 ⟨rfl, hb⟩
  have H1 := Lib.hid (HH.out.low hb)
  have O1 := Lib.hid (hws.out.top hb)
  clear hb c3
  have c0 := H1.out.j.c0
  go_wp2_with fail
  refine (HW.out _ H1.out.ch).mono ?_
  rintro e w2 ⟨rfl, hs, ho⟩
  have H2 := Lib.hid (H1.out.chest hs ho)
  have O2 := Lib.hid (O1.out.join ho (fun i hi => Or.inl (mem3 hi)))
  clear hs ho c0
  go_wp2_with fail
  refine (told_any H2.out.j 0).mono ?_
  rintro e w3 ⟨rfl, rfl⟩
  have H3 := Lib.hid (H2.out.tell (false || (0 : Int) != 0))
  have O3 : Hid (Only (J :: g :: b :: ownL v) w (w2.setCell ⟨J, 3, none⟩ (.bool (false || (0 : Int) != 0)))) := Lib.hid (O2.out.setCell (Or.inl (by simp)) _)
  generalize w2.setCell ⟨J, 3, none⟩ (.bool (false || (0 : Int) != 0)) = W at H3 O3 ⊢
  have H3' : Hid (JS w0 W J g b v r' L' first recs false) := H3
  clear H3
  have c2 := H3'.out.j.c2
  have hrl' := Lib.hid hrl
  clear hrl
  have HM : Hid (∀ o, MidRow (W.alloc o) v recs) := Lib.hid (fun o => H3'.out.j.mr.low (below_alloc (Below.refl _ _) _))
  cases p
  · obtain rfl := HP0.out rfl
    clear HP HP0
    go_wp2_with (at_builtin; refine wpList_more rfl _ _ rfl v recs rfl (HM.out _) s W.heap.size rfl (by simp) hrl'.out ?_; intro v' w5 hm ho hq; obtain ⟨a', c', rfl⟩ := hm.form; obtain ⟨h5, c5, f5⟩ := H3'.out.more (below_alloc (Below.refl _ _) _) ho hm hq; have H5 := Lib.hid h5; have O5 : Hid (Only (J :: g :: b :: ownL v) w (w5.setCell ⟨J, 2, none⟩ (.slice a' (recs ++ [s]).length c'))) := Lib.hid (((O3.out.alloc _).join ho (fun i hi => Or.inl (by simp [hi]))).setCell (Or.inl (by simp)) _); have HQ : Hid (∀ q ∈ ownL (.slice a' (recs ++ [s]).length c'), q ∈ ownL v ∨ w.heap.size ≤ q) := Lib.hid (fun q hq' => (hq q hq').imp_right (fun h => Nat.le_trans (Nat.le_trans O3.out.size (by simp)) h)); clear h5 hm ho hq)
    have h5 := H5.out
    have o5 := O5.out
    have hq5 := HQ.out
    simp only [List.length_append, List.length_cons, List.length_nil, Nat.zero_add] at h5 o5 hq5
    have H6 := Lib.hid h5
    have O6 := Lib.hid o5
    have Q6 := Lib.hid hq5
    clear h5 o5 hq5 H5 O5 HQ c2 c5 f5
    generalize w5.setCell ⟨J, 2, none⟩ (.slice a' (recs.length + 1) c') = W6 at H6 O6 ⊢
    go_wp2_with fail
    go_ret
    exact ⟨rfl, _, H6.out, O6.out, Q6.out⟩
  · have HP1 := Lib.hid (fun w1 v' h => HP.out w1 v' rfl h)
    clear HP HP0
    go_wp2_with (at_builtin; refine wpList_more rfl _ _ rfl v recs rfl (HM.out _) s W.heap.size rfl (by simp) hrl'.out ?_; intro v' w5 hm ho hq; obtain ⟨a', c', rfl⟩ := hm.form; obtain ⟨h5, c5, f5⟩ := H3'.out.more (below_alloc (Below.refl _ _) _) ho hm hq; have H5 := Lib.hid h5; have O5 : Hid (Only (J :: g :: b :: ownL v) w (w5.setCell ⟨J, 2, none⟩ (.slice a' (recs ++ [s]).length c'))) := Lib.hid (((O3.out.alloc _).join ho (fun i hi => Or.inl (by simp [hi]))).setCell (Or.inl (by simp)) _); have HQ : Hid (∀ q ∈ ownL (.slice a' (recs ++ [s]).length c'), q ∈ ownL v ∨ w.heap.size ≤ q) := Lib.hid (fun q hq' => (hq q hq').imp_right (fun h => Nat.le_trans (Nat.le_trans O3.out.size (by simp)) h)); clear h5 hm ho hq)
    have h5 := H5.out
    have o5 := O5.out
    have hq5 := HQ.out
    simp only [List.length_append, List.length_cons, List.length_nil, Nat.zero_add] at h5 o5 hq5
    have H6 := Lib.hid h5
    have O6 := Lib.hid o5
    have Q6 := Lib.hid hq5
    clear h5 o5 hq5 H5 O5 HQ c2 c5 f5
    generalize w5.setCell ⟨J, 2, none⟩ (.slice a' (recs.length + 1) c') = W6 at H6 O6 ⊢
    go_wp2_with fail
    refine (HP1.out _ _ H6.out).mono ?_
    rintro e w7 ⟨rfl, hj, ho⟩
    have H7 := Lib.hid hj
    have O7 := Lib.hid (O6.out.join ho (fun i hi => Or.inl (mem3' hi)))
    clear hj ho
    go_wp2_with fail
    go_ret
    exact ⟨rfl, _, H7.out, O7.out, Q6.out⟩
/-- The chest takes no more. -/
theorem jadd_full {w0 w : World} {J g b : Nat} {v : Value} {r : Int} {L : List Rl} {first : ByteArray} {recs : List ByteArray} (LA : Laid w) (H : JS w0 w J g b v r L first recs false) (hL : L.length < 1000) (hk : OkL r L) (s : ByteArray) (hs : s.size ≤ 400000) (p : Bool) {er r' : Int} {L' : List Rl} (h0 : (er != 0) = true) (he : writeS r L bLOG.data.toList (leafB s) = (er, r', L')) :
    Calls Tryz.prog 59 #[.pointer (some ⟨J, 0, none⟩), .string s, .bool p] w fun e w' => e = .returned (.int .i64 er) ∧ JS w0 w' J g b v r' L' first recs true ∧ Only (J :: g :: b :: ownL v) w w' := by
  have HLf := Lib.hid (leaf_any s w LA (by omega))
  obtain ⟨hne, hne2⟩ := ne_nil hs
  have HW : Hid (∀ w1, ChS w0 w1 g b r L → Calls Tryz.prog 78 #[.pointer (some ⟨g, 0, none⟩), .string ⟨#[76, 79, 71]⟩, .string (leafB s)] w1 fun e w' => e = .returned (.int .i64 er) ∧ ChS w0 w' g b r' L' ∧ Only [g, b] w1 w') := Lib.hid (fun w1 h1 => write_S h1 (by omega) hk ⟨#[76, 79, 71]⟩ (leafB s) (by decide) he)
  have HH := Lib.hid H
  have c3 := H.j.c3
  have hws : Hid (Only (J :: g :: b :: ownL v) w w) := Lib.hid (Only.refl _ _)
  generalize leafB s = F at HLf hne hne2 HW
  clear H hk he LA
  go_enter Tryz.func59, Tryz.ntmps59
  go_wp2_with fail
  refine HLf.out.mono ?_
  rintro e w1 ⟨rfl, hb⟩
  have H1 := Lib.hid (HH.out.low hb)
  have O1 := Lib.hid (hws.out.top hb)
  clear hb c3
  have c0 := H1.out.j.c0
  go_wp2_with fail
  refine (HW.out _ H1.out.ch).mono ?_
  rintro e w2 ⟨rfl, hs, ho⟩
  have H2 := Lib.hid (H1.out.chest hs ho)
  have O2 := Lib.hid (O1.out.join ho (fun i hi => Or.inl (mem3 hi)))
  clear hs ho c0
  go_wp2_with fail
  refine (told_any H2.out.j er).mono ?_
  rintro e w3 ⟨rfl, rfl⟩
  have H3 := Lib.hid (H2.out.tell (false || er != 0))
  have O3 : Hid (Only (J :: g :: b :: ownL v) w (w2.setCell ⟨J, 3, none⟩ (.bool (false || er != 0)))) := Lib.hid (O2.out.setCell (Or.inl (by simp)) _)
  rw [h0] at H3 O3 ⊢
  generalize w2.setCell ⟨J, 3, none⟩ (.bool (false || true)) = W at H3 O3 ⊢
  have H3' : Hid (JS w0 W J g b v r' L' first recs true) := H3
  clear H3
  go_wp2_with fail
  go_ret
  exact ⟨rfl, H3'.out, O3.out⟩
set_option maxRecDepth 100000 in
set_option maxHeartbeats 3200000 in
theorem jlay_ok {w0 w : World} {J g b : Nat} {v : Value} {r : Int} {L : List Rl} {first : ByteArray} {recs : List ByteArray} (LA : Laid w) (H : JS w0 w J g b v r L first recs false) (hL : L.length < 900) (hk : OkL r L) (hR : Rising L) (s : ByteArray) (hs : s.size ≤ 400000) {r1 r2 : Int} {La L1 L2 : List Rl} (he : writeS r L bNEW.data.toList (leafB s) = (0, r1, La)) (hp : pressS La bNEW.data.toList = (0, L1)) (hc : callS r1 L1 bNEW.data.toList bLOG.data.toList = (0, r2, L2)) :
    Calls Tryz.prog 65 #[.pointer (some ⟨J, 0, none⟩), .string s] w fun e w' => e = .returned (.int .i64 0) ∧ JS w0 w' J g b (.slice none 0 0) r2 L2 s [] false ∧ Only [J, g, b] w w' := by
  have HLf := Lib.hid (leaf_any s w LA (by omega))
  obtain ⟨hne, hne2⟩ := ne_nil hs
  have h3 := writeS_ok hk hR bNEW.data.toList (leafB s)
  rw [he] at h3
  have h5 : La.length ≤ L.length + 1 := h3.2.2.1
  have h6 := pressS_ok h3.1 h3.2.1 bNEW.data.toList
  rw [hp] at h6
  have h7 : L1.length ≤ La.length + 1 := h6.2.2.1
  have h8 : OkL r1 L1 := h6.1
  have HW : Hid (∀ w1, JS w0 w1 J g b v r L first recs false → Calls Tryz.prog 52 #[.pointer (some ⟨J, 0, none⟩), .string ⟨#[78, 69, 87]⟩, .string (leafB s)] w1 fun e w' => e = .returned (.int .i64 0) ∧ ChS w0 w' g b r1 L1 ∧ Only [g, b] w1 w') := Lib.hid (fun w1 h1 => jwrites_ok h1 (by omega) hk hR ⟨#[78, 69, 87]⟩ (leafB s) (by decide) he hp)
  have HC : Hid (∀ w1, ChS w0 w1 g b r1 L1 → Calls Tryz.prog 49 #[.pointer (some ⟨g, 0, none⟩), .string ⟨#[78, 69, 87]⟩, .string ⟨#[76, 79, 71]⟩] w1 fun e w' => e = .returned (.int .i64 0) ∧ ChS w0 w' g b r2 L2 ∧ Only [g, b] w1 w') := Lib.hid (fun w1 h1 => rcall_S h1 (by omega) h8 ⟨#[78, 69, 87]⟩ ⟨#[76, 79, 71]⟩ (by decide) (by decide) hc)
  have HH := Lib.hid H
  have c3 := H.j.c3
  have hws : Hid (Only [J, g, b] w w) := Lib.hid (Only.refl _ _)
  generalize leafB s = F at HLf hne hne2 HW
  clear H hk he LA h3 h5 h6 h7 h8 hp hc
  go_enter Tryz.func65, Tryz.ntmps65
  go_wp2_with fail
  refine HLf.out.mono ?_
  rintro e w1 ⟨rfl, hb⟩
  have H1 := Lib.hid (HH.out.low hb)
  have O1 := Lib.hid (hws.out.top hb)
  clear hb c3
  have c0 := H1.out.j.c0
  go_wp2_with fail
  refine (HW.out _ H1.out).mono ?_
  rintro e w2 ⟨rfl, hs, ho⟩
  have H2 := Lib.hid (H1.out.chest hs ho)
  have O2 := Lib.hid (O1.out.join ho (fun i hi => Or.inl (mem3 hi)))
  clear hs ho c0
  go_wp2_with fail
  refine (told_any H2.out.j 0).mono ?_
  rintro e w3 ⟨rfl, rfl⟩
  have H3 := Lib.hid (H2.out.tell (false || (0 : Int) != 0))
  have O3 : Hid (Only [J, g, b] w (w2.setCell ⟨J, 3, none⟩ (.bool (false || (0 : Int) != 0)))) := Lib.hid (O2.out.setCell (Or.inl (by simp)) _)
  generalize w2.setCell ⟨J, 3, none⟩ (.bool (false || (0 : Int) != 0)) = W at H3 O3 ⊢
  have H3' : Hid (JS w0 W J g b v r1 L1 first recs false) := H3
  clear H3
  have H4 := Lib.hid (JS.state H3'.out s)
  have O4 : Hid (Only [J, g, b] w ((W.setCell ⟨J, 1, none⟩ (.string s)).setCell ⟨J, 2, none⟩ (.slice none 0 0))) := Lib.hid ((O3.out.setCell (Or.inl (by simp)) _).setCell (Or.inl (by simp)) _)
  have c0 := H3'.out.j.c0
  have c1 := H3'.out.j.c1
  have c2 := H3'.out.j.c2
  have f1 := H3'.out.j.f1
  have f2 := H3'.out.j.f2
  go_wp2_with fail
  refine (HC.out _ H4.out.ch).mono ?_
  rintro e w5 ⟨rfl, hs, ho⟩
  have H5 := Lib.hid (H4.out.chest hs ho)
  have O5 := Lib.hid (O4.out.join ho (fun i hi => Or.inl (mem3 hi)))
  clear hs ho c0 c1 c2 f1 f2
  go_wp2_with fail
  refine (told_any H5.out.j 0).mono ?_
  rintro e w6 ⟨rfl, rfl⟩
  have H6 := Lib.hid (H5.out.tell (false || (0 : Int) != 0))
  have O6 : Hid (Only [J, g, b] w (w5.setCell ⟨J, 3, none⟩ (.bool (false || (0 : Int) != 0)))) := Lib.hid (O5.out.setCell (Or.inl (by simp)) _)
  generalize w5.setCell ⟨J, 3, none⟩ (.bool (false || (0 : Int) != 0)) = W6 at H6 O6 ⊢
  have H6' : Hid (JS w0 W6 J g b (.slice none 0 0) r2 L2 s [] false) := H6
  clear H6
  go_wp2_with fail
  go_ret
  exact ⟨rfl, H6'.out, O6.out⟩
end Go.Proofs.YthiphdcbboapkaaGreatDoor
namespace Go.Proofs.YthiphdcbboapkaaGreatDoor
open Go.RowKit

/-- From a place in a text: the leaves read, where that ends, and what is told there. -/
inductive PRun (s : ByteArray) : Nat → List ByteArray → Nat → Nat → Prop
  | stop : PRun s s.size [] s.size 0
  | err (k e : Nat) : k < s.size → (turnS (s.extract k s.size)).2.2 = e → e ≠ 0 → PRun s k [] k e
  | step (k n : Nat) (x : ByteArray) (rest : List ByteArray) (at' e : Nat) : k < s.size → turnS (s.extract k s.size) = (x, n, 0) → PRun s (k + n) rest at' e → PRun s k (x :: rest) at' e
theorem turn_step {s x : ByteArray} {k n : Nat} (_hk : k < s.size) (h : turnS (s.extract k s.size) = (x, n, 0)) : 8 < n ∧ k + n ≤ s.size := by
  obtain ⟨-, h1, h2⟩ := turn_ok h
  rw [ByteArray.size_extract] at h2
  omega
theorem PRun.le {s : ByteArray} {k a e : Nat} {l : List ByteArray} (h : PRun s k l a e) : k ≤ a ∧ a ≤ s.size ∧ l.length + k ≤ a := by
  induction h with
  | stop => simp
  | err k e h1 h2 h3 => exact ⟨Nat.le_refl _, by omega, by simp⟩
  | step k n x rest at' e h1 h2 h3 ih =>
    have := turn_step h1 h2
    simp only [List.length_cons]
    omega
theorem PRun.e3 {s : ByteArray} {k a e : Nat} {l : List ByteArray} (h : PRun s k l a e) : (e = 0 ∧ a = s.size) ∨ (e = 2 ∧ a < s.size) ∨ (e = 3 ∧ a < s.size) := by
  induction h with
  | stop => simp
  | err k e h1 h2 h3 => have := turnS_bd (s.extract k s.size); omega
  | step k n x rest at' e h1 h2 h3 ih => exact ih
theorem PRun.has (s : ByteArray) : ∀ (m k : Nat), s.size - k ≤ m → k ≤ s.size → ∃ l a e, PRun s k l a e
  | 0, k, h, hk => by
    obtain rfl : k = s.size := by omega
    exact ⟨_, _, _, .stop⟩
  | m + 1, k, h, hk => by
    by_cases h1 : k = s.size
    · subst h1; exact ⟨_, _, _, .stop⟩
    · by_cases h2 : (turnS (s.extract k s.size)).2.2 = 0
      · have h3 : turnS (s.extract k s.size) = ((turnS (s.extract k s.size)).1, (turnS (s.extract k s.size)).2.1, 0) := by rw [← h2]
        have := turn_step (by omega) h3
        obtain ⟨l, a, e, hr⟩ := PRun.has s m (k + (turnS (s.extract k s.size)).2.1) (by omega) (by omega)
        exact ⟨_, _, _, .step _ _ _ _ _ _ (by omega) h3 hr⟩
      · exact ⟨_, _, _, .err _ _ (by omega) rfl h2⟩

theorem JS.start {w0 w1 : World} {g b : Nat} {r : Int} {L : List Rl} (H : ChS w0 w1 g b r L) (ty : TypeId) : JS w0 (w1.alloc (.cells #[.pointer (some ⟨g, 0, none⟩), .string ⟨#[]⟩, .slice none 0 0, .bool false] ty)) w1.heap.size g b (.slice none 0 0) r L ⟨#[]⟩ [] false := by
  have hb : Below w1.heap.size w1 (w1.alloc (.cells #[.pointer (some ⟨g, 0, none⟩), .string ⟨#[]⟩, .slice none 0 0, .bool false] ty)) := below_alloc (Below.refl _ _) _
  have h1 := H.1.ltg
  have h2 := H.1.ltb
  refine ⟨⟨by simp, by simp, by simp, by simp, by simp, by simp, by simp, Or.inl ⟨rfl, rfl⟩, by simp [ownL_nil]⟩, H.low hb, H.2.1.size, by simp [ownL_nil], by omega, by omega, by simp [ownL_nil], by simp [ownL_nil]⟩
/-- A row of the call's own beside a journal. -/
structure RowS (B : Nat) (w : World) (J g b : Nat) (v : Value) (ss : List ByteArray) : Prop where
  mr : MidRow w v ss
  vb : ∀ q ∈ ownL v, B ≤ q ∧ q ≠ J ∧ q ≠ g ∧ q ≠ b
theorem RowS.nil (B : Nat) (w : World) (J g b : Nat) : RowS B w J g b (.slice none 0 0) [] := ⟨Or.inl ⟨rfl, rfl⟩, by simp [ownL_nil]⟩
theorem RowS.low {B : Nat} {w w' : World} {J g b : Nat} {v : Value} {ss : List ByteArray} (h : RowS B w J g b v ss) (k : Below w.heap.size w w') : RowS B w' J g b v ss := ⟨h.mr.low k, h.vb⟩
theorem RowS.keep {B : Nat} {w w' : World} {J g b : Nat} {v : Value} {ss : List ByteArray} (h : RowS B w J g b v ss) (k : Only [g, b] w w') : RowS B w' J g b v ss := ⟨h.mr.keep k (fun q hq => by
  have := h.vb q hq
  simp
  exact ⟨this.2.2.1, this.2.2.2⟩), h.vb⟩
theorem JS.aside {w0 w w' : World} {J g b : Nat} {v : Value} {r : Int} {L : List Rl} {first : ByteArray} {recs : List ByteArray} {down : Bool} {S : List Nat} (h : JS w0 w J g b v r L first recs down) (k : Only S w w') (hJ : J ∉ S) (hg : g ∉ S) (hb : b ∉ S) (hv : ∀ q ∈ ownL v, q ∉ S) (hS : ∀ i ∈ S, w0.heap.size ≤ i) : JS w0 w' J g b v r L first recs down :=
  ⟨h.j.keep k hJ hv, h.ch.aside k hg hb hS, h.jb, h.vb, h.jg, h.jbn, h.vg, h.vbn⟩
/-- One more in the row beside. -/
theorem RowS.more {wb w0 w w1 w' : World} {J g b : Nat} {v v' : Value} {r : Int} {L : List Rl} {first : ByteArray} {ss ss' : List ByteArray} (R : RowS wb.heap.size w J g b v ss) (H : JS w0 w J g b (.slice none 0 0) r L first [] false) (hw : w0.heap.size ≤ wb.heap.size) (O : Only [g, b] wb w) (k : Below w.heap.size w w1) (ho : Only (ownL v) w1 w') (hm : MidRow w' v' ss') (hq : ∀ q ∈ ownL v', q ∈ ownL v ∨ w1.heap.size ≤ q) :
    RowS wb.heap.size w' J g b v' ss' ∧ JS w0 w' J g b (.slice none 0 0) r L first [] false ∧ Only [g, b] wb w' := by
  have H1 := H.low k
  have hJ := H1.j.lt
  have hg := H1.ch.1.ltg
  have hb := H1.ch.1.ltb
  have h0 := O.size
  have h1 := k.size
  refine ⟨⟨hm, fun q h => ?_⟩, H1.aside ho (fun h => (R.vb _ h).2.1 rfl) (fun h => (R.vb _ h).2.2.1 rfl) (fun h => (R.vb _ h).2.2.2 rfl) (by simp [ownL_nil]) (fun i h => by have := (R.vb _ h).1; omega), (O.top k).join ho (fun i h => Or.inr (R.vb _ h).1)⟩
  rcases hq q h with h | h
  · exact R.vb _ h
  · omega
theorem PRun.fin {s : ByteArray} {k a e : Nat} {l : List ByteArray} (h : PRun s k l a e) (hk : k = s.size) : l = [] ∧ a = k ∧ e = 0 := by
  cases h with
  | stop => exact ⟨rfl, rfl, rfl⟩
  | err k e h1 h2 h3 => omega
  | step k n x rest at' e h1 h2 h3 => omega
theorem PRun.inv {s : ByteArray} {k a e : Nat} {l : List ByteArray} (h : PRun s k l a e) (hk : k < s.size) {x : ByteArray} {n e5 : Nat} (hx : turnS (s.extract k s.size) = (x, n, e5)) :
    (e5 = 0 ∧ ∃ l', l = x :: l' ∧ PRun s (k + n) l' a e ∧ 8 < n ∧ k + n ≤ s.size) ∨ (e5 = 2 ∧ l = [] ∧ a = k ∧ e = 2) ∨ (e5 = 3 ∧ l = [] ∧ a = k ∧ e = 3) := by
  cases h with
  | stop => omega
  | err k e h1 h2 h3 =>
    rw [hx] at h2
    simp only at h2
    subst h2
    have := turnS_bd (s.extract k s.size)
    rw [hx] at this
    simp only at this
    rcases this with h | h | h
    · exact absurd h h3
    · exact Or.inr (Or.inl ⟨h, rfl, rfl, h⟩)
    · exact Or.inr (Or.inr ⟨h, rfl, rfl, h⟩)
  | step k n' x' rest at' e h1 h2 h3 =>
    rw [hx] at h2
    simp only [Prod.mk.injEq] at h2
    obtain ⟨rfl, rfl, rfl⟩ := h2
    have := turn_step hk hx
    exact Or.inl ⟨rfl, _, rfl, h3, this⟩
set_option maxRecDepth 100000 in
/-- What stands behind the first of a row. -/
theorem mid_rest {w : World} {v : Value} {f : ByteArray} {rs : List ByteArray} (h : MidRow w v (f :: rs)) :
    ∃ q o o' cap, v = .slice (some ⟨q, o, none⟩) (rs.length + 1) cap ∧ w.cell? ⟨q, o, none⟩ = some (.string f) ∧ (∀ w', (Instr.slice 77 (.slice (some ⟨q, o, none⟩) (rs.length + 1) cap) (some (.int .i64 1)) none none).run Tryz.prog w' = .ok (.slice (some ⟨q, o', none⟩) rs.length (cap - 1)) w') ∧ MidRow w (.slice (some ⟨q, o', none⟩) rs.length (cap - 1)) rs := by
  rcases h with ⟨rfl, h⟩ | ⟨q, o, cap, rfl, h1, h2, h3, h4, h5⟩
  · cases h
  · simp only [List.length_cons] at h1 ⊢
    refine ⟨q, o, if cap = 1 then o else o + 1, cap, rfl, h4 0 f rfl, fun w' => ?_, Or.inr ⟨q, _, cap - 1, rfl, by omega, by unfold maxLen at *; omega, h3, fun j s hj => ?_, fun j hj => ?_⟩⟩
    · obtain ⟨i, hi, -, hsz, -⟩ := infoStr'
      have e1 : Tryz.prog.elem 77 = 9 := by kernel_rfl
      have e2 : (sizeOf (Tryz.prog.elem 77)).run Tryz.prog w' = .ok 1 w' := by rw [e1]; simp [sizeOf, typeInfo, hi, hsz]
      rw [run_slice_l w' _ _ _ _ Tryz.underlying77 _ _ (by omega) (by omega), e2]
      simp only [Result.andThen, sliced]
      by_cases hc : cap = 1
      · subst hc; simp
      · rw [if_neg hc]; simp [Addr.add, hc]
    · have hl := (List.getElem?_eq_some_iff.mp hj).1
      have hc : cap ≠ 1 := by omega
      rw [if_neg hc]
      have := h4 (j + 1) s hj
      rw [show o + 1 + j = o + (j + 1) by omega]; exact this
    · have hc : cap ≠ 1 := by omega
      rw [if_neg hc]
      rw [show o + 1 + j = o + (j + 1) by omega]; exact h5 (j + 1) (by omega)
/-- First and records laid anew. -/
theorem JAt.lay {w : World} {J g : Nat} {v v' : Value} {first : ByteArray} {recs recs' : List ByteArray} {down : Bool} (h : JAt w J g v first recs down) (s : ByteArray) (hm : MidRow w v' recs') (hq : J ∉ ownL v') :
    JAt ((w.setCell ⟨J, 1, none⟩ (.string s)).setCell ⟨J, 2, none⟩ v') J g v' s recs' down ∧ JAt ((w.setCell ⟨J, 2, none⟩ v').setCell ⟨J, 1, none⟩ (.string s)) J g v' s recs' down := by
  have ho : Only [J] w ((w.setCell ⟨J, 1, none⟩ (.string s)).setCell ⟨J, 2, none⟩ v') := ((Only.refl _ _).setCell (Or.inl (by simp)) _).setCell (Or.inl (by simp)) _
  have ho2 : Only [J] w ((w.setCell ⟨J, 2, none⟩ v').setCell ⟨J, 1, none⟩ (.string s)) := ((Only.refl _ _).setCell (Or.inl (by simp)) _).setCell (Or.inl (by simp)) _
  refine ⟨⟨?_, ?_, ?_, ?_, ?_, ?_, ?_, hm.keep ho (fun q hq2 => by simp; rintro rfl; exact hq hq2), hq⟩, ⟨?_, ?_, ?_, ?_, ?_, ?_, ?_, hm.keep ho2 (fun q hq2 => by simp; rintro rfl; exact hq hq2), hq⟩⟩
  · rw [World.cell?_setCell_other _ _ _ _ (by simp), World.cell?_setCell_other _ _ _ _ (by simp)]; exact h.c0
  · rw [World.cell?_setCell_other _ _ _ _ (by simp)]; exact World.cell?_setCell_same _ _ _ h.c1
  · exact World.cell?_setCell_same _ _ _ (by rw [World.cell?_setCell_other _ _ _ _ (by simp)]; exact h.c2)
  · rw [World.cell?_setCell_other _ _ _ _ (by simp), World.cell?_setCell_other _ _ _ _ (by simp)]; exact h.c3
  · rw [World.frozen?_setCell, World.frozen?_setCell]; exact h.f1
  · rw [World.frozen?_setCell, World.frozen?_setCell]; exact h.f2
  · rw [World.frozen?_setCell, World.frozen?_setCell]; exact h.f3
  · rw [World.cell?_setCell_other _ _ _ _ (by simp), World.cell?_setCell_other _ _ _ _ (by simp)]; exact h.c0
  · exact World.cell?_setCell_same _ _ _ (by rw [World.cell?_setCell_other _ _ _ _ (by simp)]; exact h.c1)
  · rw [World.cell?_setCell_other _ _ _ _ (by simp)]; exact World.cell?_setCell_same _ _ _ h.c2
  · rw [World.cell?_setCell_other _ _ _ _ (by simp), World.cell?_setCell_other _ _ _ _ (by simp)]; exact h.c3
  · rw [World.frozen?_setCell, World.frozen?_setCell]; exact h.f1
  · rw [World.frozen?_setCell, World.frozen?_setCell]; exact h.f2
  · rw [World.frozen?_setCell, World.frozen?_setCell]; exact h.f3
theorem JS.lay {B : Nat} {w0 w : World} {J g b : Nat} {v v' : Value} {r : Int} {L : List Rl} {first : ByteArray} {recs recs' : List ByteArray} {down : Bool} (h : JS w0 w J g b v r L first recs down) (hB : w0.heap.size ≤ B) (s : ByteArray) (R : RowS B w J g b v' recs') :
    JS w0 ((w.setCell ⟨J, 1, none⟩ (.string s)).setCell ⟨J, 2, none⟩ v') J g b v' r L s recs' down ∧ JS w0 ((w.setCell ⟨J, 2, none⟩ v').setCell ⟨J, 1, none⟩ (.string s)) J g b v' r L s recs' down := by
  have hq : J ∉ ownL v' := fun h => (R.vb _ h).2.1 rfl
  have ho : Only [J] w ((w.setCell ⟨J, 1, none⟩ (.string s)).setCell ⟨J, 2, none⟩ v') := ((Only.refl _ _).setCell (Or.inl (by simp)) _).setCell (Or.inl (by simp)) _
  have ho2 : Only [J] w ((w.setCell ⟨J, 2, none⟩ v').setCell ⟨J, 1, none⟩ (.string s)) := ((Only.refl _ _).setCell (Or.inl (by simp)) _).setCell (Or.inl (by simp)) _
  exact ⟨⟨(h.j.lay s R.mr hq).1, h.ch.aside ho (by simpa using h.jg.symm) (by simpa using h.jbn.symm) (by simpa using h.jb), h.jb, fun q hq => Nat.le_trans hB (R.vb q hq).1, h.jg, h.jbn, fun h => (R.vb _ h).2.2.1 rfl, fun h => (R.vb _ h).2.2.2 rfl⟩,
    ⟨(h.j.lay s R.mr hq).2, h.ch.aside ho2 (by simpa using h.jg.symm) (by simpa using h.jbn.symm) (by simpa using h.jb), h.jb, fun q hq => Nat.le_trans hB (R.vb q hq).1, h.jg, h.jbn, fun h => (R.vb _ h).2.2.1 rfl, fun h => (R.vb _ h).2.2.2 rfl⟩⟩
theorem JS.drew {w0 w : World} {J g b : Nat} {v : Value} {r : Int} {L : List Rl} {first : ByteArray} {recs : List ByteArray} {down : Bool} (h : JS w0 w J g b v r L first recs down) : JS w0 w.drew J g b v r L first recs down :=
  h.low (below_drewN (Below.refl _ _) 1)
/-- What Open comes to. -/
def OpenR (w0 w : World) (g b : Nat) (r : Int) (L : List Rl) (all : List ByteArray) (er : Nat) (e : Ending) (w' : World) : Prop :=
  ((er = 3 ∨ all = []) ∧ e = .returned (.tuple #[.pointer none, .int .i64 3]) ∧ Below w0.heap.size w0 w') ∨
  ∃ f rs J v, all = f :: rs ∧ er ≠ 3 ∧ e = .returned (.tuple #[.pointer (some ⟨J, 0, none⟩), .int .i64 0]) ∧ JS w0 w' J g b v r L f rs false ∧ (w.heap.size ≤ J ∧ ∀ q ∈ ownL v, w.heap.size ≤ q) ∧ Only [g, b] w w'
end Go.Proofs.YthiphdcbboapkaaGreatDoor
