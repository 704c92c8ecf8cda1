/- Walks of chief.Open: a new chief, none. What a tear leaves; chief.Open of it. -/
import Derived.Test.YthiphdcbboapkaaGreatDoorHj
namespace Go.Proofs.YthiphdcbboapkaaGreatDoor
open Go.RowKit Go.Maps

set_option maxRecDepth 100000
/-- A chief that has nobody yet. -/
def bareS (now : Int) (le : Int) (lzs : List Int) (lnw : Int) (k : Nat) : St := { e := 0, zs := [], nw := 0, e2 := 0, zs2 := [], nw2 := 0, un := now, hd := fun _ => 0, asks := 0, lost := false, k := k, m := 0, on := false, le := le, lzs := lzs, lnw := lnw }
def bareF (J g b : Nat) (v : Value) : Ft := { J := J, g := g, b := b, v := v, hb := none, a := none, c := 0, a2 := none, c2 := 0 }
def bareC (J : Nat) (now : Int) : Array Value := #[.pointer (some ⟨J, 0, none⟩), .int .i64 0, .slice none 0 0, .int .i64 0, .int .i64 0, .slice none 0 0, .int .i64 0, .int .i64 now, .map none, .int .i64 0, .bool false, .bool false]
/-- A new chief. -/
def newS (e : Int) (zs : List Int) (now : Int) : St := hearS (setR (bareS now 0 [] 0 0) e zs 0) now
theorem CH.birth {w0 w : World} {J g b : Nat} {v : Value} {le : Int} {lzs : List Int} {lnw : Int} {k : Nat} (h : JB w0 w J g b v le lzs lnw k) (now : Int) (ty : TypeId) : CH w0 (w.alloc (.cells (bareC J now) ty)) w.heap.size (bareS now le lzs lnw k) (bareF J g b v) := by
  have hb := below_alloc (Below.refl w.heap.size w) (.cells (bareC J now) ty)
  have ho : Only [] w (w.alloc (.cells (bareC J now) ty)) := Only.of_below hb
  have hjb := h.aside ho (by simp) (by simp)
  obtain ⟨n, r, L, s, kk, recs, hj, -⟩ := h
  have z0 := hj.js.ch.2.1.size
  have zJ := hj.js.j.lt
  have zg := hj.js.ch.1.ltg
  have zb := hj.js.ch.1.ltb
  have zv := hj.js.j.mr.lt
  have yJ := hj.js.jb
  have yg := hj.js.ch.2.2.1
  have yb := hj.js.ch.2.2.2
  have yv := hj.js.vb
  have hjo : ∀ q ∈ jown (bareF J g b v), w0.heap.size ≤ q ∧ q < w.heap.size := fun q hq => by
    rcases mem_jown.1 hq with h | h | h | h
    · change q = J at h; subst h; exact ⟨yJ, zJ⟩
    · change q = g at h; subst h; exact ⟨yg, zg⟩
    · change q = b at h; subst h; exact ⟨yb, zb⟩
    · exact ⟨yv q h, zv q h⟩
  refine ⟨ChfAt.of (lt12 ?_ ?_ ?_ ?_ ?_ ?_ ?_ ?_ ?_ ?_ ?_ ?_) (fun i => World.frozen?_alloc_new _ _ _ _) (Or.inl rfl) (Or.inl rfl), hjb, (fun h => by cases h), fun q hq => ?_, fun hm => ?_, fun q hq => ?_, fun q hq => ?_, fun q hq => ?_, fun q hq => ?_⟩
  · exact World.cell?_alloc_new w _ ty 0
  · exact World.cell?_alloc_new w _ ty 1
  · exact World.cell?_alloc_new w _ ty 2
  · exact World.cell?_alloc_new w _ ty 3
  · exact World.cell?_alloc_new w _ ty 4
  · exact World.cell?_alloc_new w _ ty 5
  · exact World.cell?_alloc_new w _ ty 6
  · exact World.cell?_alloc_new w _ ty 7
  · exact World.cell?_alloc_new w _ ty 8
  · exact World.cell?_alloc_new w _ ty 9
  · exact World.cell?_alloc_new w _ ty 10
  · exact World.cell?_alloc_new w _ ty 11
  · rcases mem_own.1 hq with h | h | h
    · omega
    · simp [bareF] at h
    · exact (hjo q h).1
  · rcases List.mem_append.1 hm with h | h
    · simp [bareF] at h
    · have := (hjo _ h).2; omega
  · simp [bareF] at hq
  · simp [bareF, rowB] at hq
  · simp [bareF, rowB] at hq
  · rw [World.size_alloc]
    rcases mem_foot.1 hq with h | h | h
    · rcases mem_own.1 h with h | h | h
      · omega
      · simp [bareF] at h
      · have := (hjo q h).2; omega
    · simp [bareF, rowB] at h
    · simp [bareF, rowB] at h
theorem jb_fresh {w0 w : World} {J g b : Nat} {v : Value} {r : Int} {L : List Rl} {kk : Bool} (h : JL w0 w J g b v 3 r L (leafB ⟨#[]⟩) 11 kk ⟨#[]⟩ []) (hr : 1040000 ≤ r) : JB w0 w J g b v 0 [] 0 0 :=
  ⟨3, r, L, _, kk, [], by rw [leaf_nil_size]; exact h, by omega, by simpa using hr, by simp, fun h => absurd rfl h⟩
set_option maxHeartbeats 6400000 in
theorem chopen_fresh {w0 w : World} (LA : Laid w0) {g b : Nat} {r : Int} (H : ChS w0 w g b r []) (h1 : 1040011 ≤ r) (h2 : r ≤ 1048576) {e : Int} {zs : List Int} {a : Option Addr} {c : Nat} (hm : mayB e zs 0 = true) (hz : IntsAt w a zs) (ha : ∀ q ∈ rowB a, q ≠ g ∧ q ≠ b) {now : Int} (hn : fitI now) :
    Calls Tryz.prog 15 #[.pointer (some ⟨g, 0, none⟩), rosV e a zs c 0, .int .i64 now] w fun e' w' => ∃ x f, e' = .returned (.tuple #[.pointer (some ⟨x, 0, none⟩), .int .i64 0]) ∧ CH w0 w' x (newS e zs now) f ∧ f.g = g ∧ Only [g, b] w w' ∧ ∀ q ∈ foot x f, q = g ∨ q = b ∨ w.heap.size ≤ q := by
  obtain ⟨hok, hl1, hl5, -, hmem, -⟩ := mayB_ok hm
  have hgl := H.1.ltg
  have hbl := H.1.ltb
  have hne : zs ≠ [] := fun h => by rw [h] at hl1; simp at hl1
  have halt : ∀ q ∈ rowB a, q < w.heap.size := fun q hq => by
    rcases hz with h | ⟨bb, off, rfl, hb, -⟩
    · exact absurd h hne
    · simp [rowB] at hq; subst hq; exact hb
  have hB := below_alloc (Below.refl w.heap.size w) (.cells #[.int .i64 e, .slice a zs.length c, .int .i64 0] 24)
  have HY := Lib.hid (B3.new w (.int .i64 e) (.slice a zs.length c) (.int .i64 0) 24)
  have HS := Lib.hid (H.low hB)
  have HZ := Lib.hid (hz.keep hB)
  have HB := Lib.hid hB
  have HL := Lib.hid LA
  have HM := Lib.hid hm
  have HA := Lib.hid ha
  have HAl := Lib.hid halt
  have HN := Lib.hid hn
  have HMem := Lib.hid hmem
  have HR : Hid (1040011 ≤ r ∧ r ≤ 1048576) := Lib.hid ⟨h1, h2⟩
  have HG : Hid (g < w.heap.size ∧ b < w.heap.size) := Lib.hid ⟨hgl, hbl⟩
  clear H hz ha hn hm hB LA hne halt hok hmem h1 h2 hgl hbl
  go_enter Tryz.func15, Tryz.ntmps15
  go_wp2_with fail
  have hV : w.heap.size + 1 = (w.alloc (.cells #[.int .i64 e, .slice a zs.length c, .int .i64 0] 24)).heap.size := by simp
  have HV := Lib.hid hV
  clear hV
  generalize w.alloc (.cells #[.int .i64 e, .slice a zs.length c, .int .i64 0] 24) = V at HY HS HZ HB HV ⊢
  refine (open_fresh HL.out HS.out (by have := HR.out; omega) HR.out.2).mono ?_
  rintro e' w1 ⟨J, v, L, rfl, hj, ⟨hJ, hvq⟩, ho⟩
  have hrg : w.heap.size ∉ [g, b] := fun hm => by
    have := HG.out
    simp at hm; omega
  have HY1 := Lib.hid (HY.out.keepO ho hrg)
  have HZ1 := Lib.hid (HZ.out.keepO ho (fun q hq hm => by
    have := HA.out q hq
    simp at hm; omega))
  have HJ1 := Lib.hid (jb_fresh hj (by have := HR.out; omega))
  have HRec := Lib.hid hj.js.j
  have HO1 := Lib.hid (HB.out)
  have hO : Only [g, b] w w1 := (Only.of_below HB.out).trans ho
  have HO := Lib.hid hO
  have HOw : Hid (∀ x, w.heap.size ≤ x → ∀ q ∈ foot x (bareF J g b v), q = g ∨ q = b ∨ w.heap.size + 1 ≤ q ∨ q = x) := Lib.hid (fun x _ q hq => by
    have h4 := HV.out
    rcases mem_foot.1 hq with h | h | h
    · rcases mem_own.1 h with h | h | h
      · exact Or.inr (Or.inr (Or.inr h))
      · simp [bareF] at h
      · rcases mem_jown.1 h with h | h | h | h
        · change q = J at h; exact Or.inr (Or.inr (Or.inl (by omega)))
        · exact Or.inl h
        · exact Or.inr (Or.inl h)
        · have := hvq q h; exact Or.inr (Or.inr (Or.inl (by omega)))
    · simp [bareF, rowB] at h
    · simp [bareF, rowB] at h)
  clear hj ho hO HO1 HY HS HZ hvq
  go_wp2_with fail
  have HC : Hid (CH w0 (w1.alloc (.cells (bareC J now) 76)) w1.heap.size (bareS now 0 [] 0 0) (bareF J g b v)) := Lib.hid (CH.birth HJ1.out now _)
  have hb1 : Below w1.heap.size w1 (w1.alloc (.cells (bareC J now) 76)) := below_alloc (Below.refl _ _) _
  have HRec2 := Lib.hid (HRec.out.low hb1)
  have HY2 := Lib.hid (HY1.out.keep hb1)
  have HZ2 := Lib.hid (HZ1.out.keep hb1)
  have HO2 := Lib.hid (HO.out.top hb1)
  have hx1 : w.heap.size + 1 ≤ w1.heap.size := by have h1 := HRec.out.lt; have := HV.out; omega
  have HX1 := Lib.hid hx1
  clear hb1 HJ1 HRec HY1 HZ1 HO hx1
  unfold bareC at HC HRec2 HY2 HZ2 HO2
  generalize w1.alloc (.cells #[.pointer (some ⟨J, 0, none⟩), .int .i64 0, .slice none 0 0, .int .i64 0, .int .i64 0, .slice none 0 0, .int .i64 0, .int .i64 now, .map none, .int .i64 0, .bool false, .bool false] 76) = W at HC HRec2 HY2 HZ2 HO2 ⊢
  generalize w1.heap.size = x at HC HX1 ⊢
  refine (records_any HRec2.out (by simp)).mono ?_
  rintro e' w2 ⟨ra, rc, rfl, -, hb⟩
  have HC3 := Lib.hid (HC.out.low hb)
  have HY3 := Lib.hid (HY2.out.keep hb)
  have HZ3 := Lib.hid (HZ2.out.keep hb)
  have HO3 := Lib.hid (HO2.out.top hb)
  clear hb HC HRec2 HY2 HZ2 HO2
  obtain ⟨y0, y1, y2, -⟩ := HY3.out
  go_wp2_with (go_at_call 35; refine (may_any e 0 a c zs _ (by omega) HZ3.out).mono ?_; rw [HM.out]; rintro e' w3 ⟨rfl, hb⟩; have HC4 := Lib.hid (HC3.out.low hb); have HY4 := Lib.hid (HY3.out.keep hb); have HZ4 := Lib.hid (HZ3.out.keep hb); have HO4 := Lib.hid (HO3.out.top hb); clear hb y0 y1 y2; obtain ⟨y0, y1, y2, -⟩ := HY4.out)
  refine (lasts_any HL.out HC4.out (Nat.zero_le _) HM.out HZ4.out (fun q hq hm => ?_)).mono ?_
  · have h1 := HAl.out q hq
    have h2 := HA.out q hq
    have h3 := HX1.out
    rcases HOw.out x (by omega) q (own_foot hm) with h | h | h | h
    · exact h2.1 h
    · exact h2.2 h
    · omega
    · omega
  rintro e' w4 ⟨rfl, f4, hp, hg⟩
  have HP := Lib.hid hp
  have HGf := Lib.hid hg
  clear hp hg y0 y1 y2
  go_wp2_with fail
  refine (hears_any HP.out.ch hl1 hl5 (may_fit HMem.out) HN.out).mono ?_
  rintro e' w5 ⟨rfl, f5, hp5, hg5⟩
  have HP5 := Lib.hid hp5
  have HG5 := Lib.hid hg5
  clear hp5 hg5
  go_wp2_with fail
  have HT := HP.out.trans HP5.out
  have hx := HX1.out
  refine bodyPost_ret (v := .tuple #[.pointer (some ⟨x, 0, none⟩), .int .i64 0]) (by simp [results, Tryz.results15, go_sem]) rfl ⟨x, f5, rfl, HT.ch, by rw [HG5.out, HGf.out]; rfl, HO4.out.join HT.only (fun i hi => ?_), fun q hq => ?_⟩
  · rcases HOw.out x (by omega) i (own_foot hi) with h | h | h | h
    · exact Or.inl (by simp [h])
    · exact Or.inl (by simp [h])
    · exact Or.inr (by omega)
    · exact Or.inr (by omega)
  · rcases HT.foot' q hq with h | h
    · rcases HOw.out x (by omega) q h with h | h | h | h
      · exact Or.inl h
      · exact Or.inr (Or.inl h)
      · exact Or.inr (Or.inr (by omega))
      · exact Or.inr (Or.inr (by omega))
    · have := HO4.out.size
      exact Or.inr (Or.inr (by omega))
/-! none -/
set_option maxHeartbeats 6400000 in
theorem chopen_no {w0 w : World} (LA : Laid w0) {g b : Nat} {r : Int} (H : ChS w0 w g b r []) (h1 : 11 ≤ r) (h2 : r ≤ 1048576) {e nw : Int} {zs : List Int} {a : Option Addr} {c : Nat} (hm : mayB e zs nw = false ∨ nw ≠ 0) (hz : IntsAt w a zs) (ha : zs ≠ [] → ∀ q ∈ rowB a, q ≠ g ∧ q ≠ b) (hl : zs.length ≤ 1000) (now : Int) :
    Calls Tryz.prog 15 #[.pointer (some ⟨g, 0, none⟩), rosV e a zs c nw, .int .i64 now] w fun e' w' => e' = .returned (.tuple #[.pointer none, .int .i64 1]) ∧ Only [g, b] w w' := by
  have hgl := H.1.ltg
  have hbl := H.1.ltb
  have hB := below_alloc (Below.refl w.heap.size w) (.cells #[.int .i64 e, .slice a zs.length c, .int .i64 nw] 24)
  have HY := Lib.hid (B3.new w (.int .i64 e) (.slice a zs.length c) (.int .i64 nw) 24)
  have HS := Lib.hid (H.low hB)
  have HZ := Lib.hid (hz.keep hB)
  have HB := Lib.hid hB
  have HL := Lib.hid LA
  have HA := Lib.hid ha
  have HR : Hid (11 ≤ r ∧ r ≤ 1048576) := Lib.hid ⟨h1, h2⟩
  have HG : Hid (g < w.heap.size ∧ b < w.heap.size) := Lib.hid ⟨hgl, hbl⟩
  have HM := Lib.hid hm
  obtain ⟨m, hmm⟩ : ∃ m, mayB e zs nw = m := ⟨_, rfl⟩
  have HMM := Lib.hid hmm
  have hq : m = true → (nw != 0) = true := fun h => by
    rcases hm with h3 | h3
    · rw [hmm, h] at h3; cases h3
    · simpa using h3
  have HQ := Lib.hid hq
  clear H hz ha hB LA h1 h2 hgl hbl hm hmm hq
  go_enter Tryz.func15, Tryz.ntmps15
  go_wp2_with fail
  generalize w.alloc (.cells #[.int .i64 e, .slice a zs.length c, .int .i64 nw] 24) = V at HY HS HZ HB ⊢
  refine (open_fresh HL.out HS.out HR.out.1 HR.out.2).mono ?_
  rintro e' w1 ⟨J, v, L, rfl, hj, -, ho⟩
  have hrg : w.heap.size ∉ [g, b] := fun hm => by
    have := HG.out
    simp at hm; omega
  have hZ1 : IntsAt w1 a zs := by
    by_cases hne : zs = []
    · exact Or.inl hne
    · exact HZ.out.keepO ho (fun q hq hm => by
        have := HA.out hne q hq
        simp at hm; omega)
  have HY1 := Lib.hid (HY.out.keepO ho hrg)
  have HZ1 := Lib.hid hZ1
  have HRec := Lib.hid hj.js.j
  have HO := Lib.hid ((Only.of_below HB.out).trans ho)
  clear hj ho HY HS HZ hZ1
  go_wp2_with fail
  have hb1 : Below w1.heap.size w1 (w1.alloc (.cells (bareC J now) 76)) := below_alloc (Below.refl _ _) _
  have HRec2 := Lib.hid (HRec.out.low hb1)
  have HY2 := Lib.hid (HY1.out.keep hb1)
  have HZ2 := Lib.hid (HZ1.out.keep hb1)
  have HO2 := Lib.hid (HO.out.top hb1)
  clear hb1 HRec HY1 HZ1 HO
  unfold bareC at HRec2 HY2 HZ2 HO2
  generalize w1.alloc (.cells #[.pointer (some ⟨J, 0, none⟩), .int .i64 0, .slice none 0 0, .int .i64 0, .int .i64 0, .slice none 0 0, .int .i64 0, .int .i64 now, .map none, .int .i64 0, .bool false, .bool false] 76) = W at HRec2 HY2 HZ2 HO2 ⊢
  refine (records_any HRec2.out (by simp)).mono ?_
  rintro e' w2 ⟨ra, rc, rfl, -, hb⟩
  have HY3 := Lib.hid (HY2.out.keep hb)
  have HZ3 := Lib.hid (HZ2.out.keep hb)
  have HO3 := Lib.hid (HO2.out.top hb)
  clear hb HRec2 HY2 HZ2 HO2
  obtain ⟨y0, y1, y2, -⟩ := HY3.out
  cases m with
  | false =>
    go_wp2_with (go_at_call 35; refine (may_any e nw a c zs _ (by omega) HZ3.out).mono ?_; rw [HMM.out]; rintro e' w3 ⟨rfl, hb⟩; have HY4 := Lib.hid (HY3.out.keep hb); have HO4 := Lib.hid (HO3.out.top hb); clear hb y0 y1 y2; obtain ⟨y0, y1, y2, -⟩ := HY4.out)
    exact bodyPost_ret (v := .tuple #[.pointer none, .int .i64 1]) (by simp [results, Tryz.results15, go_sem]) rfl ⟨rfl, HO4.out⟩
  | true =>
    have hq := HQ.out rfl
    go_wp2_with (go_at_call 35; refine (may_any e nw a c zs _ (by omega) HZ3.out).mono ?_; rw [HMM.out]; rintro e' w3 ⟨rfl, hb⟩; have HY4 := Lib.hid (HY3.out.keep hb); have HO4 := Lib.hid (HO3.out.top hb); clear hb y0 y1 y2; obtain ⟨y0, y1, y2, -⟩ := HY4.out)
    exact bodyPost_ret (v := .tuple #[.pointer none, .int .i64 1]) (by simp [results, Tryz.results15, go_sem]) rfl ⟨rfl, HO4.out⟩
end Go.Proofs.YthiphdcbboapkaaGreatDoor
namespace Go.Proofs.YthiphdcbboapkaaGreatDoor
open Go.RowKit Go.Maps

set_option maxRecDepth 100000
/-- A chest that holds a roster for good. -/
def Torn (w0 w : World) (g b : Nat) (e : Int) (zs : List Int) (nw : Int) (k : Nat) : Prop :=
  ∃ n r L s recs, ChS w0 w g b r L ∧ Log n r L s s.size true ∧ n ≤ 3 + 2 * k ∧ 1040000 - 200 * (k : Int) ≤ r ∧ recs.length ≤ k ∧ s.data.toList = leavesL (⟨#[]⟩ :: recs) ∧ (∀ x ∈ (⟨#[]⟩ : ByteArray) :: recs, x.size ≤ 400000) ∧ recs.getLast? = some (rosT e nw zs)
theorem Torn.low {w0 w w' : World} {g b : Nat} {e : Int} {zs : List Int} {nw : Int} {k : Nat} (h : Torn w0 w g b e zs nw k) (hb : Below w.heap.size w w') : Torn w0 w' g b e zs nw k := by
  obtain ⟨n, r, L, s, recs, h1, h2⟩ := h
  exact ⟨n, r, L, s, recs, h1.low hb, h2⟩
theorem chtear_any {w0 w : World} {x : Nat} {S : St} {f : Ft} (H : CH w0 w x S f) (hne : S.lzs ≠ []) (hk : S.k ≤ 300) (t : Int) (ht : -9223372036854775808 ≤ t ∧ t ≤ 9223372036854775807) :
    Calls Tryz.prog 22 #[.pointer (some ⟨f.g, 0, none⟩), .int .i64 t] w fun e' w' => ∃ g' b', e' = .returned (.pointer (some ⟨g', 0, none⟩)) ∧ Torn w0 w' g' b' S.le S.lzs S.lnw S.k ∧ Below w.heap.size w w' ∧ w.heap.size ≤ g' ∧ w.heap.size ≤ b' := by
  obtain ⟨n, r, L, s, kk, recs, h1, h2, h3, h4, h5⟩ := H.jb
  have hs : 11 ≤ s.size := by
    have e1 : s.size = (leavesL (⟨#[]⟩ :: recs)).length := by rw [Lib.size_eq, h1.da]
    rw [leavesL_cons_len, leaf_nil_size] at e1; omega
  refine (tear_log h1.js.ch h1.lg (by omega) t ht (Or.inl (by omega))).mono ?_
  rintro e' w' ⟨g', b', r', L', m, rfl, hc, hl, hr, hp, hm, -, hb, hg, hbb⟩
  obtain rfl : m = s.size := by omega
  obtain ⟨f1, f2, f3⟩ := h1.front (m := s.size) (Nat.le_refl _)
  have hz := H.below.size
  refine ⟨g', b', rfl, ⟨n, r', L', s.extract 0 s.size, recs, ⟨hc.1, below_on H.below hb, by omega, by omega⟩, ?_, h2, by omega, h4, ?_, h1.sz, h5 hne⟩, hb, hg, hbb⟩
  · rw [f1]; exact hl
  · rw [f2, f1, f3, List.take_length]
/-- A chief of what lasts. -/
def tornS (e : Int) (zs : List Int) (nw : Int) (k : Nat) (now : Int) : St := hearS { bareS (now + 6) e zs nw (k + 1) with e := e, zs := zs, nw := nw } now
theorem store_u {w0 w : World} {x : Nat} {S : St} {f : Ft} (H : CH w0 w x S f) (t : Int) : CH w0 (w.setCell ⟨x, 7, none⟩ (.int .i64 t)) x { S with un := t } f :=
  H.put 7 (by decide) _ (lt12 rfl rfl rfl rfl rfl rfl rfl rfl rfl rfl rfl rfl) H.at'.rz H.at'.rz2 ⟨rfl, rfl, rfl, rfl, rfl⟩ (fun _ => ⟨rfl, rfl, rfl⟩) ⟨rfl, rfl, rfl, rfl⟩ (fun q hq => ⟨H.da q hq, H.lt q (mem_foot.2 (Or.inr (Or.inl hq)))⟩) (fun q hq => ⟨H.da2 q hq, H.lt q (mem_foot.2 (Or.inr (Or.inr hq)))⟩)
set_option maxHeartbeats 6400000 in
theorem chopen_torn {w0 w : World} (LA : Laid w0) {g b : Nat} {e nw : Int} {zs : List Int} {k : Nat} (H : Torn w0 w g b e zs nw k) (hk : k ≤ 300) (hm : mayB e zs nw = true) {now : Int} (hn : 0 ≤ now ∧ now ≤ 4611686018427387904) (e1 : Int) (a1 : Option Addr) (zs1 : List Int) (c1 : Nat) (nw1 : Int) :
    Calls Tryz.prog 15 #[.pointer (some ⟨g, 0, none⟩), rosV e1 a1 zs1 c1 nw1, .int .i64 now] w fun e' w' => ∃ x f, e' = .returned (.tuple #[.pointer (some ⟨x, 0, none⟩), .int .i64 0]) ∧ CH w0 w' x (tornS e zs nw k now) f ∧ f.g = g ∧ Only [g, b] w w' ∧ ∀ q ∈ foot x f, q = g ∨ q = b ∨ w.heap.size ≤ q := by
  obtain ⟨n, r, L, s, recs, hc, hlog, hn3, hr, hrl, hda, hsz, hlast⟩ := H
  obtain ⟨hok, hl1, hl5, -, hmem, -⟩ := mayB_ok hm
  have hss : s.size = (leavesL (⟨#[]⟩ :: recs)).length := by rw [Lib.size_eq, hda]
  have hgl := hc.1.ltg
  have hbl := hc.1.ltb
  have hB := below_alloc (Below.refl w.heap.size w) (.cells #[.int .i64 e1, .slice a1 zs1.length c1, .int .i64 nw1] 24)
  have hq6 : IntKind.i64.wrap (now + 6) = now + 6 := IntWalk.i64_in _ (by omega)
  have HO0 := Lib.hid (open_front LA (hc.low hB) hlog (by omega) hsz (Nat.le_of_eq hss) (by show (leafL []).length ≤ _; rw [hss, leavesL_cons_len, leaf_nil_size]; rw [show (leafL []).length = 11 from by rw [leafL_len (by decide), List.length_nil, Lib.decDigits_one (by decide)]; decide]; omega) (by rw [hss, List.take_length]; exact hda) (by have := hlog.bd; omega))
  have hrne : recs ≠ [] := fun h => by rw [h] at hlast; simp at hlast
  have HNe : Hid (1 ≤ recs.length) := Lib.hid (by have := List.length_pos_iff.mpr hrne; omega)
  have HB := Lib.hid hB
  have HL := Lib.hid LA
  have HM := Lib.hid hm
  have HN : Hid (fitI now) := Lib.hid (fitI_of (by omega))
  have HMem := Lib.hid hmem
  have HG : Hid (g < w.heap.size ∧ b < w.heap.size) := Lib.hid ⟨hgl, hbl⟩
  have HSS := Lib.hid hss
  have HLs := Lib.hid hlast
  have HRl := Lib.hid hrl
  have HK : Hid (n ≤ 3 + 2 * k ∧ 1040000 - 200 * (k : Int) ≤ r ∧ k ≤ 300) := Lib.hid ⟨hn3, hr, hk⟩
  have HLog := Lib.hid hlog
  clear hc hlog hn3 hr hrl hda hsz hlast hm hok hmem hss hgl hbl hB LA hrne hk
  go_enter Tryz.func15, Tryz.ntmps15
  go_wp2_with fail
  have hV : w.heap.size + 1 = (w.alloc (.cells #[.int .i64 e1, .slice a1 zs1.length c1, .int .i64 nw1] 24)).heap.size := by simp
  have HV := Lib.hid hV
  clear hV
  generalize w.alloc (.cells #[.int .i64 e1, .slice a1 zs1.length c1, .int .i64 nw1] 24) = V at HO0 HB HV ⊢
  refine HO0.out.mono ?_
  rintro e' w1 ⟨J, v, r', L', s', p', k', j, rfl, hj, ⟨hJ, hvq⟩, ho, hrr, hjl, hmax, -, hp'⟩
  obtain rfl : j = recs.length := by
    have := hmax recs.length (Nat.le_refl _) (by rw [List.take_length, HSS.out]; exact Nat.le_refl _)
    omega
  rw [List.take_length] at hj
  have hs' : s'.size = (leavesL (⟨#[]⟩ :: recs)).length := by rw [Lib.size_eq, hj.da]
  have hpp : p' = (s'.size : Int) := by have := HSS.out; rw [hp', hs']; omega
  subst hpp
  have HJ1 : Hid (JB w0 w1 J g b v e zs nw (k + 1)) := Lib.hid ⟨n + 2, r', L', s', k', recs, hj, by have := HK.out; omega, by have := HK.out; omega, by have := HRl.out; omega, fun _ => HLs.out⟩
  have HRec := Lib.hid hj.js.j
  have HO := Lib.hid ((Only.of_below HB.out).trans ho)
  have HOw : Hid (∀ x, w.heap.size ≤ x → ∀ q ∈ foot x (bareF J g b v), q = g ∨ q = b ∨ w.heap.size + 1 ≤ q ∨ q = x) := Lib.hid (fun x _ q hq => by
    have h4 := HV.out
    rcases mem_foot.1 hq with h | h | h
    · rcases mem_own.1 h with h | h | h
      · exact Or.inr (Or.inr (Or.inr h))
      · simp [bareF] at h
      · rcases mem_jown.1 h with h | h | h | h
        · change q = J at h; exact Or.inr (Or.inr (Or.inl (by omega)))
        · exact Or.inl h
        · exact Or.inr (Or.inl h)
        · have := hvq q h; exact Or.inr (Or.inr (Or.inl (by omega)))
    · simp [bareF, rowB] at h
    · simp [bareF, rowB] at h)
  clear hj ho hrr hjl hmax hp' hs' hvq HO0 HLog
  go_wp2_with fail
  have HC : Hid (CH w0 (w1.alloc (.cells (bareC J now) 76)) w1.heap.size (bareS now e zs nw (k + 1)) (bareF J g b v)) := Lib.hid (CH.birth HJ1.out now _)
  have hb1 : Below w1.heap.size w1 (w1.alloc (.cells (bareC J now) 76)) := below_alloc (Below.refl _ _) _
  have HRec2 := Lib.hid (HRec.out.low hb1)
  have HO2 := Lib.hid (HO.out.top hb1)
  have hx1 : w.heap.size + 1 ≤ w1.heap.size := by have h1 := HRec.out.lt; have := HV.out; omega
  have HX1 := Lib.hid hx1
  clear hb1 HJ1 HRec HO hx1
  unfold bareC at HC HRec2 HO2
  generalize w1.alloc (.cells #[.pointer (some ⟨J, 0, none⟩), .int .i64 0, .slice none 0 0, .int .i64 0, .int .i64 0, .slice none 0 0, .int .i64 0, .int .i64 now, .map none, .int .i64 0, .bool false, .bool false] 76) = W at HC HRec2 HO2 ⊢
  generalize w1.heap.size = x at HC HX1 ⊢
  refine (records_any HRec2.out (by have := HRl.out; have := HK.out; omega)).mono ?_
  rintro e' w2 ⟨ra, rc, rfl, hrow, hb⟩
  have HC3 := Lib.hid (HC.out.low hb)
  have HO3 := Lib.hid (HO2.out.top hb)
  obtain ⟨m, hm⟩ : ∃ m, recs.length = m + 1 := ⟨recs.length - 1, by have := HNe.out; omega⟩
  have hTm : recs[m]? = some (rosT e nw zs) := by
    have h := HLs.out
    rw [List.getLast?_eq_getElem?, hm, Nat.add_sub_cancel] at h
    exact h
  rcases hrow with h0 | ⟨rq, ro, rfl, hrq, hrc⟩
  · exfalso
    have : recs = [] := by simpa using h0
    rw [this] at hm; simp at hm
  have hcell := hrc m (.string (rosT e nw zs)) (by rw [List.getElem?_map, hTm]; rfl)
  rw [hm]
  have HLd := Lib.hid (HL.out.keep HC3.out.below)
  have hq1 : IntKind.i64.wrap ((m : Int) + 1 - 1) = (m : Int) := by rw [IntWalk.i64_in _ (by have := HRl.out; have := HK.out; omega)]; omega
  have hq7 : IntKind.i64.wrap (m : Int) = (m : Int) := IntWalk.i64_in _ (by have := HRl.out; have := HK.out; omega)
  have hq2 : decide ((0 : Int) < (m : Int) + 1) = true := decide_eq_true (by omega)
  have hq3 : (0 : Int) ≤ (m : Int) := by omega
  have hq4 : (m : Int) < (m : Int) + 1 := by omega
  have d1 : w2.cell? ⟨x, 1, none⟩ = some (.int .i64 0) := HC3.out.at'.d1
  clear hb HC HRec2 HO2 hm hTm hrc
  go_wp2_with fail
  refine (chread_any HM.out w2 HLd.out).mono ?_
  rintro e' w3 ⟨a, c, rfl, hown, hb⟩
  have hne : zs ≠ [] := fun h => by rw [h] at hl1; simp at hl1
  have hfr := own_fresh hown rfl hne
  have HC4 := Lib.hid (HC3.out.low hb)
  have HO4 := Lib.hid (HO3.out.top hb)
  have hz2 : w.heap.size ≤ w2.heap.size := HO3.out.size
  have HR := Lib.hid (store_r HC4.out (e := e) (nw := nw) (c := c) (own_ints hown) (fun q hq => ⟨fun hm => by
    have h1 := HC3.out.lt q (own_foot hm)
    have h2 := (hfr q hq).1
    omega, (hfr q hq).2⟩))
  have HFr : Hid (∀ q ∈ rowB a, w2.heap.size ≤ q) := Lib.hid (fun q hq => (hfr q hq).1)
  have HZ2 := Lib.hid hz2
  have d1 : w3.cell? ⟨x, 1, none⟩ = some (.int .i64 0) := HC4.out.at'.d1
  have d2 : w3.cell? ⟨x, 2, none⟩ = some (.slice none 0 0) := HC4.out.at'.d2
  have d3 : w3.cell? ⟨x, 3, none⟩ = some (.int .i64 0) := HC4.out.at'.d3
  have f1 := HC4.out.at'.fz 1
  have f2 := HC4.out.at'.fz 2
  have f3 := HC4.out.at'.fz 3
  clear hown hb hfr hne hz2 HC3 HO3 hcell hrq
  go_upto_region 12 with fail
  generalize hw4 : ((w3.setCell ⟨x, 1, none⟩ (.int .i64 e)).setCell ⟨x, 2, none⟩ (.slice a zs.length c)).setCell ⟨x, 3, none⟩ (.int .i64 nw) = w4 at HR ⊢
  have hu : IntKind.i64.wrap (now + 6) = now + 6 := hq6
  have d7 : w4.cell? ⟨x, 7, none⟩ = some (.int .i64 now) := HR.out.at'.d7
  have f7 := HR.out.at'.fz 7
  clear d1 d2 d3 f1 f2 f3
  go_upto_region 17 with fail
  have HU := Lib.hid (store_u HR.out (now + 6))
  have hu4 : Only [x] w3 (w4.setCell ⟨x, 7, none⟩ (.int .i64 (now + 6))) := by rw [← hw4]; exact (only_x3 _ _ _).trans (only_one 7 _)
  have HOu := Lib.hid hu4
  clear d7 f7 HR hu4 hw4
  generalize w4.setCell ⟨x, 7, none⟩ (.int .i64 (now + 6)) = w5 at HU HOu ⊢
  go_wp2_with fail
  refine (hears_any HU.out hl1 hl5 (may_fit HMem.out) HN.out).mono ?_
  rintro e' w6 ⟨rfl, f6, hp6, hg6⟩
  have HP6 := Lib.hid hp6
  have HG6 := Lib.hid hg6
  clear hp6 hg6
  go_wp2_with fail
  have hx := HX1.out
  have hz := HZ2.out
  have hz4 := HO4.out.size
  have hz5 := HOu.out.size
  have hown : ∀ i ∈ foot x { bareF J g b v with a := a, c := c }, i = g ∨ i = b ∨ w.heap.size ≤ i := fun i hi => by
    rcases mem_foot.1 hi with h | h | h
    · rcases HOw.out x (by omega) i (own_foot h) with h | h | h | h
      · exact Or.inl h
      · exact Or.inr (Or.inl h)
      · exact Or.inr (Or.inr (by omega))
      · exact Or.inr (Or.inr (by omega))
    · have := HFr.out i h; exact Or.inr (Or.inr (by omega))
    · simp [bareF, rowB] at h
  refine bodyPost_ret (v := .tuple #[.pointer (some ⟨x, 0, none⟩), .int .i64 0]) (by simp [results, Tryz.results15, go_sem]) rfl ⟨x, f6, rfl, HP6.out.ch, HG6.out, ?_, fun q hq => ?_⟩
  · refine (HO4.out.join HOu.out (fun i hi => Or.inr (by simp at hi; omega))).join HP6.out.only (fun i hi => ?_)
    rcases hown i (own_foot hi) with h | h | h
    · exact Or.inl (by simp [h])
    · exact Or.inl (by simp [h])
    · exact Or.inr h
  · rcases HP6.out.foot' q hq with h | h
    · exact hown q h
    · exact Or.inr (Or.inr (by omega))
end Go.Proofs.YthiphdcbboapkaaGreatDoor
