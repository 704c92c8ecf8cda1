/- Walk of pouch.number. -/
import Derived.Test.YtdpkmcbpeloljaaDoorPg
import Derived.Lib.AtoiErrMem
import Derived.Lib.ParseIntBTie
namespace Go.Proofs.YtdpkmcbpeloljaaDoor
open Go.RowKit

/-- The library's listed variables stand as they were laid. -/
def Laid (w : World) : Prop := Tab w ∧ (∃ tp p, w.var? Tryd.prog "strconv.ErrSyntax" = some #[.iface tp p]) ∧ (∃ tp p, w.var? Tryd.prog "strconv.ErrRange" = some #[.iface tp p])
theorem var_keep {w w' : World} {name : String} {cs : Array Value} (h : w.var? Tryd.prog name = some cs) (hb : Below w.heap.size w w') : w'.var? Tryd.prog name = some cs := by
  unfold World.var? at *
  cases hg : Tryd.prog.globalNamed name with
  | none => rw [hg] at h; simp at h
  | some g =>
    rw [hg] at h
    simp only [Option.bind_some] at h ⊢
    by_cases hlt : g < w.heap.size
    · rw [hb.block g hlt]; exact h
    · rw [Array.getElem?_eq_none (by omega)] at h; simp at h
theorem Laid.keep {w w' : World} (h : Laid w) (hb : Below w.heap.size w w') : Laid w' := by
  obtain ⟨h1, ⟨t1, p1, h2⟩, ⟨t2, p2, h3⟩⟩ := h
  exact ⟨h1.keep hb, ⟨t1, p1, var_keep h2 hb⟩, ⟨t2, p2, var_keep h3 hb⟩⟩
theorem parse_ok (s : ByteArray) (v : Int) (w : World) (hs : s.size ≤ 140737488355328) (h : Lib.parseIntB 64 s.data.toList = .ok v) :
    Calls Tryd.prog 76 #[.string s, .int .i64 10, .int .i64 64] w fun e w' => e = .returned (.tuple #[.int .i64 v, .nilIface]) ∧ Below w.heap.size w w' := by
  refine (Tryd.strconv_ParseInt_10_at64_ok s (by omega) v h w).mono ?_
  rintro e w' ⟨rfl, rfl | ⟨t, rfl⟩⟩
  · exact ⟨rfl, Below.refl _ _⟩
  · exact ⟨rfl, Lib.bytesWorld_below _ _ _⟩
theorem parse_bad (s : ByteArray) (w : World) (hs : s.size ≤ 140737488355328) (L : Laid w) (h : ∀ v, Lib.parseIntB 64 s.data.toList ≠ .ok v) :
    Calls Tryd.prog 76 #[.string s, .int .i64 10, .int .i64 64] w fun e w' => ∃ (n : Int) (N : Nat), e = .returned (.tuple #[.int .i64 n, .iface 125 (.pointer (some ⟨N, 0, none⟩))]) ∧ Below w.heap.size w w' := by
  obtain ⟨_, ⟨t1, p1, h2⟩, ⟨t2, p2, h3⟩⟩ := L
  rcases hp : Lib.parseIntB 64 s.data.toList with v | _ | _
  · exact absurd hp (h v)
  · refine (Tryd.strconv_ParseInt_10_at64_syntax_var s (by omega) hp t1 p1 w h2).mono ?_
    rintro e w' ⟨N, rfl, _, _, hb⟩
    exact ⟨_, N, rfl, hb⟩
  · refine (Tryd.strconv_ParseInt_10_at64_range_var s (by omega) hp t2 p2 w h3).mono ?_
    rintro e w' ⟨N, rfl, _, _, hb⟩
    exact ⟨_, N, rfl, hb⟩
/-- The value nought. -/
def pz : PV := .mk 0 0 ⟨#[]⟩ []
def pzV : Value := .agg #[.int .i64 0, .int .i64 0, .string ⟨#[]⟩, .slice none 0 0]
theorem pz_at (w : World) : PAt w pz pzV := .mk 0 0 ⟨#[]⟩ [] none 0 (fun _ => undef) (by decide) (by decide) (by decide) (by decide) (Or.inl rfl) (fun j x h => by simp at h)
/-- A number as it is written. -/
def numP (l : List UInt8) : Option Int := match Lib.parseIntB 64 l with
  | .ok v => if Lib.itoa v = l then some v else none
  | _ => none
/-- A box of four cells that may be written. -/
def Box4 (B : Nat) (c0 c1 c2 c3 : Value) (W : World) : Prop := (W.cell? ⟨B, 0, none⟩ = some c0 ∧ W.cell? ⟨B, 1, none⟩ = some c1 ∧ W.cell? ⟨B, 2, none⟩ = some c2 ∧ W.cell? ⟨B, 3, none⟩ = some c3) ∧
  W.frozen? ⟨B, 0, none⟩ = false ∧ W.frozen? ⟨B, 1, none⟩ = false ∧ W.frozen? ⟨B, 2, none⟩ = false ∧ W.frozen? ⟨B, 3, none⟩ = false
theorem Box4.keep {B : Nat} {c0 c1 c2 c3 : Value} {W W' : World} (h : Box4 B c0 c1 c2 c3 W) (hb : Below W.heap.size W W') : Box4 B c0 c1 c2 c3 W' :=
  ⟨⟨cell_keep hb h.1.1, cell_keep hb h.1.2.1, cell_keep hb h.1.2.2.1, cell_keep hb h.1.2.2.2⟩, frozen_keep hb h.1.1 h.2.1, frozen_keep hb h.1.2.1 h.2.2.1, frozen_keep hb h.1.2.2.1 h.2.2.2.1, frozen_keep hb h.1.2.2.2 h.2.2.2.2⟩
theorem Box4.new (W : World) (c0 c1 c2 c3 : Value) (t : TypeId) : Box4 W.heap.size c0 c1 c2 c3 (W.alloc (.cells #[c0, c1, c2, c3] t)) := by
  refine ⟨⟨?_, ?_, ?_, ?_⟩, ?_, ?_, ?_, ?_⟩ <;> simp [go_sem]
/-- What four stores leave. -/
theorem set_four {W : World} {B : Nat} {c0 c1 c2 c3 : Value} (u0 u1 u2 u3 : Value) (h : Box4 B c0 c1 c2 c3 W) :
    (W.setCell ⟨B, 0, none⟩ u0).cell? ⟨B, 0, none⟩ = some u0 ∧ ((W.setCell ⟨B, 0, none⟩ u0).setCell ⟨B, 1, none⟩ u1).cell? ⟨B, 1, none⟩ = some u1 ∧
    (((W.setCell ⟨B, 0, none⟩ u0).setCell ⟨B, 1, none⟩ u1).setCell ⟨B, 2, none⟩ u2).cell? ⟨B, 2, none⟩ = some u2 ∧
    ((((W.setCell ⟨B, 0, none⟩ u0).setCell ⟨B, 1, none⟩ u1).setCell ⟨B, 2, none⟩ u2).setCell ⟨B, 3, none⟩ u3).cell? ⟨B, 3, none⟩ = some u3 := by
  obtain ⟨⟨h0, h1, h2, h3⟩, -⟩ := h
  refine ⟨World.cell?_setCell_same _ _ _ h0, World.cell?_setCell_same _ _ _ (u := c1) ?_, World.cell?_setCell_same _ _ _ (u := c2) ?_, World.cell?_setCell_same _ _ _ (u := c3) ?_⟩
  · rw [World.cell?_setCell_other _ _ _ _ (by simp)]; exact h1
  · rw [World.cell?_setCell_other _ _ _ _ (by simp), World.cell?_setCell_other _ _ _ _ (by simp)]; exact h2
  · rw [World.cell?_setCell_other _ _ _ _ (by simp), World.cell?_setCell_other _ _ _ _ (by simp), World.cell?_setCell_other _ _ _ _ (by simp)]; exact h3
theorem below_set4 {B b : Nat} {a w : World} (h : Below B a w) (hb : B ≤ b) (u v x y : Value) : Below B a ((((w.setCell ⟨b, 0, none⟩ u).setCell ⟨b, 1, none⟩ v).setCell ⟨b, 2, none⟩ x).setCell ⟨b, 3, none⟩ y) :=
  (((h.setCell (p := ⟨b, 0, none⟩) hb u).setCell (p := ⟨b, 1, none⟩) hb v).setCell (p := ⟨b, 2, none⟩) hb x).setCell (p := ⟨b, 3, none⟩) hb y
def numV : Option Int → Value
  | some v => .tuple #[.agg #[.int .i64 1, .int .i64 v, .string ⟨#[]⟩, .slice none 0 0], .int .i64 0]
  | none => .tuple #[pzV, .int .i64 1]
set_option maxRecDepth 100000 in
set_option maxHeartbeats 1600000 in
theorem number_any (s : ByteArray) (w : World) (hs : s.size ≤ 140737488355328) (L : Laid w) :
    Calls Tryd.prog 68 #[.string s] w fun e w' => e = .returned (numV (numP s.data.toList)) ∧ Below w.heap.size w w' := by
  have HX := Lib.hid (Box4.new w (.int .i64 0) (.int .i64 0) (.string ⟨#[]⟩) (.slice none 0 0) 59)
  have B1 : Hid (Below w.heap.size w (w.alloc (.cells #[.int .i64 0, .int .i64 0, .string ⟨#[]⟩, .slice none 0 0] 59))) := Lib.hid (below_alloc (Below.refl _ _) _)
  by_cases hg : ∃ v, Lib.parseIntB 64 s.data.toList = .ok v
  · obtain ⟨v, hv⟩ := hg
    have HV := Lib.hid hv
    have hv64 : -9223372036854775808 ≤ v ∧ v ≤ 9223372036854775807 := by
      have := Lib.parseIntB_bounds hv
      omega
    by_cases hi : Lib.itoa v = s.data.toList
    · have HF := Lib.hid (show numP s.data.toList = some v by unfold numP; rw [hv]; simp [hi])
      have he : (!(Lib.itoa v == s.toList)) = false := by rw [Lib.toList_data]; simp [hi]
      clear hv hi
      go_enter Tryd.func68, Tryd.ntmps68
      go_wp2_with (first | (go_at_call 76; refine (parse_ok s v _ hs HV.out).mono ?_; rintro e' w1 ⟨rfl, hb⟩; have B2 := Lib.hid (below_on B1.out hb); have HX2 := Lib.hid (HX.out.keep hb); clear hb) | (go_at_call 62; refine (formatInt_any v _ hv64.1 hv64.2 (L.1.keep B2.out)).mono ?_; rintro e' w2 ⟨rfl, hb⟩; have B3 := Lib.hid (below_on B2.out hb); have HX3 := Lib.hid (HX2.out.keep hb); obtain ⟨⟨x0, x1, x2, x3⟩, f0, f1, f2, f3⟩ := HX2.out.keep hb; clear hb))
      obtain ⟨y0, y1, y2, y3⟩ := set_four (.int .i64 1) (.int .i64 v) (.string ⟨#[]⟩) (.slice none 0 0) HX3.out
      refine bodyPost_ret (v := .tuple #[.agg #[.int .i64 1, .int .i64 v, .string ⟨#[]⟩, .slice none 0 0], .int .i64 0]) (by simp [results, Tryd.results68, go_sem, y0, y1, y2, y3]) rfl ⟨by rw [HF.out]; rfl, ?_⟩
      exact below_set4 B3.out (Nat.le_refl _) _ _ _ _
    · have HF := Lib.hid (show numP s.data.toList = none by unfold numP; rw [hv]; simp [hi])
      have he : (!(Lib.itoa v == s.toList)) = true := by rw [Lib.toList_data]; simp [hi]
      clear hv hi
      go_enter Tryd.func68, Tryd.ntmps68
      go_wp2_with (first | (go_at_call 76; refine (parse_ok s v _ hs HV.out).mono ?_; rintro e' w1 ⟨rfl, hb⟩; have B2 := Lib.hid (below_on B1.out hb); have HX2 := Lib.hid (HX.out.keep hb); clear hb) | (go_at_call 62; refine (formatInt_any v _ hv64.1 hv64.2 (L.1.keep B2.out)).mono ?_; rintro e' w2 ⟨rfl, hb⟩; have B3 := Lib.hid (below_on B2.out hb); have HX3 := Lib.hid (HX2.out.keep hb); obtain ⟨⟨x0, x1, x2, x3⟩, f0, f1, f2, f3⟩ := HX2.out.keep hb; clear hb))
      obtain ⟨y0, y1, y2, y3⟩ := set_four (.int .i64 0) (.int .i64 0) (.string ⟨#[]⟩) (.slice none 0 0) HX3.out
      refine bodyPost_ret (v := .tuple #[.agg #[.int .i64 0, .int .i64 0, .string ⟨#[]⟩, .slice none 0 0], .int .i64 1]) (by simp [results, Tryd.results68, go_sem, y0, y1, y2, y3]) rfl ⟨by rw [HF.out]; rfl, ?_⟩
      exact below_set4 B3.out (Nat.le_refl _) _ _ _ _
  · have HF := Lib.hid (show numP s.data.toList = none by
      unfold numP
      split
      · rename_i v hv; exact absurd ⟨v, hv⟩ hg
      · rfl)
    go_enter Tryd.func68, Tryd.ntmps68
    go_wp2_with (go_at_call 76; refine (parse_bad s _ hs (L.keep B1.out) (fun v hv => hg ⟨v, hv⟩)).mono ?_; rintro e' w1 ⟨n', N, rfl, hb⟩; have B2 := Lib.hid (below_on B1.out hb); have HX2 := Lib.hid (HX.out.keep hb); obtain ⟨⟨x0, x1, x2, x3⟩, f0, f1, f2, f3⟩ := HX.out.keep hb; clear hb)
    obtain ⟨y0, y1, y2, y3⟩ := set_four (.int .i64 0) (.int .i64 0) (.string ⟨#[]⟩) (.slice none 0 0) HX2.out
    refine bodyPost_ret (v := .tuple #[.agg #[.int .i64 0, .int .i64 0, .string ⟨#[]⟩, .slice none 0 0], .int .i64 1]) (by simp [results, Tryd.results68, go_sem, y0, y1, y2, y3]) rfl ⟨by rw [HF.out]; rfl, ?_⟩
    exact below_set4 B2.out (Nat.le_refl _) _ _ _ _
end Go.Proofs.YtdpkmcbpeloljaaDoor
