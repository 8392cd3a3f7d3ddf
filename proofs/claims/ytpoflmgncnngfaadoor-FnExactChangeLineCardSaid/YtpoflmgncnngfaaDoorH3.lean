/- The laws' helpers at changes: sizes, copies, equality. -/
import Derived.Test.YtpoflmgncnngfaaDoorH2
set_option linter.unusedVariables false
set_option linter.unusedSimpArgs false
set_option maxRecDepth 100000
set_option maxHeartbeats 400000
namespace Go.Proofs.YtpoflmgncnngfaaDoor.H
open Go.RowKit Go.Proofs.YtpoflmgncnngfaaDoorW.PrintWords Go.Proofs.YtpoflmgncnngfaaDoorW.PrintLast Go.Proofs.YtpoflmgncnngfaaDoor.Base
def bulkC (x : Chg) : Int := x.name.size + (x.more.length + bulkL x.more) + (x.less.length + bulkL x.less)
def bulkCs : List Chg → Int
  | [] => 0
  | x :: r => bulkC x + bulkCs r
def Chg.wf (x : Chg) : Prop := strOk x.name ∧ i64 x.old ∧ i64 x.new ∧ (∀ l ∈ x.more, strOk l.name) ∧ (∀ l ∈ x.less, strOk l.name)
theorem szChange (x : Chg) (v3 v4 : Value) (l : Int) (w : World) (h0 : 0 ≤ l) (h1 : l ≤ 1048576) (h3 : In kLbl w v3 x.more) (h4 : In kLbl w v4 x.less) (hw : Chg.wf x) :
    Calls Tryd.prog 4 #[.agg #[.string x.name, .int .i64 x.old, .int .i64 x.new, v3, v4], .int .i64 l] w fun e w' => e = .returned (.int .i64 (szl l (bulkC x))) ∧ Below w.heap.size w w' := by
  obtain ⟨hw0, -, -, hw3, hw4⟩ := hw
  unfold strOk at hw0
  have k3 := h3; have k4 := h4
  obtain ⟨A3, c3, rfl, -, -⟩ := k3
  obtain ⟨A4, c4, rfl, -, -⟩ := k4
  have hq3 := bulkL_0 x.more
  have hq4 := bulkL_0 x.less
  by_cases h : l - x.name.size < 0
  · have H := hid (show szl l (bulkC x) = -1 from szl_lt (by unfold bulkC; omega))
    go_enter Tryd.func4, Tryd.ntmps4
    go_wp2
    go_ret
    rw [H.out]
    exact ⟨rfl, bel⟩
  · go_enter Tryd.func4, Tryd.ntmps4
    go_wp2_with fail
    refine (szLabelS _ x.more _ _ (by omega) (by omega) (In.below h3 bel) hw3).mono ?_
    rintro e w1 ⟨rfl, hb1⟩
    obtain ⟨hc1, hf1⟩ := bcell hb1
    have hb1 : Below w.heap.size w w1 := hb1.after bel
    by_cases h' : l - x.name.size - (x.more.length + bulkL x.more) < 0
    · have H := hid (show szl l (bulkC x) = -1 from szl_lt (by unfold bulkC; omega))
      rw [szl_lt h']
      go_wp2
      go_ret
      rw [H.out]
      exact ⟨rfl, hb1⟩
    · rw [szl_ge h']
      go_wp2_with fail
      refine (szLabelS _ x.less _ _ (by omega) (by omega) (In.below h4 hb1) hw4).mono ?_
      rintro e w2 ⟨rfl, hb2⟩
      have hb2 := hb2.after hb1
      by_cases h'' : l - x.name.size - (x.more.length + bulkL x.more) - (x.less.length + bulkL x.less) < 0
      · have H := hid (show szl l (bulkC x) = -1 from szl_lt (by unfold bulkC; omega))
        rw [szl_lt h'']
        go_wp2
        go_ret
        rw [H.out]
        exact ⟨rfl, hb2⟩
      · have H := hid (show szl l (bulkC x) = _ from szl_ge (by unfold bulkC; omega))
        rw [szl_ge h'']
        go_wp2
        go_ret
        rw [H.out]
        exact ⟨ret_int (by unfold bulkC; omega), hb2⟩
theorem bulkC_0 (x : Chg) : 0 ≤ bulkC x := by have := bulkL_0 x.more; have := bulkL_0 x.less; unfold bulkC; omega
theorem bulkCs_0 : ∀ xs, 0 ≤ bulkCs xs
  | [] => by simp [bulkCs]
  | x :: r => by have := bulkCs_0 r; have := bulkC_0 x; simp [bulkCs]; omega
theorem toChange (x : Chg) (v3 v4 : Value) (w : World) (h3 : In kLbl w v3 x.more) (h4 : In kLbl w v4 x.less) (l3 : x.more.length ≤ 1048576) (l4 : x.less.length ≤ 1048576) :
    Calls Tryd.prog 6 #[.agg #[.string x.name, .int .i64 x.old, .int .i64 x.new, v3, v4]] w fun e w' => ∃ u3 u4, e = .returned (.agg #[.string x.name, .int .i64 x.old, .int .i64 x.new, u3, u4]) ∧ (kChg 45).M w' w.heap.size (fun _ => True) x [.string x.name, .int .i64 x.old, .int .i64 x.new, u3, u4] ∧ Below w.heap.size w w' := by
  have k3 := h3; have k4 := h4
  obtain ⟨A3, c3, rfl, -, -⟩ := k3
  obtain ⟨A4, c4, rfl, -, -⟩ := k4
  go_enter Tryd.func6, Tryd.ntmps6
  go_wp2_with fail
  refine (toLabelS _ x.more _ (In.below h3 bel) l3).mono ?_
  rintro e w1 ⟨u3, rfl, ho3, hb1⟩
  obtain ⟨hc1, hf1⟩ := bcell hb1
  have hz1 : w.heap.size + 1 + 1 < w1.heap.size := by have := hb1.size; simp at this; omega
  have hz1a : w.heap.size + 1 < w1.heap.size := by omega
  have hz1b : w.heap.size < w1.heap.size := by omega
  have hb1 : Below w.heap.size w w1 := hb1.after bel
  have s3 := R_span (base := w.heap.size) ho3 (by simp <;> omega)
  simp only [World.size_alloc] at s3
  obtain ⟨A5, c5, rfl⟩ := Kd.R_slice ho3
  go_wp2_with fail
  refine (toLabelS _ x.less _ (In.below h4 bel) l4).mono ?_
  rintro e w2 ⟨u4, rfl, ho4, hb2⟩
  obtain ⟨hc2, hf2⟩ := bcell hb2
  have hz2 : w.heap.size + 1 + 1 < w2.heap.size := by have := hb2.size; simp at this; omega
  have s3 := Kd.R_below (Kd.R_far s3 (p := ⟨w.heap.size + 1 + 1, 3, none⟩) (fun k hk => by have := hk.1; show k ≠ w.heap.size + 1 + 1; omega) _) hb2
  have s4 := R_span (base := w.heap.size) ho4 (by simp <;> omega)
  have hb2 : Below w.heap.size w w2 := hb2.after bel
  obtain ⟨A6, c6, rfl⟩ := Kd.R_slice ho4
  go_wp2
  have hs : (w1.setCell ⟨w.heap.size + 1 + 1, 3, none⟩ (Value.slice A5 x.more.length c5)).heap.size = w1.heap.size := by simp
  rw [hs] at s4
  refine bodyPost_ret (v := .agg #[.string x.name, .int .i64 x.old, .int .i64 x.new, .slice A5 x.more.length c5, .slice A6 x.less.length c6]) (by simp [results, Tryd.results6, go_sem, *]) rfl ⟨_, _, rfl, kChg_M (N := w1.heap.size) (Kd.R_mono (R_hold (N := w.heap.size + 1 + 1 + 1) s3 ab (fun k hk => hk.1)) (fun k hk => ⟨trivial, hk.2⟩)) (Kd.R_mono (R_hold (N := w.heap.size + 1 + 1 + 1) s4 ab (fun k hk => by have := hk.1; omega)) (fun k hk => ⟨trivial, hk.1⟩)), bel⟩
end Go.Proofs.YtpoflmgncnngfaaDoor.H
