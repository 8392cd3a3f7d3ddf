/- The laws' helpers at slices of changes: copies, equality. -/
import Derived.Test.YtpoflmgncnngfaaDoorH3
set_option linter.unusedVariables false
set_option linter.unusedSimpArgs false
set_option maxRecDepth 100000
set_option maxHeartbeats 400000
namespace Go.Proofs.YtpoflmgncnngfaaDoor.H
open Go.RowKit Go.Proofs.YtpoflmgncnngfaaDoorW.PrintWords Go.Proofs.YtpoflmgncnngfaaDoorW.PrintLast Go.Proofs.YtpoflmgncnngfaaDoor.Base
theorem infoChg : (Tryd.prog.info? 29).map (fun i => (i.zero, i.size, i.bytes)) = some (some (.agg #[(.string ⟨#[]⟩), (.int .i64 0), (.int .i64 0), (.slice none 0 0), (.slice none 0 0)]), 5, 80) := by kernel_rfl
def zChg : Chg := ⟨⟨#[]⟩, 0, 0, [], []⟩
theorem zChg_M {T : Nat} {w : World} {base : Nat} {ok : Nat → Prop} : (kChg T).M w base ok zChg [.string ⟨#[]⟩, .int .i64 0, .int .i64 0, .slice none 0 0, .slice none 0 0] :=
  kChg_M (x := zChg) (N := 0) (Kd.R_nil _ _ _ _ _) (Kd.R_nil _ _ _ _ _)
theorem eqChange (x y : Chg) (v3 v4 u3 u4 : Value) (w : World) (h3 : In kLbl w v3 x.more) (h4 : In kLbl w v4 x.less) (h5 : In kLbl w u3 y.more) (h6 : In kLbl w u4 y.less) :
    Calls Tryd.prog 8 #[.agg #[.string x.name, .int .i64 x.old, .int .i64 x.new, v3, v4], .agg #[.string y.name, .int .i64 y.old, .int .i64 y.new, u3, u4]] w fun e w' => e = .returned (.bool (decide (x = y))) ∧ Below w.heap.size w w' := by
  have k3 := h3; have k4 := h4; have k5 := h5; have k6 := h6
  obtain ⟨A3, c3, rfl, -, -⟩ := k3
  obtain ⟨A4, c4, rfl, -, -⟩ := k4
  obtain ⟨A5, c5, rfl, -, -⟩ := k5
  obtain ⟨A6, c6, rfl, -, -⟩ := k6
  rw [Chg.eq_of]
  go_enter Tryd.func8, Tryd.ntmps8
  go_wp2_with fail
  all_goals try (go_ret; exact ⟨ret_bool (by simp_all [str_beq]), bel⟩)
  refine (eqLabelS _ _ x.more y.more _ (In.below h3 bel) (In.below h5 bel)).mono ?_
  rintro e w1 ⟨rfl, hb1⟩
  obtain ⟨hc1, hf1⟩ := bcell hb1
  have hz1 : w.heap.size + 1 < w1.heap.size := by have := hb1.size; simp at this; omega
  have hz1a : w.heap.size < w1.heap.size := by omega
  have hb1 : Below w.heap.size w w1 := hb1.after bel
  by_cases h : x.more = y.more
  · rw [decide_eq_true h]
    have H := hid h; clear h
    go_wp2_with fail
    refine (eqLabelS _ _ x.less y.less _ (In.below h4 bel) (In.below h6 bel)).mono ?_
    rintro e w2 ⟨rfl, hb2⟩
    have hb2 := hb2.after hb1
    by_cases h : x.less = y.less
    · rw [decide_eq_true h]
      have H2 := hid h; clear h
      go_wp2
      go_ret
      exact ⟨ret_bool (by have := H.out; have := H2.out; simp_all [str_beq]), hb2⟩
    · rw [decide_eq_false h]
      go_wp2
      go_ret
      exact ⟨ret_bool (by simp_all [str_beq]), hb2⟩
  · rw [decide_eq_false h]
    go_wp2
    go_ret
    exact ⟨ret_bool (by simp_all [str_beq]), hb1⟩
end Go.Proofs.YtpoflmgncnngfaaDoor.H
