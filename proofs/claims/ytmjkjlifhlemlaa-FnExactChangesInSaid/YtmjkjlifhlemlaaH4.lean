/- The laws' helpers at slices of changes: copies, equality. -/
import Derived.Test.YtmjkjlifhlemlaaH3
set_option linter.unusedVariables false
set_option linter.unusedSimpArgs false
set_option maxRecDepth 100000
set_option maxHeartbeats 400000
namespace Go.Proofs.Ytmjkjlifhlemlaa.H
open Go.RowKit Go.Proofs.YtmjkjlifhlemlaaW.PrintWords Go.Proofs.YtmjkjlifhlemlaaW.PrintLast Go.Proofs.Ytmjkjlifhlemlaa.Base
theorem infoChg : (Try.prog.info? 46).map (fun i => (i.zero, i.size, i.bytes)) = some (some (.agg #[(.string ⟨#[]⟩), (.int .i64 0), (.int .i64 0), (.slice none 0 0), (.slice none 0 0)]), 5, 80) := by kernel_rfl
def zChg : Chg := ⟨⟨#[]⟩, 0, 0, [], []⟩
theorem zChg_M {T : Nat} {w : World} {base : Nat} {ok : Nat → Prop} : (kChg T).M w base ok zChg [.string ⟨#[]⟩, .int .i64 0, .int .i64 0, .slice none 0 0, .slice none 0 0] :=
  kChg_M (x := zChg) (N := 0) (Kd.R_nil _ _ _ _ _) (Kd.R_nil _ _ _ _ _)
theorem eqChange (x y : Chg) (v3 v4 u3 u4 : Value) (w : World) (h3 : In kLbl w v3 x.more) (h4 : In kLbl w v4 x.less) (h5 : In kLbl w u3 y.more) (h6 : In kLbl w u4 y.less) :
    Calls Try.prog 24 #[.agg #[.string x.name, .int .i64 x.old, .int .i64 x.new, v3, v4], .agg #[.string y.name, .int .i64 y.old, .int .i64 y.new, u3, u4]] w fun e w' => e = .returned (.bool (decide (x = y))) ∧ Below w.heap.size w w' := by
  have k3 := h3; have k4 := h4; have k5 := h5; have k6 := h6
  obtain ⟨A3, c3, rfl, -, -⟩ := k3
  obtain ⟨A4, c4, rfl, -, -⟩ := k4
  obtain ⟨A5, c5, rfl, -, -⟩ := k5
  obtain ⟨A6, c6, rfl, -, -⟩ := k6
  rw [Chg.eq_of]
  go_enter Try.func24, Try.ntmps24
  go_wp2_with fail
  all_goals try (go_ret; exact ⟨ret_bool (by simp_all [str_beq]), bel⟩)
  refine (eqLabelS _ _ x.more y.more _ (In.below h3 bel) (In.below h5 bel)).mono ?_
  rintro e w1 ⟨rfl, hb1⟩
  obtain ⟨hc1, hf1⟩ := bcell hb1
  have hz1 : w.heap.size + 1 < w1.heap.size := by have := hb1.size; simp at this; omega
  have hz1a : w.heap.size < w1.heap.size := by omega
  have hb1 : Below w.heap.size w w1 := hb1.after bel
  by_cases h : x.more = y.more
  · rw [decide_eq_true h]
    have H := hid h; clear h
    go_wp2_with fail
    refine (eqLabelS _ _ x.less y.less _ (In.below h4 bel) (In.below h6 bel)).mono ?_
    rintro e w2 ⟨rfl, hb2⟩
    have hb2 := hb2.after hb1
    by_cases h : x.less = y.less
    · rw [decide_eq_true h]
      have H2 := hid h; clear h
      go_wp2
      go_ret
      exact ⟨ret_bool (by have := H.out; have := H2.out; simp_all [str_beq]), hb2⟩
    · rw [decide_eq_false h]
      go_wp2
      go_ret
      exact ⟨ret_bool (by simp_all [str_beq]), hb2⟩
  · rw [decide_eq_false h]
    go_wp2
    go_ret
    exact ⟨ret_bool (by simp_all [str_beq]), hb1⟩
theorem eqChangeS (S T : Nat) (u v : Value) (xs ys : List Chg) (w : World) (hx : In (kChg S) w u xs) (hy : In (kChg T) w v ys) :
    Calls Try.prog 8 #[u, v] w fun e w' => e = .returned (.bool (decide (xs = ys))) ∧ Below w.heap.size w w' := by
  obtain ⟨A, c, rfl, hc, hC⟩ := hx
  obtain ⟨A', c', rfl, hc', hC'⟩ := hy
  have hm := hC.2.1
  by_cases hl : xs.length = ys.length
  · have hl' : ((xs.length : Int) != ys.length) = false := by simp; omega
    have hL := hid hl; clear hl
    go_enter Try.func8, Try.ntmps8
    go_wp2
    go_loopw [5] (fun vi wr => ∃ (done rest rest2 : List Chg), Hid (xs = done ++ rest) ∧ Hid (ys = done ++ rest2) ∧ vi = .int .i64 done.length ∧ Below w.heap.size w wr) (fun vi _ => xs.length - (intOf vi).toNat)
    case atStart => exact ⟨[], xs, ys, rfl, rfl, rfl, Below.refl _ _⟩
    case round =>
      obtain ⟨done, rest, rest2, hx, hy, rfl, hb⟩ := hrel
      cases rest with
      | nil =>
        have hlt : ¬ done.length < xs.length := by rw [hx.out]; simp
        go_wp2
        go_ret
        exact ⟨ret_bool (by
          have h1 := hx.out; have h2 := hy.out; simp at h1
          subst h1
          have hl := hL.out
          rw [h2] at hl
          have : rest2 = [] := by simpa using hl
          subst this
          simpa using h2.symm), hb⟩
      | cons x rest =>
        cases rest2 with
        | nil => exact absurd hL.out (by rw [hx.out, hy.out]; simp)
        | cons y rest2 =>
          have hlt : done.length < xs.length := by rw [hx.out]; simp
          have hlt2 : done.length < ys.length := by rw [hy.out]; simp
          obtain ⟨ad, v3, v4, rfl, d0, d1, d2, d3, d4, k3, k4⟩ := chg_at (Kd.C_below hC hb) hx.out
          obtain ⟨ad', u3, u4, rfl, e0, e1, e2, e3, e4, k5, k6⟩ := chg_at (Kd.C_below hC' hb) hy.out
          go_wp2_with fail
          go_still_tail 8, (by kernel_rfl)
          change wpList _ _ _ _ _ wr.drew
          go_wp2_with fail
          refine (eqChange x y _ _ _ _ _ (k3.below bel) (k4.below bel) (k5.below bel) (k6.below bel)).mono ?_
          rintro e w1 ⟨rfl, hb1⟩
          have hb2 := hb1.after hb.drew
          by_cases h : x = y
          · subst h
            rw [decide_eq_true rfl]
            go_wp2
            go_roundw
            case rel => exact ⟨done ++ [x], rest, rest2, by rw [hx.out]; simp [Hid], by rw [hy.out]; simp [Hid], by simp, hb2⟩
            case measure => simp [intOf]; omega
          · rw [decide_eq_false h]
            go_wp2
            go_ret
            exact ⟨ret_bool (by symm; apply decide_eq_false; rw [hx.out, hy.out]; simp [h]), hb2⟩
  · have hl' : ((xs.length : Int) != ys.length) = true := by simp; omega
    go_enter Try.func8, Try.ntmps8
    go_wp2
    go_ret
    exact ⟨ret_bool (by simp; intro h; exact hl (by rw [h])), bel⟩
end Go.Proofs.Ytmjkjlifhlemlaa.H
