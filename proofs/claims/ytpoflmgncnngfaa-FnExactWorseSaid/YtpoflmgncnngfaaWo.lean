/- Worse: the reference's and the program's. -/
import Derived.Test.YtpoflmgncnngfaaH6
import Derived.Test.YtpoflmgncnngfaaH7
set_option linter.unusedVariables false
set_option linter.unusedSimpArgs false
set_option maxRecDepth 100000
set_option maxHeartbeats 400000
namespace Go.Proofs.Ytpoflmgncnngfaa.H
open Go.RowKit Go.Proofs.YtpoflmgncnngfaaW.PrintWords Go.Proofs.YtpoflmgncnngfaaW.PrintLast Go.Proofs.Ytpoflmgncnngfaa.Base
def isWorse (c : Chg) : Bool := (c.old == 0 && c.new != 0) || decide (0 < c.more.length)
def worse (xs : List Chg) : List ByteArray := (xs.filter isWorse).map (·.name)
theorem infoS : (Try.prog.info? 9).map (fun i => (i.zero, i.size, i.bytes)) = some (some (.string ⟨#[]⟩), 1, 16) := by kernel_rfl
theorem specWorse (T : Nat) (v : Value) (xs : List Chg) (w : World) (hx : In (kChg T) w v xs) (hl : xs.length ≤ 1048576) :
    Calls Try.prog 6 #[v] w fun e w' => ∃ v', e = .returned v' ∧ kS.R 9 w' w.heap.size (fun _ => True) v' (worse xs) ∧ Below w.heap.size w w' := by
  obtain ⟨A, c, rfl, hc, hC⟩ := hx
  go_enter Try.func6, Try.ntmps6
  go_wp2
  go_loopw [3, 4] (fun vo vi wr => ∃ done rest : List Chg, Hid (xs = done ++ rest) ∧ vi = .int .i64 done.length ∧ kS.R 9 wr w.heap.size (fun _ => True) vo (worse done) ∧ Below w.heap.size w wr) (fun _ vi _ => xs.length - (intOf vi).toNat)
  case atStart => exact ⟨[], xs, rfl, rfl, R_empty _ _ _ (Nat.le_refl _), bel⟩
  case round =>
    obtain ⟨done, rest, hx, rfl, ho, hb⟩ := hrel
    cases rest with
    | nil =>
      have hlt : ¬ done.length < xs.length := by rw [hx.out]; simp
      go_wp2
      go_ret
      exact ⟨_, rfl, by have h2 := hx.out; simp at h2; rw [h2]; exact ho, hb⟩
    | cons x rest =>
      have hlt : done.length < xs.length := by rw [hx.out]; simp
      have hlw : (worse done).length ≤ done.length := by unfold worse; rw [List.length_map]; exact List.length_filter_le _ _
      obtain ⟨ad, v3, v4, rfl, d0, d1, d2, d3, d4, ⟨A3, c3, rfl, -, -⟩, k4⟩ := chg_at (Kd.C_below hC hb) hx.out
      have hbs := hb.size
      go_wp2_with (at_builtin; refine R_push kS (w0 := w) 24 9 rfl rfl Try.underlying24 infoS rfl (by decide) (by decide) x.name rfl rfl rfl ho hb hbs (by omega) ?_; intro v1 w1 ho1 hb1 hg1; clear ho hb)
      all_goals
        go_roundw
        case rel => exact ⟨done ++ [x], rest, by rw [hx.out]; simp [Hid], by simp, by first | (simp [worse, isWorse, *] at ho1 ⊢; exact ho1) | (simp [worse, isWorse, *] at ho ⊢; exact ho), by first | exact hb1 | exact hb⟩
        case measure => simp [intOf]; omega
theorem implWorse (T : Nat) (v : Value) (xs : List Chg) (w : World) (hx : In (kChg T) w v xs) (hl : xs.length ≤ 1048576) :
    Calls Try.prog 8 #[v] w fun e w' => ∃ v', e = .returned v' ∧ kS.R 9 w' w.heap.size (fun _ => True) v' (worse xs) ∧ Below w.heap.size w w' := by
  obtain ⟨A, c, rfl, hc, hC⟩ := hx
  go_enter Try.func8, Try.ntmps8
  go_wp2
  go_loopw [3, 9] (fun vo vi wr => ∃ done rest : List Chg, Hid (xs = done ++ rest) ∧ vi = .int .i64 done.length ∧ kS.R 9 wr w.heap.size (fun _ => True) vo (worse done) ∧ Below w.heap.size w wr) (fun _ vi _ => xs.length - (intOf vi).toNat)
  case atStart => exact ⟨[], xs, rfl, rfl, R_empty _ _ _ (Nat.le_refl _), bel⟩
  case round =>
    obtain ⟨done, rest, hx, rfl, ho, hb⟩ := hrel
    cases rest with
    | nil =>
      have hlt : ¬ done.length < xs.length := by rw [hx.out]; simp
      go_wp2
      go_ret
      exact ⟨_, rfl, by have h2 := hx.out; simp at h2; rw [h2]; exact ho, hb⟩
    | cons x rest =>
      have hlt : done.length < xs.length := by rw [hx.out]; simp
      have hlw : (worse done).length ≤ done.length := by unfold worse; rw [List.length_map]; exact List.length_filter_le _ _
      obtain ⟨ad, v3, v4, rfl, d0, d1, d2, d3, d4, ⟨A3, c3, rfl, -, -⟩, ⟨A4, c4, rfl, -, -⟩⟩ := chg_at (Kd.C_below hC hb) hx.out
      have hbs := hb.size
      have p0 : (0 : Int) ≤ done.length := by omega
      have p1 : (done.length : Int) < xs.length := by omega
      go_wp2_with (at_builtin; refine R_push kS (w0 := w) 24 9 rfl rfl Try.underlying24 infoS rfl (by decide) (by decide) x.name rfl (by exact congrArg (fun n => Value.slice (some ⟨n, 0, none⟩) 1 1) (show wr.heap.size + 1 = (World.alloc _ _).heap.size from (Array.size_push _).symm)) rfl (Kd.R_alloc ho _) (hb.alloc hbs _) (Nat.le_trans hbs (by simp)) (by omega) ?_; intro v1 w1 ho1 hb1 hg1; clear ho hb)
      all_goals
        go_roundw
        case rel => exact ⟨done ++ [x], rest, by rw [hx.out]; simp [Hid], by simp, by first | (simp [worse, isWorse, *] at ho1 ⊢; exact ho1) | (simp [worse, isWorse, *] at ho ⊢; exact Kd.R_alloc ho _) | (simp [worse, isWorse, *] at ho ⊢; exact ho), by first | exact hb1 | exact hb.alloc hbs _ | exact hb⟩
        case measure => simp [intOf]; omega
end Go.Proofs.Ytpoflmgncnngfaa.H
