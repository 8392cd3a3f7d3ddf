/- The laws' helpers at labels: copies, equality. -/
import Derived.Test.YtmjkjlifhlemlaaH1
set_option linter.unusedVariables false
set_option linter.unusedSimpArgs false
set_option maxRecDepth 100000
set_option maxHeartbeats 400000
namespace Go.Proofs.Ytmjkjlifhlemlaa.H
open Go.RowKit Go.Proofs.YtmjkjlifhlemlaaW.PrintWords Go.Proofs.YtmjkjlifhlemlaaW.PrintLast Go.Proofs.Ytmjkjlifhlemlaa.Base
theorem toLabel (a : Int) (s : ByteArray) (w : World) :
    Calls Try.prog 43 #[.agg #[.int .i64 a, .string s]] w fun e w' => e = .returned (.agg #[.int .i64 a, .string s]) ∧ Below w.heap.size w w' := by
  go_enter Try.func43, Try.ntmps43
  go_wp2
  exact bodyPost_ret (v := .agg #[.int .i64 a, .string s]) (by simp [results, Try.results43, go_sem]) rfl ⟨rfl, bel⟩
theorem infoLbl : (Try.prog.info? 62).map (fun i => (i.zero, i.size, i.bytes)) = some (some (.agg #[(.int .i64 0), (.string ⟨#[]⟩)]), 2, 24) := by kernel_rfl
theorem toLabelS (v : Value) (xs : List Lbl) (w : World) (hx : In kLbl w v xs) (hl : xs.length ≤ 1048576) :
    Calls Try.prog 32 #[v] w fun e w' => ∃ v', e = .returned v' ∧ kLbl.R 62 w' w.heap.size (fun _ => True) v' xs ∧ Below w.heap.size w w' := by
  obtain ⟨A, c, rfl, hc, hC⟩ := hx
  go_enter Try.func32, Try.ntmps32
  go_wp2_with (refine Kd.R_make kLbl _ 62 rfl (N := 7) rfl 38 _ _ rfl (xs.length : Int) rfl rfl Try.underlying38 (.agg #[(.int .i64 0), (.string ⟨#[]⟩)]) 24 infoLbl rfl (by decide) (by omega) ⟨0, ⟨#[]⟩⟩ (ok := fun _ => True) (okp := fun _ => True) (kLbl_M _) (fun _ hk => hk) trivial (by omega) (by simp; omega) (Below.refl _ _) (Nat.le_refl _) ?_; intro v1 w1 ho hb hg hn; clear hg hn)
  simp only [Int.toNat_natCast] at ho
  obtain ⟨A1, c1, rfl⟩ := Kd.R_slice ho
  simp only [List.length_replicate] at ho ⊢
  go_loopw [4] (fun vi wr => ∃ done rest : List Lbl, Hid (xs = done ++ rest) ∧ vi = .int .i64 done.length ∧ kLbl.R 62 wr w.heap.size (fun _ => True) (.slice A1 xs.length c1) (done ++ List.replicate rest.length ⟨0, ⟨#[]⟩⟩) ∧ Below w.heap.size w wr) (fun vi _ => xs.length - (intOf vi).toNat)
  case atStart => exact ⟨[], xs, rfl, rfl, ho, hb⟩
  case round =>
    clear ho hb
    obtain ⟨done, rest, hx, rfl, ho, hb⟩ := hrel
    cases rest with
    | nil =>
      have hlt : ¬ done.length < xs.length := by rw [hx.out]; simp
      have ho' := hid ho; clear ho
      go_wp2
      go_ret
      exact ⟨_, rfl, by have h1 := ho'.out; have h2 := hx.out; simp at h1 h2; rw [h2] at h1 ⊢; exact h1, hb⟩
    | cons x rest =>
      have hlt : done.length < xs.length := by rw [hx.out]; simp
      obtain ⟨ad, rfl, c0, c1⟩ := lbl_at (Kd.C_below hC hb) hx.out
      obtain ⟨g, rfl, hg0, hg1⟩ := R_some ho
      have hbg := hb.size
      have ho' := hid ho; clear ho
      go_wp2_with fail
      refine (toLabel _ _ _).mono ?_
      rintro e w2 ⟨rfl, hb2⟩
      have hb3 := hid (hb.trans (hb2.mono hbg))
      have ho2 := Kd.R_below ho'.out hb2
      go_wp2_with (refine R_fill kLbl (x' := x) (okp := fun _ => False) 62 62 rfl rfl rfl rfl rfl rfl rfl (by kernel_rfl) ho2 (kLbl_M x) (fun _ hk => hk.elim) hb3.out ?_; intro w3 ho3 hb4 hg3)
      go_roundw
      case rel => exact ⟨done ++ [x], rest, by rw [hx.out]; simp [Hid], by simp, by simpa using ho3, hb4⟩
      case measure => simp [intOf]; omega
theorem eqLabel (x y : Lbl) (w : World) :
    Calls Try.prog 53 #[.agg #[.int .i64 x.kind, .string x.name], .agg #[.int .i64 y.kind, .string y.name]] w fun e w' => e = .returned (.bool (decide (x = y))) ∧ Below w.heap.size w w' := by
  rw [Lbl.eq_of]
  go_enter Try.func53, Try.ntmps53
  go_wp2
  all_goals
    go_ret
    exact ⟨ret_bool (by simp_all [str_beq]), bel⟩
theorem eqLabelS (u v : Value) (xs ys : List Lbl) (w : World) (hx : In kLbl w u xs) (hy : In kLbl w v ys) :
    Calls Try.prog 41 #[u, v] w fun e w' => e = .returned (.bool (decide (xs = ys))) ∧ Below w.heap.size w w' := by
  obtain ⟨A, c, rfl, hc, hC⟩ := hx
  obtain ⟨A', c', rfl, hc', hC'⟩ := hy
  have hm := hC.2.1
  by_cases hl : xs.length = ys.length
  · have hl' : ((xs.length : Int) != ys.length) = false := by simp; omega
    have hL := hid hl; clear hl
    go_enter Try.func41, Try.ntmps41
    go_wp2
    go_loopw [5] (fun vi wr => ∃ (done rest rest2 : List Lbl), Hid (xs = done ++ rest) ∧ Hid (ys = done ++ rest2) ∧ vi = .int .i64 done.length ∧ Below w.heap.size w wr) (fun vi _ => xs.length - (intOf vi).toNat)
    case atStart => exact ⟨[], xs, ys, rfl, rfl, rfl, Below.refl _ _⟩
    case round =>
      obtain ⟨done, rest, rest2, hx, hy, rfl, hb⟩ := hrel
      cases rest with
      | nil =>
        have hlt : ¬ done.length < xs.length := by rw [hx.out]; simp
        go_wp2
        go_ret
        exact ⟨ret_bool (by
          have h1 := hx.out; have h2 := hy.out; simp at h1
          subst h1
          have hl := hL.out
          rw [h2] at hl
          have : rest2 = [] := by simpa using hl
          subst this
          simpa using h2.symm), hb⟩
      | cons x rest =>
        cases rest2 with
        | nil => exact absurd hL.out (by rw [hx.out, hy.out]; simp)
        | cons y rest2 =>
          have hlt : done.length < xs.length := by rw [hx.out]; simp
          have hlt2 : done.length < ys.length := by rw [hy.out]; simp
          obtain ⟨ad, rfl, c0, c1⟩ := lbl_at (Kd.C_below hC hb) hx.out
          obtain ⟨ad', rfl, c0', c1'⟩ := lbl_at (Kd.C_below hC' hb) hy.out
          go_wp2_with fail
          go_still_tail 8, (by kernel_rfl)
          change wpList _ _ _ _ _ wr.drew
          go_wp2_with fail
          refine (eqLabel x y _).mono ?_
          rintro e w1 ⟨rfl, hb1⟩
          have hb2 := hb.drew.trans (hb1.mono hb.size)
          by_cases h : x = y
          · subst h
            rw [decide_eq_true rfl]
            go_wp2
            go_roundw
            case rel => exact ⟨done ++ [x], rest, rest2, by rw [hx.out]; simp [Hid], by rw [hy.out]; simp [Hid], by simp, hb2⟩
            case measure => simp [intOf]; omega
          · rw [decide_eq_false h]
            go_wp2
            go_ret
            exact ⟨ret_bool (by symm; apply decide_eq_false; rw [hx.out, hy.out]; simp [h]), hb2⟩
  · have hl' : ((xs.length : Int) != ys.length) = true := by simp; omega
    go_enter Try.func41, Try.ntmps41
    go_wp2
    go_ret
    exact ⟨ret_bool (by simp; intro h; exact hl (by rw [h])), bel⟩
end Go.Proofs.Ytmjkjlifhlemlaa.H
