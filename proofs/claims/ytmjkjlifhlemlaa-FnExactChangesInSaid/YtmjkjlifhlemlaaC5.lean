/- Labels of two lists together, the program's way; what one list lacks of another. -/
import Derived.Test.YtmjkjlifhlemlaaC4
set_option linter.unusedVariables false
set_option linter.unusedSimpArgs false
set_option maxRecDepth 100000
set_option maxHeartbeats 2000000
namespace Go.Proofs.Ytmjkjlifhlemlaa.H
open Go.RowKit Go.Proofs.YtmjkjlifhlemlaaW.PrintWords Go.Proofs.YtmjkjlifhlemlaaW.PrintLast Go.Proofs.Ytmjkjlifhlemlaa.Base Go.Sort
/-- labels sorted, each once -/
def lbls (xs : List Lbl) : List Lbl := Plain.dd (srtL xs)
theorem lbls_srt (xs : List Lbl) (n : Nat) (hn : xs.length ≤ n) : lbls xs = Plain.srt leL n xs := Plain.dd_srt leL_tot leL_tr leL_anti xs n hn
theorem lbls_len (xs : List Lbl) : (lbls xs).length ≤ xs.length := Nat.le_trans (Plain.dd_len _) (by unfold srtL; rw [List.length_mergeSort]; exact Nat.le_refl _)
theorem implLabels (u v : Value) (xs ys : List Lbl) (w : World) (hx : In kLbl w u xs) (hy : In kLbl w v ys) (hn : xs.length + ys.length ≤ 4194304) :
    Calls Try.prog 38 #[u, v] w fun e w' => ∃ v', e = .returned v' ∧ kLbl.R 62 w' w.heap.size (fun _ => True) v' (lbls (xs ++ ys)) ∧ Below w.heap.size w w' := by
  have kx := hx; have ky := hy
  obtain ⟨A0, c0, rfl, -, -⟩ := kx
  obtain ⟨A1, c1, rfl, -, -⟩ := ky
  go_enter Try.func38, Try.ntmps38
  go_wp2_with fail
  refine (concatL 0 _ _ _ (inTwoK hx hy) (by simp [sumLen]; omega) (by simp)).mono ?_
  rintro e w1 ⟨v1, rfl, ho1, hb1⟩
  have hb1' : RowKit.Below w.heap.size w w1 := hb1.after bel
  replace ho1 := Kd.R_lower ho1 (show w.heap.size ≤ _ by simp)
  rw [show [xs, ys].flatten = xs ++ ys by simp] at ho1
  have hlen : (xs ++ ys).length ≤ 4194304 := by rw [List.length_append]; exact hn
  obtain ⟨zs, hzs⟩ : ∃ zs, xs ++ ys = zs := ⟨_, rfl⟩
  rw [hzs] at ho1 hlen
  replace hzs := hid hzs
  have hsl : (srtL zs).length = zs.length := List.length_mergeSort _
  obtain ⟨A, c, rfl⟩ := Kd.R_slice ho1
  have h1 := sortL _ _ _ _ _ ho1 hlen hb1'
  clear ho1 hb1
  go_wp2_with fail
  refine h1.mono ?_
  rintro e w2 ⟨rfl, ho2, hb2⟩
  have h2 := compactL _ _ _ _ _ ho2 (by rw [hsl]; exact hlen) hb2
  clear h1 ho2 hb2
  go_wp2_with fail
  refine h2.mono ?_
  rintro e w3 ⟨v3, rfl, ho3, hb3⟩
  have ho3' := hid ho3
  have hb3' := hid hb3
  clear h2 ho3 hb3
  go_wp2_with fail
  go_ret
  exact ⟨_, rfl, by rw [hzs.out]; exact ho3'.out, hb3'.out⟩
theorem indexL (v : Value) (xs : List Lbl) (x : Lbl) (w : World) (hx : In kLbl w v xs) (hl : xs.length ≤ 4194304) :
    Calls Try.prog 52 #[v, .agg #[.int .i64 x.kind, .string x.name]] w fun e w' => (∃ i : Int, e = .returned (.int .i64 i) ∧ decide (0 ≤ i) = xs.contains x) ∧ Below w.heap.size w w' := by
  obtain ⟨A, c, rfl, hc, hC⟩ := hx
  go_enter Try.func52, Try.ntmps52
  go_wp2_with fail
  have hb0 : Below w.heap.size w (w.alloc (Obj.cells #[Value.int IntKind.i64 x.kind, Value.string x.name] 62)) := bel
  have b0 : (w.alloc (Obj.cells #[Value.int IntKind.i64 x.kind, Value.string x.name] 62)).cell? ⟨w.heap.size, 0, none⟩ = some (.int .i64 x.kind) := by simp
  have b1 : (w.alloc (Obj.cells #[Value.int IntKind.i64 x.kind, Value.string x.name] 62)).cell? ⟨w.heap.size, 1, none⟩ = some (.string x.name) := by simp
  replace hC := Kd.C_below hC hb0
  generalize w.alloc (Obj.cells #[Value.int IntKind.i64 x.kind, Value.string x.name] 62) = wa at *
  go_loopg [8] xs.length (fun q vi wr => ∃ (done rest : List Lbl), q = rest.length ∧ Hid (xs = done ++ rest) ∧ vi = .int .i64 done.length ∧ Hid (done.contains x = false) ∧ ∃ m, wr = wa.drewN m)
  case atStart => exact ⟨[], xs, rfl, hid rfl, rfl, hid rfl, 0, rfl⟩
  case round =>
    obtain ⟨done, rest, rfl, hxs, rfl, hno, m, rfl⟩ := hrel
    cases rest with
    | nil =>
      have hlt : ¬ done.length < xs.length := by rw [hxs.out]; simp
      go_wp2_with fail
      go_ret
      exact ⟨⟨-1, rfl, by rw [show xs = done by simpa using hxs.out, hno.out]; rfl⟩, pw_below_drewN hb0 _⟩
    | cons y rest =>
      have hlt : done.length < xs.length := by rw [hxs.out]; simp
      obtain ⟨ad, rfl, c0, c1⟩ := lbl_at hC hxs.out
      have t1 := eqLblRun x y
      have p0 : (0 : Int) ≤ done.length := by omega
      have p1 : (done.length : Int) < xs.length := by omega
      by_cases hxy : x = y
      · rw [decide_eq_true hxy] at t1
        have H := hid (show xs.contains x = true by rw [hxs.out, hxy]; simp)
        clear hxy
        go_wp2_with fail
        go_quiet (fail)
        go_wp2_with fail
        go_ret
        exact ⟨⟨_, rfl, by rw [H.out]; simp⟩, pw_below_drewN (pw_below_drewN hb0 _) _⟩
      · rw [decide_eq_false hxy] at t1
        have hno' := hid (show (done ++ [y]).contains x = false by have := hno.out; simp at this ⊢; exact ⟨this, hxy⟩)
        have hxs' := hid (show xs = (done ++ [y]) ++ rest by rw [hxs.out]; simp)
        clear hxy
        go_wp2_with fail
        go_quiet (fail)
        go_wp2_with fail
        go_roundg rest.length
        case measure => simp
        case rel => exact ⟨done ++ [y], rest, rfl, hxs', by simp, hno', _, by simp [World.drewN]; rfl⟩
end Go.Proofs.Ytmjkjlifhlemlaa.H
