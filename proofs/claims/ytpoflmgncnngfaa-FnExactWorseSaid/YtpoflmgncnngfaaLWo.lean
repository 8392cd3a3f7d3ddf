/- The law FnExactWorse walked: it answers true and leaves what was there. -/
import Derived.Test.YtpoflmgncnngfaaWo
set_option linter.unusedVariables false
set_option linter.unusedSimpArgs false
set_option maxRecDepth 100000
set_option maxHeartbeats 1000000
namespace Go.Proofs.Ytpoflmgncnngfaa.H
open Go.RowKit Go.Proofs.YtpoflmgncnngfaaW.PrintWords Go.Proofs.YtpoflmgncnngfaaW.PrintLast Go.Proofs.Ytpoflmgncnngfaa.Base
theorem cntCs_le : ∀ xs, cntCs xs ≤ 3 * (xs.length : Int) + 2 * bulkCs xs
  | [] => by simp [cntCs, bulkCs]
  | x :: r => by have := cntCs_le r; have := bulkL_0 x.more; have := bulkL_0 x.less; simp only [cntCs, bulkCs, cntC, bulkC, List.length_cons]; omega
theorem lens_le : ∀ xs, ∀ x ∈ xs, (x.more.length : Int) ≤ bulkCs xs ∧ (x.less.length : Int) ≤ bulkCs xs
  | [], x, h => by cases h
  | y :: r, x, h => by
      have h0 := bulkCs_0 r; have h1 := bulkL_0 y.more; have h2 := bulkL_0 y.less
      rcases List.mem_cons.1 h with rfl | h
      · simp only [bulkCs, bulkC]; omega
      · have := lens_le r x h; have := bulkC_0 y; simp only [bulkCs]; omega
theorem worse_len (xs : List Chg) : (worse xs).length ≤ xs.length := by unfold worse; rw [List.length_map]; exact List.length_filter_le _ _
theorem law (T : Nat) (v : Value) (xs : List Chg) (w : World) (hx : In (kChg T) w v xs) (hs : ∀ x ∈ xs, Chg.wf x) :
    Calls Try.prog 3 #[v] w fun e w' => e = .returned (.bool true) ∧ Below w.heap.size w w' := by
  go_enter Try.func3, Try.ntmps3
  go_wp2_with fail
  refine (szChangeS T v xs 1048576 _ (by decide) (by decide) (hx.below bel) hs).mono ?_
  rintro e w1 ⟨rfl, hb1⟩
  have hb1' : Below w.heap.size w w1 := hb1.after bel
  clear hb1
  have hB0 := bulkCs_0 xs
  by_cases hbig : (1048576 : Int) - (xs.length + bulkCs xs) < 0
  · rw [szl_lt hbig]
    go_wp2_with fail
    go_ret
    exact ⟨rfl, bel⟩
  rw [szl_ge hbig]
  have hbig' := hid hbig
  have hl : xs.length ≤ 1048576 := by omega
  have hi : ∀ x ∈ xs, x.more.length ≤ 1048576 ∧ x.less.length ≤ 1048576 := fun x h => by have := lens_le xs x h; omega
  have hcnt := cntCs_le xs
  have hbk : bulkCs xs ≤ 1048576 := by omega
  have hwl := worse_len xs
  have hq0 : ¬ ((1048576 : Int) - (xs.length + bulkCs xs)) < 0 := hbig
  clear hbig
  generalize (1048576 : Int) - (xs.length + bulkCs xs) = q at *
  go_wp2_with fail
  -- the reference's answer
  refine (toChangeS T v xs _ (hx.below bel) hl hi).mono ?_
  rintro e w2 ⟨v2, rfl, ho2, hb2⟩
  go_wp2_with fail
  refine (specWorse _ _ xs _ (In.ofS ho2) hl).mono ?_
  rintro e w3 ⟨v3, rfl, ho3, hb3⟩
  have hb3' : Below w.heap.size w w3 := (hb3.after (hb2.after bel))
  have s2 := hb1'.size; have s3 := hb2.size; have s4 := hb3.size
  go_wp2_with fail
  refine (toChangeS T v xs _ (hx.below bel) hl hi).mono ?_
  rintro e w4 ⟨v4, rfl, ho4, hb4⟩
  go_wp2_with fail
  refine (implWorse _ _ xs _ (In.ofS ho4) hl).mono ?_
  rintro e w5 ⟨v5, rfl, ho5, hb5⟩
  have s5 := hb4.size; have s6 := hb5.size
  have hb5' : Below w.heap.size w w5 := (hb5.after (hb4.after hb3'))
  have r3 := R_span ho3 (Nat.le_refl _)
  have r4 := S_span ho4 (Nat.le_refl _)
  have r5 := R_span ho5 (Nat.le_refl _)
  have r3 := Kd.R_below (Kd.R_below r3 hb4) hb5
  have r4 := Kd.S_below r4 hb5
  clear ho2 ho3 ho4 ho5
  go_wp2_with fail
  refine (eqStringS _ _ _ _ _ (In.ofR r5) (In.ofR r3)).mono ?_
  rintro e w6 ⟨rfl, hb6⟩
  rw [decide_eq_true rfl]
  have r3 := Kd.R_below r3 hb6
  have r4 := Kd.S_below r4 hb6
  have r5 := Kd.R_below r5 hb6
  have hb6' : Below w.heap.size w w6 := hb6.after hb5'
  go_wp2_with fail
  refine (toChangeS T v xs _ (hx.below bel) hl hi).mono ?_
  rintro e w7 ⟨v7, rfl, ho7, hb7⟩
  have r3 := Kd.R_below r3 hb7
  have r4 := Kd.S_below r4 hb7
  have r5 := Kd.R_below r5 hb7
  have hb7' : Below w.heap.size w w7 := hb7.after hb6'
  go_wp2_with fail
  refine (eqChangeS _ _ _ _ _ _ _ (In.ofS r4) (In.ofS ho7)).mono ?_
  rintro e w8 ⟨rfl, hb8⟩
  rw [decide_eq_true rfl]
  have r3 := Kd.R_below r3 hb8
  have r4 := Kd.S_below r4 hb8
  have r5 := Kd.R_below r5 hb8
  have hb8' : Below w.heap.size w w8 := hb8.after hb7'
  clear ho7
  go_wp2_with fail
  refine (markChangeS _ xs 1 _ _ _ r4 (by decide) (by omega)).mono ?_
  rintro e w9 ⟨rfl, r4', hk9, hb9⟩
  have r3 := R_span_kept r3 hk9 (.inl (by omega))
  have r5 := R_span_kept r5 hk9 (.inr (by omega))
  have hb9' : Below w.heap.size w w9 := hb8'.trans (hb9.mono (by omega))
  have hc0 := cntCs_0 xs
  have hm9 : (mkCs 1 xs).2 = 1 + cntCs xs := mkCs_snd 1 xs
  rw [hm9]
  have hm9' : ¬ (1 + cntCs xs < 0) := by omega
  have hm9'' : 1 + cntCs xs ≤ 9223372036854775807 := by omega
  generalize 1 + cntCs xs = k9 at *
  clear r4' r4
  go_wp2_with fail
  refine (eqStringS _ _ _ _ _ (In.ofR r5) (In.ofR r3)).mono ?_
  rintro e w10 ⟨rfl, hb10⟩
  rw [decide_eq_true rfl]
  have r3 := Kd.R_below r3 hb10
  have r5 := Kd.R_below r5 hb10
  have hb10' : Below w.heap.size w w10 := hb10.after hb9'
  go_wp2_with fail
  refine (markStringS _ (worse xs) 1 _ _ _ r5 (by decide) (by omega)).mono ?_
  rintro e w11 ⟨rfl, r5', hk11, hb11⟩
  have r3 := R_span_kept r3 hk11 (.inl (by omega))
  have hb11' : Below w.heap.size w w11 := hb10'.trans (hb11.mono (by omega))
  have hm11 : (mkSs 1 (worse xs)).2 = 1 + (worse xs).length := mkSs_snd 1 _
  go_wp2_with fail
  refine (heldStringS _ (worse xs) 1 _ (In.ofR r5') (by decide) (by omega)).mono ?_
  rintro e w12 ⟨rfl, hb12⟩
  rw [hm11]
  have hm11' : ¬ ((1 : Int) + (worse xs).length < 0) := by omega
  have hm11'' : ((1 : Int) + (worse xs).length != 1 + (worse xs).length) = false := by simp
  have r3 := Kd.R_below r3 hb12
  have r5 := Kd.R_below r5' hb12
  have hb12' : Below w.heap.size w w12 := hb12.after hb11'
  clear r5'
  go_wp2_with fail
  refine (toChangeS T v xs _ (hx.below bel) hl hi).mono ?_
  rintro e w13 ⟨v13, rfl, ho13, hb13⟩
  have r3 := Kd.R_below r3 hb13
  have r5 := Kd.R_below r5 hb13
  have hb13' : Below w.heap.size w w13 := hb13.after hb12'
  go_wp2_with fail
  refine (implWorse _ _ xs _ (In.ofS ho13) hl).mono ?_
  rintro e w14 ⟨v14, rfl, ho14, hb14⟩
  have r3 := Kd.R_below r3 hb14
  have r5 := Kd.R_below r5 hb14
  have hb14' : Below w.heap.size w w14 := hb14.after hb13'
  go_wp2_with fail
  refine (eqStringS _ _ _ _ _ (In.ofR ho14) (In.ofR r3)).mono ?_
  rintro e w15 ⟨rfl, hb15⟩
  rw [decide_eq_true rfl]
  have r5 := Kd.R_below r5 hb15
  have hb15' : Below w.heap.size w w15 := hb15.after hb14'
  go_wp2_with fail
  refine (heldStringS _ (worse xs) 1 _ (In.ofR r5) (by decide) (by omega)).mono ?_
  rintro e w16 ⟨rfl, hb16⟩
  rw [hm11]
  have hb16' : Below w.heap.size w w16 := hb16.after hb15'
  go_wp2_with fail
  go_ret
  exact ⟨rfl, bel⟩
end Go.Proofs.Ytpoflmgncnngfaa.H
