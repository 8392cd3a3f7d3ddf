/- The law FnExactChangesIn walked: it answers true and leaves what was there. -/
import Derived.Test.YtmjkjlifhlemlaaC11
import Derived.Test.YtmjkjlifhlemlaaV2
set_option linter.unusedVariables false
set_option linter.unusedSimpArgs false
set_option maxRecDepth 100000
set_option maxHeartbeats 4000000
namespace Go.Proofs.Ytmjkjlifhlemlaa.H
open Go.RowKit Go.Proofs.YtmjkjlifhlemlaaW.PrintWords Go.Proofs.YtmjkjlifhlemlaaW.PrintLast Go.Proofs.Ytmjkjlifhlemlaa.Base
theorem cntVs_le : ∀ xs, cntVs xs ≤ 3 * (xs.length : Int) + 2 * bulkVs xs
  | [] => by simp [cntVs, bulkVs]
  | x :: r => by have := cntVs_le r; have := bulkL_0 x.labels; simp only [cntVs, bulkVs, cntV, bulkV, List.length_cons]; omega
theorem vlens_le : ∀ xs : List Vd, ∀ x ∈ xs, (x.labels.length : Int) ≤ bulkVs xs
  | [], x, h => by cases h
  | y :: r, x, h => by
      have h0 := bulkVs_0 r; have h1 := bulkL_0 y.labels
      rcases List.mem_cons.1 h with rfl | h
      · simp only [bulkVs, bulkV]; omega
      · have := vlens_le r x h; have := bulkV_0 y; simp only [bulkVs]; omega
theorem cntChgs (xs ys : List Vd) (N : Nat) (hi : ∀ x ∈ xs, x.labels.length ≤ N) (hi2 : ∀ x ∈ ys, x.labels.length ≤ N) : cntCs (chgs xs ys) ≤ 60 * (3 + 4 * (N : Int)) ∧ (chgs xs ys).length ≤ 60 := by
  have key : ∀ ns : List ByteArray, cntCs (chgsOf xs ys ns) ≤ (ns.length : Int) * (3 + 4 * (N : Int)) ∧ (chgsOf xs ys ns).length ≤ ns.length := by
    intro ns
    induction ns with
    | nil => simp [chgsOf, cntCs]
    | cons n r ih =>
      have e : (((n :: r).length : Nat) : Int) * (3 + 4 * (N : Int)) = (r.length : Int) * (3 + 4 * (N : Int)) + (3 + 4 * (N : Int)) := by
        rw [List.length_cons, Int.natCast_add, Int.add_mul]; simp
      rw [e]
      unfold chgsOf at ih ⊢
      rw [List.filter_cons]
      split
      · rw [List.map_cons]
        simp only [cntCs, cntC, List.length_cons]
        have h1 : (chgOf xs ys n).more.length ≤ N := Nat.le_trans (lack_len _ _) (labs_le hi2)
        have h2 : (chgOf xs ys n).less.length ≤ N := Nat.le_trans (lack_len _ _) (labs_le hi)
        refine ⟨?_, by omega⟩
        have := ih.1
        omega
      · simp only [List.length_cons]
        refine ⟨?_, by omega⟩
        have := ih.1
        omega
  unfold chgs
  split
  · simp [cntCs]; omega
  · next h =>
    have h1 := key (namesV xs ys)
    have h2 := namesV_len xs ys
    have h3 : (namesV xs ys).length ≤ 60 := by omega
    refine ⟨Int.le_trans h1.1 (Int.mul_le_mul_of_nonneg_right (by omega) (by omega)), by omega⟩
theorem lawCh (T : Nat) (u v : Value) (xs ys : List Vd) (w : World) (hx : In (kVd T) w u xs) (hy : In (kVd T) w v ys) (hsx : ∀ x ∈ xs, Vd.wf x) (hsy : ∀ x ∈ ys, Vd.wf x) :
    Calls Try.prog 3 #[u, v] w fun e w' => e = .returned (.bool true) ∧ Below w.heap.size w w' := by
  go_enter Try.func3, Try.ntmps3
  go_wp2_with fail
  refine (szVerdictS T u xs 1048576 _ (by decide) (by decide) (hx.below bel) hsx).mono ?_
  rintro e w1 ⟨rfl, hb1⟩
  have hb1' : Below w.heap.size w w1 := hb1.after bel
  clear hb1
  have hB0 := bulkVs_0 xs
  by_cases hbig : (1048576 : Int) - (xs.length + bulkVs xs) < 0
  · rw [szl_lt hbig]
    go_wp2_with fail
    go_ret
    exact ⟨rfl, bel⟩
  rw [szl_ge hbig]
  have hl : xs.length ≤ 1048576 := by omega
  have hi : ∀ x ∈ xs, x.labels.length ≤ 1048576 := fun x h => by have := vlens_le xs x h; omega
  have hcx := cntVs_le xs
  have hcx0 := cntVs_0 xs
  have hcx1 : cntVs xs ≤ 8388608 := by omega
  have hq0 : ¬ ((1048576 : Int) - (xs.length + bulkVs xs)) < 0 := hbig
  have hq1 : (0 : Int) ≤ (1048576 : Int) - (xs.length + bulkVs xs) := by omega
  have hq2 : (1048576 : Int) - (xs.length + bulkVs xs) ≤ 1048576 := by omega
  clear hbig hcx hB0
  generalize (1048576 : Int) - (xs.length + bulkVs xs) = q at *
  go_wp2_with fail
  refine (szVerdictS T v ys q _ hq1 hq2 (hy.below bel) hsy).mono ?_
  rintro e w2 ⟨rfl, hb2⟩
  have hb2' : Below w.heap.size w w2 := hb2.after bel
  clear hb2
  have hB0 := bulkVs_0 ys
  by_cases hbig : q - (ys.length + bulkVs ys) < 0
  · rw [szl_lt hbig]
    go_wp2_with fail
    go_ret
    exact ⟨rfl, bel⟩
  rw [szl_ge hbig]
  have hl2 : ys.length ≤ 1048576 := by omega
  have hi2 : ∀ x ∈ ys, x.labels.length ≤ 1048576 := fun x h => by have := vlens_le ys x h; omega
  have hcy := cntVs_le ys
  have hcy0 := cntVs_0 ys
  have hcy1 : cntVs ys ≤ 8388608 := by omega
  have hq3 : ¬ (q - (ys.length + bulkVs ys)) < 0 := hbig
  clear hbig hcy hB0 hq0 hq1 hq2
  generalize q - (ys.length + bulkVs ys) = q2 at *
  obtain ⟨hcc, hcl⟩ := cntChgs xs ys 1048576 hi hi2
  have hSpec := fun (a b : Value) (W : World) (ha : In (kVd 62) W a xs) (hb : In (kVd 62) W b ys) => specChanges _ a b xs ys W ha hb hl hl2 hi hi2
  have hImpl := fun (a b : Value) (W : World) (ha : In (kVd 62) W a xs) (hb : In (kVd 62) W b ys) => implChanges _ a b xs ys W ha hb hl hl2 hi hi2
  have hcc0 := cntCs_0 (chgs xs ys)
  clear hb1'
  go_wp2_with fail
  -- the reference's answer
  refine (toVerdictS T u xs _ (hx.below bel) hl hi).mono ?_
  rintro e w3 ⟨v3, rfl, ho3, hb3⟩
  have hb3' := hb3.after hb2'
  go_wp2_with fail
  refine (toVerdictS T v ys _ (hy.below bel) hl2 hi2).mono ?_
  rintro e w4 ⟨v4, rfl, ho4, hb4⟩
  have hb4' := hb4.after hb3'
  go_wp2_with fail
  refine (hSpec _ _ _ ((In.ofS ho3).below hb4) (In.ofS ho4)).mono ?_
  rintro e w5 ⟨v5, rfl, ho5, hb5⟩
  have hb5' := hb5.after hb4'
  have s3 := hb2'.size; have s4 := hb3.size; have s5 := hb4.size; have s6 := hb5.size
  generalize chgs xs ys = cs at *
  go_wp2_with fail
  refine (toVerdictS T u xs _ (hx.below bel) hl hi).mono ?_
  rintro e w6 ⟨v6, rfl, ho6, hb6⟩
  have hb6' := hb6.after hb5'
  go_wp2_with fail
  refine (toVerdictS T v ys _ (hy.below bel) hl2 hi2).mono ?_
  rintro e w7 ⟨v7, rfl, ho7, hb7⟩
  have hb7' := hb7.after hb6'
  go_wp2_with fail
  refine (hImpl _ _ _ ((In.ofS ho6).below hb7) (In.ofS ho7)).mono ?_
  rintro e w8 ⟨v8, rfl, ho8, hb8⟩
  have hb8' := hb8.after hb7'
  have s7 := hb6.size; have s8 := hb7.size; have s9 := hb8.size
  have r5 := S_span ho5 (Nat.le_refl _)
  have r6 := S_span ho6 (Nat.le_refl _)
  have r7 := S_span ho7 (Nat.le_refl _)
  have r8 := S_span ho8 (Nat.le_refl _)
  have r5 := Kd.S_below (Kd.S_below (Kd.S_below r5 hb6) hb7) hb8
  have r6 := Kd.S_below (Kd.S_below r6 hb7) hb8
  have r7 := Kd.S_below r7 hb8
  clear ho3 ho4 ho5 ho6 ho7 ho8
  go_wp2_with fail
  refine (eqChangeS _ _ _ _ _ _ _ (In.ofS r8) (In.ofS r5)).mono ?_
  rintro e w9 ⟨rfl, hb9⟩
  rw [decide_eq_true rfl]
  have r5 := Kd.S_below r5 hb9
  have r6 := Kd.S_below r6 hb9
  have r7 := Kd.S_below r7 hb9
  have r8 := Kd.S_below r8 hb9
  have hb9' := hb9.after hb8'
  go_wp2_with fail
  refine (toVerdictS T u xs _ (hx.below bel) hl hi).mono ?_
  rintro e w10 ⟨v10, rfl, ho10, hb10⟩
  have r5 := Kd.S_below r5 hb10
  have r6 := Kd.S_below r6 hb10
  have r7 := Kd.S_below r7 hb10
  have r8 := Kd.S_below r8 hb10
  have hb10' := hb10.after hb9'
  go_wp2_with fail
  refine (eqVerdictS _ _ _ _ _ _ _ (In.ofS r6) (In.ofS ho10)).mono ?_
  rintro e w11 ⟨rfl, hb11⟩
  rw [decide_eq_true rfl]
  have r5 := Kd.S_below r5 hb11
  have r6 := Kd.S_below r6 hb11
  have r7 := Kd.S_below r7 hb11
  have r8 := Kd.S_below r8 hb11
  have hb11' := hb11.after hb10'
  clear ho10
  go_wp2_with fail
  refine (toVerdictS T v ys _ (hy.below bel) hl2 hi2).mono ?_
  rintro e w12 ⟨v12, rfl, ho12, hb12⟩
  have r5 := Kd.S_below r5 hb12
  have r6 := Kd.S_below r6 hb12
  have r7 := Kd.S_below r7 hb12
  have r8 := Kd.S_below r8 hb12
  have hb12' := hb12.after hb11'
  go_wp2_with fail
  refine (eqVerdictS _ _ _ _ _ _ _ (In.ofS r7) (In.ofS ho12)).mono ?_
  rintro e w13 ⟨rfl, hb13⟩
  rw [decide_eq_true rfl]
  have r5 := Kd.S_below r5 hb13
  have r6 := Kd.S_below r6 hb13
  have r7 := Kd.S_below r7 hb13
  have r8 := Kd.S_below r8 hb13
  have hb13' := hb13.after hb12'
  clear ho12
  go_wp2_with fail
  refine (markVerdictS _ xs 1 _ _ _ r6 (by decide) (by omega)).mono ?_
  rintro e w14 ⟨rfl, r6', hk14, hb14⟩
  have r5 := S_span_kept r5 hk14 (.inl (by omega))
  have r7 := S_span_kept r7 hk14 (.inr (by omega))
  have r8 := S_span_kept r8 hk14 (.inr (by omega))
  have hb14' : Below w.heap.size w w14 := hb13'.trans (hb14.mono (by omega))
  rw [mkVs_snd]
  have hk1 : (0 : Int) ≤ 1 + cntVs xs := by omega
  have hk2 : 1 + cntVs xs ≤ 16777216 := by omega
  generalize 1 + cntVs xs = k14 at *
  clear r6 r6'
  go_wp2_with fail
  refine (markVerdictS _ ys k14 _ _ _ r7 hk1 (by omega)).mono ?_
  rintro e w15 ⟨rfl, r7', hk15, hb15⟩
  have r5 := S_span_kept r5 hk15 (.inl (by omega))
  have r8 := S_span_kept r8 hk15 (.inr (by omega))
  have hb15' : Below w.heap.size w w15 := hb14'.trans (hb15.mono (by omega))
  rw [mkVs_snd]
  have hk3 : ¬ (k14 + cntVs ys < 0) := by omega
  have hk4 : k14 + cntVs ys ≤ 9223372036854775807 := by omega
  generalize k14 + cntVs ys = k15 at *
  clear r7 r7'
  go_wp2_with fail
  refine (eqChangeS _ _ _ _ _ _ _ (In.ofS r8) (In.ofS r5)).mono ?_
  rintro e w16 ⟨rfl, hb16⟩
  rw [decide_eq_true rfl]
  have r5 := Kd.S_below r5 hb16
  have r8 := Kd.S_below r8 hb16
  have hb16' := hb16.after hb15'
  go_wp2_with fail
  refine (markChangeS _ cs 1 _ _ _ r8 (by decide) (by omega)).mono ?_
  rintro e w17 ⟨rfl, r8', hk17, hb17⟩
  have r5 := S_span_kept r5 hk17 (.inl (by omega))
  have hb17' : Below w.heap.size w w17 := hb16'.trans (hb17.mono (by omega))
  have hm17 : (mkCs 1 cs).2 = 1 + cntCs cs := mkCs_snd 1 _
  go_wp2_with fail
  refine (heldChangeS _ _ cs 1 _ (In.ofS r8') (by decide) (by omega)).mono ?_
  rintro e w18 ⟨rfl, hb18⟩
  rw [hm17]
  have hm18 : ¬ ((1 : Int) + cntCs cs < 0) := by omega
  have hm19 : ((1 : Int) + cntCs cs != 1 + cntCs cs) = false := by simp
  have r5 := Kd.S_below r5 hb18
  have r8 := Kd.S_below r8' hb18
  have hb18' := hb18.after hb17'
  clear r8'
  go_wp2_with fail
  refine (toVerdictS T u xs _ (hx.below bel) hl hi).mono ?_
  rintro e w19 ⟨v19, rfl, ho19, hb19⟩
  have r5 := Kd.S_below r5 hb19
  have r8 := Kd.S_below r8 hb19
  have hb19' := hb19.after hb18'
  go_wp2_with fail
  refine (toVerdictS T v ys _ (hy.below bel) hl2 hi2).mono ?_
  rintro e w20 ⟨v20, rfl, ho20, hb20⟩
  have r5 := Kd.S_below r5 hb20
  have r8 := Kd.S_below r8 hb20
  have hb20' := hb20.after hb19'
  go_wp2_with fail
  refine (hImpl _ _ _ ((In.ofS ho19).below hb20) (In.ofS ho20)).mono ?_
  rintro e w21 ⟨v21, rfl, ho21, hb21⟩
  have r5 := Kd.S_below r5 hb21
  have r8 := Kd.S_below r8 hb21
  have hb21' := hb21.after hb20'
  go_wp2_with fail
  refine (eqChangeS _ _ _ _ _ _ _ (In.ofS ho21) (In.ofS r5)).mono ?_
  rintro e w22 ⟨rfl, hb22⟩
  rw [decide_eq_true rfl]
  have r8 := Kd.S_below r8 hb22
  have hb22' := hb22.after hb21'
  clear ho19 ho20 ho21
  go_wp2_with fail
  refine (heldChangeS _ _ cs 1 _ (In.ofS r8) (by decide) (by omega)).mono ?_
  rintro e w23 ⟨rfl, hb23⟩
  rw [hm17]
  have hb23' := hb23.after hb22'
  go_wp2_with fail
  go_ret
  exact ⟨rfl, hb23'⟩
end Go.Proofs.Ytmjkjlifhlemlaa.H
