/- The laws' marks at changes and at names. -/
import Derived.Test.YtmjkjlifhlemlaaH5
set_option linter.unusedVariables false
set_option linter.unusedSimpArgs false
set_option maxRecDepth 100000
set_option maxHeartbeats 400000
namespace Go.Proofs.Ytmjkjlifhlemlaa.H
open Go.RowKit Go.Proofs.YtmjkjlifhlemlaaW.PrintWords Go.Proofs.YtmjkjlifhlemlaaW.PrintLast Go.Proofs.Ytmjkjlifhlemlaa.Base
def mkC (k : Int) (x : Chg) : Chg × Int := (⟨mt k, k + 1, k + 2, (mkLs (k + 3) x.more).1, (mkLs (mkLs (k + 3) x.more).2 x.less).1⟩, (mkLs (mkLs (k + 3) x.more).2 x.less).2)
def mkCs : Int → List Chg → List Chg × Int
  | k, [] => ([], k)
  | k, x :: r => ((mkC k x).1 :: (mkCs (mkC k x).2 r).1, (mkCs (mkC k x).2 r).2)
def cntC (x : Chg) : Int := 3 + 2 * (x.more.length : Int) + 2 * (x.less.length : Int)
def cntCs : List Chg → Int
  | [] => 0
  | x :: r => cntC x + cntCs r
theorem mkC_snd (k : Int) (x : Chg) : (mkC k x).2 = k + cntC x := by simp [mkC, mkLs_snd, cntC]; omega
theorem cntC_0 (x : Chg) : 0 ≤ cntC x := by unfold cntC; omega
theorem cntCs_0 : ∀ xs, 0 ≤ cntCs xs
  | [] => by simp [cntCs]
  | x :: r => by have := cntCs_0 r; have := cntC_0 x; simp [cntCs]; omega
theorem mkCs_snd : ∀ k xs, (mkCs k xs).2 = k + cntCs xs
  | k, [] => by simp [mkCs, cntCs]
  | k, x :: r => by simp only [mkCs, cntCs]; rw [mkCs_snd, mkC_snd]; omega
theorem markChangeS (v : Value) (xs : List Chg) (k : Int) (B : Nat) (ok : Nat → Prop) (w : World) (hx : (kChg 62).S 46 w B ok v xs) (h0 : 0 ≤ k) (hk : k + cntCs xs ≤ 4611686018427387904) :
    Calls Try.prog 11 #[v, .int .i64 k] w fun e w' => e = .returned (.int .i64 (mkCs k xs).2) ∧ (kChg 62).S 46 w' B ok v (mkCs k xs).1 ∧ Kept w w' ok ∧ Below B w w' := by
  have hok := (Kd.S_R hx).1
  obtain ⟨A, c, rfl⟩ := Kd.S_slice hx
  have hm : xs.length ≤ 9223372036854775807 := (Kd.S_reads' hx).2.2.2.1
  go_enter Try.func11, Try.ntmps11
  go_wp2
  go_loopw [1, 5] (fun vk vi wr => ∃ (done rest : List Chg) (m : Int), Hid (xs.length = done.length + rest.length) ∧ vk = .int .i64 m ∧ vi = .int .i64 done.length ∧ 0 ≤ m ∧ m + cntCs rest ≤ 4611686018427387904 ∧ Hid (mkCs k xs = (done ++ (mkCs m rest).1, (mkCs m rest).2)) ∧ Hid ((kChg 62).S 46 wr B ok (.slice A xs.length c) (done ++ rest)) ∧ Hid (Kept w wr ok) ∧ Below B w wr) (fun _ vi _ => xs.length - (intOf vi).toNat)
  case atStart => exact ⟨[], xs, k, by simp [Hid], rfl, rfl, h0, hk, rfl, hx, Kept.refl _ _, Below.refl _ _⟩
  case round =>
    obtain ⟨done, rest, m, hl, rfl, rfl, hm0, hm1, HH, hR, hKe, hb⟩ := hrel
    cases rest with
    | nil =>
      have hlt : ¬ done.length < xs.length := by rw [hl.out]; simp
      go_wp2
      go_ret
      rw [HH.out]
      exact ⟨rfl, by simpa [mkCs] using hR.out, hKe.out, hb⟩
    | cons x rest =>
      have hlt : done.length < xs.length := by rw [hl.out]; simp
      have hq := cntCs_0 rest
      have hm2 : m + 3 + 2 * (x.more.length : Int) + 2 * (x.less.length : Int) + cntCs rest ≤ 4611686018427387904 := by simp only [cntCs, cntC] at hm1; omega
      obtain ⟨g, rfl, hg0, hg1⟩ := S_some hR.out
      have hgB : ok g := hok _ (by simp [Value.ownBlock])
      go_wp2_with fail
      refine (markText _ _ (by omega)).mono ?_
      rintro e w1 ⟨rfl, hb1⟩
      have hR1 := hid (Kd.S_below hR.out hb1)
      have hK1 := hid (hKe.out.below hb1)
      have hz1 : g < w1.heap.size := Nat.lt_of_lt_of_le hg1 hb1.size
      have hb1 := hb.trans (hb1.mono (by omega))
      have hR1' := hid hR1
      go_wp2_with (first | (refine S_field (kChg 62) 46 9 rfl rfl rfl 0 _ rfl rfl rfl rfl (by kernel_rfl) rfl (by show _ ≤ 5; omega) hR1.out (kChg_f0 (mt m)) hb1 ?_; intro w2 hR2 hb2 hg2; have hR2 := hid hR2) | (refine S_field (kChg 62) 46 3 rfl rfl rfl 1 _ rfl rfl rfl rfl (by kernel_rfl) rfl (by show _ ≤ 5; omega) hR2.out (kChg_f1 (m + 1)) hb2 ?_; intro w3 hR3 hb3 hg3; have hR3 := hid hR3) | (refine S_field (kChg 62) 46 3 rfl rfl rfl 2 _ rfl rfl rfl rfl (by kernel_rfl) rfl (by show _ ≤ 5; omega) hR3.out (kChg_f2 (m + 1 + 1)) hb3 ?_; intro w4 hR4 hb4 hg4; obtain ⟨oki, cc, hcl, hM, hcc, hoki, hback⟩ := S_lendAt hR4; obtain ⟨v3, v4, f, rfl, h3, h4⟩ := kChg_open hM; obtain ⟨A3, c3, rfl⟩ := Kd.R_slice h3; obtain ⟨A4, c4, rfl⟩ := Kd.R_slice h4; have d3 : w4.cell? ⟨g, done.length * 5 + 3, none⟩ = _ := hcc 3 _ rfl; have d4 : w4.cell? ⟨g, done.length * 5 + 4, none⟩ = _ := hcc 4 _ rfl; clear hcc hR4 hcl hM))
      have hK4 := hid (Kept.of_grown hg4 (Kept.of_grown hg3 (Kept.of_grown hg2 hK1.out (fun k hk => by injection hk with hk; subst hk; exact .inl hgB)) (fun k hk => by injection hk with hk; subst hk; exact .inl hgB)) (fun k hk => by injection hk with hk; subst hk; exact .inl hgB))
      have hz4 : g < w4.heap.size := Nat.lt_of_lt_of_le hz1 (Nat.le_trans hg2.size (Nat.le_trans hg3.size hg4.size))
      clear hg2 hg3 hg4 hb1 hb2 hb3 hR2 hR3 hR1 hR1'
      refine (markLabelS _ _ _ _ _ _ h3 (by omega) (by omega)).mono ?_
      rintro e w5 ⟨rfl, h5, hK5, hb5⟩
      have e5 := mkLs_snd (m + 1 + 1 + 1) x.more
      obtain ⟨m5, hm5⟩ : ∃ q, q = (mkLs (m + 1 + 1 + 1) x.more).2 := ⟨_, rfl⟩
      rw [← hm5] at e5 ⊢
      have q5 : m + 1 + 1 + 1 + 2 * (x.more.length : Int) ≤ m5 := by omega
      have r5 : m5 ≤ m + 1 + 1 + 1 + 2 * (x.more.length : Int) := by omega
      have HM5 := hid hm5
      clear e5 hm5
      have hne : ∀ k, oki k → k ≠ g := fun k h => (hoki k h).2
      have d4 := cell_kept d4 hK5 (fun h => hne _ h.1 rfl)
      have h4 := Kd.R_kept h4 hK5 (fun k h h2 => by have := h.2; rw [h2.2] at this; cases this)
      have hz5 : g < w5.heap.size := Nat.lt_of_lt_of_le hz4 hb5.size
      clear d3
      go_wp2_with fail
      refine (markLabelS _ _ _ _ _ _ h4 (by omega) (by omega)).mono ?_
      rintro e w6 ⟨rfl, h6, hK6, hb6⟩
      have hS := hback w6 (mkC m x).1 ((hK5.mono (fun _ h => h.1)).then_ (hK6.mono (fun _ h => h.1)) (fun _ h => .inl h)) (by
        have h5' := Kd.R_kept h5 hK6 (fun k h h2 => by have := h.2; rw [h2.2] at this; cases this)
        have := kChg_shut (x := (mkC m x).1) (f := f) (by simpa [mkC, Int.add_assoc] using h5') (by have := HM5.out; simp only [mkC, Int.add_assoc] at *; rw [this] at h6; exact h6)
        simpa [mkC, Int.add_assoc] using this)
      have hK7 := hid ((hK4.out.then_ (hK5.mono (fun _ h => h.1)) (fun k h => .inl (hoki k h).1)).then_ (hK6.mono (fun _ h => h.1)) (fun k h => .inl (hoki k h).1))
      have hb7 := hb4.trans (hb5.trans hb6)
      have e6 := mkLs_snd m5 x.less
      obtain ⟨m6, hm6⟩ : ∃ q, q = (mkLs m5 x.less).2 := ⟨_, rfl⟩
      rw [← hm6] at e6 ⊢
      have q6 : 0 ≤ m6 := by omega
      have r6 : m6 + cntCs rest ≤ 4611686018427387904 := by omega
      have hS := hid hS
      have H3 : Hid (mkCs k xs = (done ++ [(mkC m x).1] ++ (mkCs m6 rest).1, (mkCs m6 rest).2)) := by
        show mkCs k xs = _
        have e7 : (mkC m x).2 = m6 := by rw [hm6, HM5.out]; simp [mkC, Int.add_assoc]
        rw [HH.out]; simp only [mkCs]; rw [e7]; simp
      clear hm6 e6 hK5 hK6 hb5 hb6 hb4 h5 h6 hback hoki
      go_wp2
      go_roundw
      case rel => exact ⟨done ++ [(mkC m x).1], rest, m6, by have := hl.out; simp [Hid] at *; omega, rfl, by simp, q6, r6, H3, by have := hS.out; simpa [Hid] using this, hK7, hb7⟩
      case measure => simp [intOf]; omega
end Go.Proofs.Ytmjkjlifhlemlaa.H
