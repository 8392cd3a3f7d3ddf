/- The laws' marks at verdicts; what is held of labels and of changes. -/
import Derived.Test.YtmjkjlifhlemlaaV1
import Derived.Test.YtmjkjlifhlemlaaH6
set_option linter.unusedVariables false
set_option linter.unusedSimpArgs false
set_option maxRecDepth 100000
set_option maxHeartbeats 1000000
namespace Go.Proofs.Ytmjkjlifhlemlaa.H
open Go.RowKit Go.Proofs.YtmjkjlifhlemlaaW.PrintWords Go.Proofs.YtmjkjlifhlemlaaW.PrintLast Go.Proofs.Ytmjkjlifhlemlaa.Base
theorem heldLabelS (v : Value) (xs : List Lbl) (k : Int) (w : World) (hx : In kLbl w v (mkLs k xs).1) (h0 : 0 ≤ k) (hk : k + 2 * (xs.length : Int) ≤ 4611686018427387904) :
    Calls Try.prog 28 #[v, .int .i64 k] w fun e w' => e = .returned (.int .i64 (mkLs k xs).2) ∧ Below w.heap.size w w' := by
  obtain ⟨A, c, rfl, hc, hC⟩ := hx
  rw [mkLs_len] at hC ⊢
  go_enter Try.func28, Try.ntmps28
  go_wp2
  go_loopw [1, 5] (fun vk vi wr => ∃ (done : List Lbl) (rest : List Lbl) (m : Int), Hid (xs.length = done.length + rest.length) ∧ vk = .int .i64 m ∧ vi = .int .i64 done.length ∧ 0 ≤ m ∧ m + 2 * (rest.length : Int) ≤ 4611686018427387904 ∧ Hid (mkLs k xs = (done ++ (mkLs m rest).1, (mkLs m rest).2)) ∧ Below w.heap.size w wr) (fun _ vi _ => xs.length - (intOf vi).toNat)
  case atStart => exact ⟨[], xs, k, by simp [Hid], rfl, rfl, h0, hk, rfl, Below.refl _ _⟩
  case round =>
    obtain ⟨done, rest, m, hl, rfl, rfl, hm0, hm1, HH, hb⟩ := hrel
    cases rest with
    | nil =>
      have hlt : ¬ done.length < xs.length := by rw [hl.out]; simp
      go_wp2
      go_ret
      rw [HH.out]
      exact ⟨rfl, hb⟩
    | cons x rest =>
      have hlt : done.length < xs.length := by rw [hl.out]; simp
      simp only [List.length_cons] at hm1
      have hxx : (mkLs k xs).1 = done ++ ⟨m, mt (m + 1)⟩ :: (mkLs (m + 2) rest).1 := by rw [HH.out]; rfl
      obtain ⟨ad, rfl, c0, c1⟩ := lbl_at (Kd.C_below hC hb) hxx
      clear hxx
      have p0 : (0 : Int) ≤ done.length := by omega
      have p1 : (done.length : Int) < xs.length := by omega
      have p2 : (m != m) = false := by simp
      go_wp2_with fail
      go_region_held3 (fun w' => Below w.heap.size w w' ∧ w'.cell? ⟨(ad.add (done.length * 2)).block, (ad.add (done.length * 2)).off + 1, none⟩ = some (.string (mt (m + 1)))) (first | exact ⟨bel, by assumption⟩ | (refine ⟨bel, ?_⟩; go_keep) | go_keep)
        (first | (go_at_call 26; refine (markText _ _ (by omega)).mono ?_; rintro e w1 ⟨rfl, hb1⟩; have hb9 : Below w.heap.size w w1 := hb1.after bel; have hc9 := pw_cell_below hb1 (by assumption : _ = some (Value.string (mt (m + 1))))))
      have hb8 : Below w.heap.size w _ := And.left (by assumption)
      have H3 : Hid (mkLs k xs = (done ++ [⟨m, mt (m + 1)⟩] ++ (mkLs (m + 1 + 1) rest).1, (mkLs (m + 1 + 1) rest).2)) := by show mkLs k xs = _; rw [HH.out, show m + 1 + 1 = m + 2 by omega]; simp [mkLs]
      go_wp2
      go_roundw
      case rel => exact ⟨done ++ [⟨m, mt (m + 1)⟩], rest, m + 1 + 1, by have := hl.out; simp [Hid] at *; omega, rfl, by simp, by omega, by omega, H3, hb8⟩
      case measure => simp [intOf]; omega
theorem mkC_len (k : Int) (x : Chg) : (mkC k x).1.more.length = x.more.length ∧ (mkC k x).1.less.length = x.less.length := by simp [mkC, mkLs_len]
theorem mkCs_len : ∀ k xs, (mkCs k xs).1.length = xs.length
  | k, [] => rfl
  | k, x :: r => by simp [mkCs, mkCs_len]
theorem heldChangeS (T : Nat) (v : Value) (xs : List Chg) (k : Int) (w : World) (hx : In (kChg T) w v (mkCs k xs).1) (h0 : 0 ≤ k) (hk : k + cntCs xs ≤ 4611686018427387904) :
    Calls Try.prog 12 #[v, .int .i64 k] w fun e w' => e = .returned (.int .i64 (mkCs k xs).2) ∧ Below w.heap.size w w' := by
  obtain ⟨A, c, rfl, hc, hC⟩ := hx
  rw [mkCs_len] at hC ⊢
  have hm : xs.length ≤ 9223372036854775807 := hC.2.1
  go_enter Try.func12, Try.ntmps12
  go_wp2
  go_loopw [1, 5] (fun vk vi wr => ∃ (done : List Chg) (rest : List Chg) (m : Int), Hid (xs.length = done.length + rest.length) ∧ vk = .int .i64 m ∧ vi = .int .i64 done.length ∧ 0 ≤ m ∧ m + cntCs rest ≤ 4611686018427387904 ∧ Hid (mkCs k xs = (done ++ (mkCs m rest).1, (mkCs m rest).2)) ∧ Below w.heap.size w wr) (fun _ vi _ => xs.length - (intOf vi).toNat)
  case atStart => exact ⟨[], xs, k, by simp [Hid], rfl, rfl, h0, hk, rfl, Below.refl _ _⟩
  case round =>
    obtain ⟨done, rest, m, hl, rfl, rfl, hm0, hm1, HH, hb⟩ := hrel
    cases rest with
    | nil =>
      have hlt : ¬ done.length < xs.length := by rw [hl.out]; simp
      go_wp2
      go_ret
      rw [HH.out]
      exact ⟨rfl, hb⟩
    | cons x rest =>
      have hlt : done.length < xs.length := by rw [hl.out]; simp
      have hq := cntCs_0 rest
      have hm2 : m + 3 + 2 * (x.more.length : Int) + 2 * (x.less.length : Int) + cntCs rest ≤ 4611686018427387904 := by simp only [cntCs, cntC] at hm1; omega
      have hxx := hid (show (mkCs k xs).1 = done ++ (mkC m x).1 :: (mkCs (mkC m x).2 rest).1 by rw [HH.out]; rfl)
      obtain ⟨ad, v3, v4, rfl, d0, d1, d2, d3, d4, k3, k4⟩ := chg_at (Kd.C_below hC hb) hxx.out
      replace d0 : wr.cell? (ad.add (done.length * 5)) = some (.string (mt m)) := d0
      have p0 : (0 : Int) ≤ done.length := by omega
      have p1 : (done.length : Int) < xs.length := by omega
      clear d1 d2 d3 d4 k3 k4 hm1
      go_wp2_with fail
      go_region_held3 (fun w' => Below w.heap.size w w' ∧ w'.cell? (ad.add (done.length * 5)) = some (.string (mt m))) (first | exact ⟨bel, by assumption⟩ | (refine ⟨bel, ?_⟩; go_keep) | go_keep)
        (first | (go_at_call 26; refine (markText _ _ (by omega)).mono ?_; rintro e w1 ⟨rfl, hb1⟩; have hb9 : Below w.heap.size w w1 := hb1.after bel; have hc9 := pw_cell_below hb1 (by assumption : _ = some (Value.string (mt m)))))
      have hb8 : Below w.heap.size w _ := And.left (by assumption)
      obtain ⟨ad2, v3, v4, hae, d0, d1, d2, d3, d4, k3, k4⟩ := chg_at (Kd.C_below hC hb8) hxx.out
      obtain rfl : ad = ad2 := by injection hae
      replace d1 : _ = some (Value.int .i64 (m + 1)) := d1
      replace d2 : _ = some (Value.int .i64 (m + 2)) := d2
      rw [show m + 2 = m + 1 + 1 by omega] at d2
      rw [show (mkC m x).1.more = (mkLs (m + 1 + 1 + 1) x.more).1 by rw [show m + 1 + 1 + 1 = m + 3 by omega]; rfl] at k3
      obtain ⟨m5, hm5⟩ : ∃ q, q = (mkLs (m + 1 + 1 + 1) x.more).2 := ⟨_, rfl⟩
      rw [show (mkC m x).1.less = (mkLs m5 x.less).1 by rw [hm5, show m + 1 + 1 + 1 = m + 3 by omega]; rfl] at k4
      have e5 := mkLs_snd (m + 1 + 1 + 1) x.more
      rw [← hm5] at e5
      have q5 : m + 1 + 1 + 1 + 2 * (x.more.length : Int) ≤ m5 := by omega
      have r5 : m5 ≤ m + 1 + 1 + 1 + 2 * (x.more.length : Int) := by omega
      have HM5 := hid hm5
      clear d0 e5 hm5
      have n1 : (m + 1 != m + 1) = false := by simp
      have n2 : (m + 1 + 1 != m + 1 + 1) = false := by simp
      have kk3 := k3
      obtain ⟨A3, c3, rfl, -, -⟩ := kk3
      go_wp2_with fail
      refine (heldLabelS _ x.more _ _ k3 (by omega) (by omega)).mono ?_
      rintro e w2 ⟨rfl, hb2⟩
      rw [← HM5.out]
      replace d4 := pw_cell_below hb2 d4
      replace k4 := k4.below hb2
      have hb2' := hb2.after hb8
      have n3 : ¬ m5 < 0 := by omega
      have kk4 := k4
      obtain ⟨A4, c4, rfl, -, -⟩ := kk4
      have hCc := Kd.C_below hC hb2'
      clear hb8 hb9 hc9 hb1 d1 d2 d3 k3 hb2
      go_wp2_with fail
      refine (heldLabelS _ x.less _ _ k4 (by omega) (by omega)).mono ?_
      rintro e w3 ⟨rfl, hb3⟩
      have e6 := mkLs_snd m5 x.less
      obtain ⟨m6, hm6⟩ : ∃ q, q = (mkLs m5 x.less).2 := ⟨_, rfl⟩
      rw [← hm6] at e6 ⊢
      have q6 : 0 ≤ m6 := by omega
      have n6 : ¬ m6 < 0 := by omega
      have r6 : m6 + cntCs rest ≤ 4611686018427387904 := by omega
      have hb3' := hb3.after hb2'
      have H3 : Hid (mkCs k xs = (done ++ [(mkC m x).1] ++ (mkCs m6 rest).1, (mkCs m6 rest).2)) := by
        show mkCs k xs = _
        have e7 : (mkC m x).2 = m6 := by rw [hm6, HM5.out]; simp [mkC, Int.add_assoc]
        rw [HH.out]; simp only [mkCs]; rw [e7]; simp
      clear hm6 e6 hb3 hb2' d4 k4
      go_wp2_with fail
      go_roundw
      case rel => exact ⟨done ++ [(mkC m x).1], rest, m6, by have := hl.out; simp [Hid] at *; omega, rfl, by simp, q6, r6, H3, hb3'⟩
      case measure => simp [intOf]; omega
def mkV (k : Int) (x : Vd) : Vd × Int := (⟨mt k, k + 1, (mkLs (k + 2) x.labels).1, (mkLs (k + 2) x.labels).2⟩, (mkLs (k + 2) x.labels).2 + 1)
def mkVs : Int → List Vd → List Vd × Int
  | k, [] => ([], k)
  | k, x :: r => ((mkV k x).1 :: (mkVs (mkV k x).2 r).1, (mkVs (mkV k x).2 r).2)
def cntV (x : Vd) : Int := 3 + 2 * (x.labels.length : Int)
def cntVs : List Vd → Int
  | [] => 0
  | x :: r => cntV x + cntVs r
theorem mkV_snd (k : Int) (x : Vd) : (mkV k x).2 = k + cntV x := by simp [mkV, mkLs_snd, cntV]; omega
theorem cntV_0 (x : Vd) : 0 ≤ cntV x := by unfold cntV; omega
theorem cntVs_0 : ∀ xs, 0 ≤ cntVs xs
  | [] => by simp [cntVs]
  | x :: r => by have := cntVs_0 r; have := cntV_0 x; simp [cntVs]; omega
theorem mkVs_snd : ∀ k xs, (mkVs k xs).2 = k + cntVs xs
  | k, [] => by simp [mkVs, cntVs]
  | k, x :: r => by simp only [mkVs, cntVs]; rw [mkVs_snd, mkV_snd]; omega
theorem markVerdictS (v : Value) (xs : List Vd) (k : Int) (B : Nat) (ok : Nat → Prop) (w : World) (hx : (kVd 62).S 40 w B ok v xs) (h0 : 0 ≤ k) (hk : k + cntVs xs ≤ 4611686018427387904) :
    Calls Try.prog 10 #[v, .int .i64 k] w fun e w' => e = .returned (.int .i64 (mkVs k xs).2) ∧ (kVd 62).S 40 w' B ok v (mkVs k xs).1 ∧ Kept w w' ok ∧ Below B w w' := by
  have hok := (Kd.S_R hx).1
  obtain ⟨A, c, rfl⟩ := Kd.S_slice hx
  have hm : xs.length ≤ 9223372036854775807 := (Kd.S_reads' hx).2.2.2.1
  go_enter Try.func10, Try.ntmps10
  go_wp2
  go_loopw [1, 5] (fun vk vi wr => ∃ (done rest : List Vd) (m : Int), Hid (xs.length = done.length + rest.length) ∧ vk = .int .i64 m ∧ vi = .int .i64 done.length ∧ 0 ≤ m ∧ m + cntVs rest ≤ 4611686018427387904 ∧ Hid (mkVs k xs = (done ++ (mkVs m rest).1, (mkVs m rest).2)) ∧ Hid ((kVd 62).S 40 wr B ok (.slice A xs.length c) (done ++ rest)) ∧ Hid (Kept w wr ok) ∧ Below B w wr) (fun _ vi _ => xs.length - (intOf vi).toNat)
  case atStart => exact ⟨[], xs, k, by simp [Hid], rfl, rfl, h0, hk, rfl, hx, Kept.refl _ _, Below.refl _ _⟩
  case round =>
    obtain ⟨done, rest, m, hl, rfl, rfl, hm0, hm1, HH, hR, hKe, hb⟩ := hrel
    cases rest with
    | nil =>
      have hlt : ¬ done.length < xs.length := by rw [hl.out]; simp
      go_wp2
      go_ret
      rw [HH.out]
      exact ⟨rfl, by simpa [mkVs] using hR.out, hKe.out, hb⟩
    | cons x rest =>
      have hlt : done.length < xs.length := by rw [hl.out]; simp
      have hq := cntVs_0 rest
      have hm2 : m + 3 + 2 * (x.labels.length : Int) + cntVs rest ≤ 4611686018427387904 := by simp only [cntVs, cntV] at hm1; omega
      obtain ⟨g, rfl, hg0, hg1⟩ := S_some hR.out
      have hgB : ok g := hok _ (by simp [Value.ownBlock])
      go_wp2_with fail
      refine (markText _ _ (by omega)).mono ?_
      rintro e w1 ⟨rfl, hb1⟩
      have hR1 := hid (Kd.S_below hR.out hb1)
      have hK1 := hid (hKe.out.below hb1)
      have hz1 : g < w1.heap.size := Nat.lt_of_lt_of_le hg1 hb1.size
      have hb1 := hb.trans (hb1.mono (by omega))
      go_wp2_with (first | (refine S_field (kVd 62) 40 9 rfl rfl rfl 0 _ rfl rfl rfl rfl (by kernel_rfl) rfl (by show _ ≤ 4; omega) hR1.out (kVd_f0 (mt m)) hb1 ?_; intro w2 hR2 hb2 hg2; have hR2 := hid hR2) | (refine S_field (kVd 62) 40 3 rfl rfl rfl 1 _ rfl rfl rfl rfl (by kernel_rfl) rfl (by show _ ≤ 4; omega) hR2.out (kVd_f1 (m + 1)) hb2 ?_; intro w4 hR4 hb4 hg4; obtain ⟨oki, cc, hcl, hM, hcc, hoki, hback⟩ := S_lendAt hR4; obtain ⟨v3, rfl, h3⟩ := kVd_open hM; obtain ⟨A3, c3, rfl⟩ := Kd.R_slice h3; have d3 : w4.cell? ⟨g, done.length * 4 + 2, none⟩ = _ := hcc 2 _ rfl; clear hcc hR4 hcl hM))
      have hK4 := hid (Kept.of_grown hg4 (Kept.of_grown hg2 hK1.out (fun k hk => by injection hk with hk; subst hk; exact .inl hgB)) (fun k hk => by injection hk with hk; subst hk; exact .inl hgB))
      have hz4 : g < w4.heap.size := Nat.lt_of_lt_of_le hz1 (Nat.le_trans hg2.size hg4.size)
      clear hg2 hg4 hb1 hb2 hR2 hR1
      refine (markLabelS _ _ _ _ _ _ h3 (by omega) (by omega)).mono ?_
      rintro e w5 ⟨rfl, h5, hK5, hb5⟩
      have e5 := mkLs_snd (m + 1 + 1) x.labels
      obtain ⟨m5, hm5⟩ : ∃ q, q = (mkLs (m + 1 + 1) x.labels).2 := ⟨_, rfl⟩
      rw [← hm5] at e5 ⊢
      have q5 : m + 1 + 1 + 2 * (x.labels.length : Int) ≤ m5 := by omega
      have r5 : m5 ≤ m + 1 + 1 + 2 * (x.labels.length : Int) := by omega
      have HM5 := hid hm5
      clear e5 hm5 d3
      have hS := hback w5 (⟨mt m, m + 1, (mkLs (m + 1 + 1) x.labels).1, x.used⟩ : Vd) (hK5.mono (fun _ h => h)) (kVd_M (x := (⟨mt m, m + 1, (mkLs (m + 1 + 1) x.labels).1, x.used⟩ : Vd)) (by simpa [mkLs_len] using h5))
      have hz5 : g < w5.heap.size := Nat.lt_of_lt_of_le hz4 hb5.size
      have hK5' := hid (hK4.out.then_ hK5 (fun k h => .inl (hoki k h).1))
      have hb5' := hb4.trans hb5
      have hS := hid hS
      clear hK5 hb5 hb4 h5 h3 hback hoki
      go_wp2_with (refine S_field (kVd 62) 40 3 rfl rfl rfl 3 _ rfl rfl rfl rfl (by kernel_rfl) rfl (by show _ ≤ 4; omega) hS.out (kVd_f3 m5) hb5' ?_; intro w6 hR6 hb6 hg6; have hR6 := hid hR6)
      have hK7 := hid (Kept.of_grown hg6 hK5'.out (fun k hk => by injection hk with hk; subst hk; exact .inl hgB))
      have H3 : Hid (mkVs k xs = (done ++ [(mkV m x).1] ++ (mkVs (m5 + 1) rest).1, (mkVs (m5 + 1) rest).2)) := by
        show mkVs k xs = _
        have e7 : (mkV m x).2 = m5 + 1 := by rw [HM5.out]; simp [mkV, Int.add_assoc]
        rw [HH.out]; simp only [mkVs]; rw [e7]; simp
      have hS2 := hid (show (kVd 62).S 40 w6 B ok (.slice (some ⟨g, 0, none⟩) xs.length c) (done ++ [(mkV m x).1] ++ rest) by
        have h := hR6.out
        have e8 : (mkV m x).1 = ⟨mt m, m + 1, (mkLs (m + 1 + 1) x.labels).1, m5⟩ := by rw [HM5.out]; simp [mkV, Int.add_assoc]
        rw [e8]; simpa using h)
      clear hg6 hR6
      go_wp2_with fail
      go_roundw
      case rel => exact ⟨done ++ [(mkV m x).1], rest, m5 + 1, by have := hl.out; simp [Hid] at *; omega, rfl, by simp, by omega, by omega, H3, hS2, hK7, hb6⟩
      case measure => simp [intOf]; omega
end Go.Proofs.Ytmjkjlifhlemlaa.H
