/- The laws' marks. -/
import Derived.Test.YtmjkjlifhlemlaaH4
set_option linter.unusedVariables false
set_option linter.unusedSimpArgs false
set_option maxRecDepth 100000
set_option maxHeartbeats 400000
namespace Go.Proofs.Ytmjkjlifhlemlaa.H
open Go.RowKit Go.Proofs.YtmjkjlifhlemlaaW.PrintWords Go.Proofs.YtmjkjlifhlemlaaW.PrintLast Go.Proofs.Ytmjkjlifhlemlaa.Base
def mtL (k : Nat) (out : ByteArray) : ByteArray := if h : k = 0 then out else mtL (k / 10) (⟨#[48 + UInt8.ofNat (k % 10)]⟩ ++ out)
termination_by k
decreasing_by omega
def mt (k : Int) : ByteArray := if k ≤ 0 then ⟨#[109, 48]⟩ else ⟨#[109]⟩ ++ mtL k.toNat ⟨#[]⟩
theorem mtL_zero (out : ByteArray) : mtL 0 out = out := by rw [mtL]; simp
theorem mtL_pos {k : Nat} (h : 0 < k) (out : ByteArray) : mtL k out = mtL (k / 10) (⟨#[48 + UInt8.ofNat (k % 10)]⟩ ++ out) := by rw [mtL]; rw [dif_neg (by omega)]
theorem markText (k : Int) (w : World) (h : k ≤ 4611686018427387904) :
    Calls Try.prog 26 #[.int .i64 k] w fun e w' => e = .returned (.string (mt k)) ∧ Below w.heap.size w w' := by
  have hk := run_str_one (P := Try.prog) 72 9 5 Try.underlying72 Try.underlying5 Try.underlying9
  by_cases h0 : k ≤ 0
  · have H := hid (show mt k = _ from if_pos h0)
    rw [H.out]
    go_enter Try.func26, Try.ntmps26
    go_wp2
    go_ret
    exact ⟨rfl, bel⟩
  · have H := hid (show mt k = _ from if_neg h0)
    rw [H.out]
    obtain ⟨n, rfl⟩ := Int.eq_ofNat_of_zero_le (show 0 ≤ k by omega)
    go_enter Try.func26, Try.ntmps26
    go_wp2
    go_loopw [0, 3] (fun vk vo wr => ∃ (m : Nat) (out : ByteArray), vk = .int .i64 m ∧ vo = .string out ∧ out.size + m ≤ n ∧ Hid (mtL n ⟨#[]⟩ = mtL m out) ∧ Below w.heap.size w wr) (fun vk _ _ => (intOf vk).toNat)
    case atStart => exact ⟨n, ⟨#[]⟩, rfl, rfl, by simp [ByteArray.size], rfl, Below.refl _ _⟩
    case round =>
      obtain ⟨m, out, rfl, rfl, hm, HH, hb⟩ := hrel
      by_cases hm0 : 0 < m
      · have hc : (0 : Int) < m := by omega
        have hk1 := hk (48 + (m : Int) % 10) wr
        go_wp2
        have H3 : Hid (mtL n ⟨#[]⟩ = mtL (m / 10) (⟨#[48 + UInt8.ofNat (m % 10)]⟩ ++ out)) := by show mtL n ⟨#[]⟩ = _; rw [HH.out, mtL_pos hm0]
        go_roundw
        case rel => exact ⟨m / 10, _, by simp, rfl, by rw [ByteArray.size_append]; show 1 + _ + _ ≤ _; omega, H3, bel⟩
        case measure => simp [intOf]; omega
      · have hc : decide ((0 : Int) < m) = false := by simp; omega
        have hm1 := hid hm0; clear hm0
        go_wp2
        go_ret
        obtain rfl : m = 0 := by have := hm1.out; omega
        exact ⟨ret_str (by rw [Int.toNat_natCast, HH.out, mtL_zero]), hb⟩
/-- A row of labels, marked from k on. -/
def mkLs : Int → List Lbl → List Lbl × Int
  | k, [] => ([], k)
  | k, _ :: r => (⟨k, mt (k + 1)⟩ :: (mkLs (k + 2) r).1, (mkLs (k + 2) r).2)
theorem mkLs_snd : ∀ k xs, (mkLs k xs).2 = k + 2 * (xs.length : Int)
  | k, [] => by simp [mkLs]
  | k, x :: r => by rw [mkLs, mkLs_snd]; simp; omega
theorem mkLs_again : ∀ k xs, mkLs k (mkLs k xs).1 = mkLs k xs
  | k, [] => rfl
  | k, x :: r => by simp only [mkLs]; rw [mkLs_again]
theorem mkLs_len : ∀ k xs, (mkLs k xs).1.length = xs.length
  | k, [] => rfl
  | k, x :: r => by simp [mkLs, mkLs_len]
theorem markLabelS (v : Value) (xs : List Lbl) (k : Int) (B : Nat) (ok : Nat → Prop) (w : World) (hx : kLbl.R 62 w B ok v xs) (h0 : 0 ≤ k) (hk : k + 2 * (xs.length : Int) ≤ 4611686018427387904) :
    Calls Try.prog 27 #[v, .int .i64 k] w fun e w' => e = .returned (.int .i64 (mkLs k xs).2) ∧ kLbl.R 62 w' B ok v (mkLs k xs).1 ∧ Kept w w' ok ∧ Below B w w' := by
  have hm : xs.length ≤ 9223372036854775807 := by omega
  have hok := hx.1
  have hB := Kd.R_base hx
  obtain ⟨A, c, rfl⟩ := Kd.R_slice hx
  go_enter Try.func27, Try.ntmps27
  go_wp2
  go_loopw [1, 5] (fun vk vi wr => ∃ (done rest : List Lbl) (m : Int), Hid (xs.length = done.length + rest.length) ∧ vk = .int .i64 m ∧ vi = .int .i64 done.length ∧ 0 ≤ m ∧ m + 2 * (rest.length : Int) ≤ 4611686018427387904 ∧ Hid (mkLs k xs = (done ++ (mkLs m rest).1, (mkLs m rest).2)) ∧ Hid (kLbl.R 62 wr B ok (.slice A xs.length c) (done ++ rest)) ∧ Hid (Kept w wr ok) ∧ Below B w wr) (fun _ vi _ => xs.length - (intOf vi).toNat)
  case atStart => exact ⟨[], xs, k, by simp [Hid], rfl, rfl, h0, hk, rfl, hx, Kept.refl _ _, Below.refl _ _⟩
  case round =>
    obtain ⟨done, rest, m, hl, rfl, rfl, hm0, hm1, HH, hR, hKe, hb⟩ := hrel
    cases rest with
    | nil =>
      have hlt : ¬ done.length < xs.length := by rw [hl.out]; simp
      go_wp2
      go_ret
      rw [HH.out]
      exact ⟨rfl, by simpa [mkLs] using hR.out, hKe.out, hb⟩
    | cons x rest =>
      have hlt : done.length < xs.length := by rw [hl.out]; simp
      simp only [List.length_cons] at hm1
      obtain ⟨g, rfl, hg0, hg1⟩ := R_some hR.out
      have hgB : ok g := hok _ (by simp [Value.ownBlock])
      have hR' := hid hR.out
      go_wp2_with (refine R_field kLbl 62 3 rfl rfl rfl 0 (⟨m, x.name⟩ : Lbl) rfl rfl rfl rfl (by kernel_rfl) rfl (by decide) hR'.out (kLbl_f0 _ rfl) hb ?_; intro w1 hR1 hb1 hg3)
      have hK1 := hid (Kept.of_grown hg3 hKe.out (fun k hk => by injection hk with hk; subst hk; exact .inl hgB))
      have hz1 : g < w1.heap.size := Nat.lt_of_lt_of_le hg1 hg3.size
      have hR1 := hid hR1
      clear hg3 hb
      go_wp2_with fail
      refine (markText _ _ (by omega)).mono ?_
      rintro e w2 ⟨rfl, hb2⟩
      have hR2 := Kd.R_below hR1.out hb2
      have hK2 := hid (hK1.out.below hb2)
      have hz2 : g < w2.heap.size := Nat.lt_of_lt_of_le hz1 hb2.size
      have hb3 := hb1.trans (hb2.mono (by omega))
      clear hb1 hb2
      have hR2 := hid hR2
      go_wp2_with (refine R_field kLbl 62 9 rfl rfl rfl 1 (⟨m, mt (m + 1)⟩ : Lbl) rfl rfl rfl rfl (by kernel_rfl) rfl (by decide) hR2.out (kLbl_f1 _ rfl) hb3 ?_; intro w3 hR3 hb4 hg4)
      have hK3 := hid (Kept.of_grown hg4 hK2.out (fun k hk => by injection hk with hk; subst hk; exact .inl hgB))
      have H3 : Hid (mkLs k xs = (done ++ [⟨m, mt (m + 1)⟩] ++ (mkLs (m + 1 + 1) rest).1, (mkLs (m + 1 + 1) rest).2)) := by
        show mkLs k xs = _
        rw [HH.out, show m + 1 + 1 = m + 2 by omega]; simp [mkLs]
      clear hg4
      go_wp2
      go_roundw
      case rel => exact ⟨done ++ [⟨m, mt (m + 1)⟩], rest, m + 1 + 1, by have := hl.out; simp [Hid] at *; omega, rfl, by simp, by omega, by omega, H3, by simpa [Hid] using hR3, hK3, hb4⟩
      case measure => simp [intOf]; omega
end Go.Proofs.Ytmjkjlifhlemlaa.H
