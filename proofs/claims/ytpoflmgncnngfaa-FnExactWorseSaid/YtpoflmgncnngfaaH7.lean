/- The laws' helpers at lists of names. -/
import Derived.Test.YtpoflmgncnngfaaH5
set_option linter.unusedVariables false
set_option linter.unusedSimpArgs false
set_option maxRecDepth 100000
set_option maxHeartbeats 400000
namespace Go.Proofs.Ytpoflmgncnngfaa.H
open Go.RowKit Go.Proofs.YtpoflmgncnngfaaW.PrintWords Go.Proofs.YtpoflmgncnngfaaW.PrintLast Go.Proofs.Ytpoflmgncnngfaa.Base
theorem eqStringS (u v : Value) (xs ys : List ByteArray) (w : World) (hx : In kS w u xs) (hy : In kS w v ys) :
    Calls Try.prog 9 #[u, v] w fun e w' => e = .returned (.bool (decide (xs = ys))) ∧ Below w.heap.size w w' := by
  obtain ⟨A, c, rfl, hc, hC⟩ := hx
  obtain ⟨A', c', rfl, hc', hC'⟩ := hy
  have hm := hC.2.1
  by_cases hl : xs.length = ys.length
  · have hl' : ((xs.length : Int) != ys.length) = false := by simp; omega
    have hL := hid hl; clear hl
    go_enter Try.func9, Try.ntmps9
    go_wp2
    go_loopw [5] (fun vi wr => ∃ (done rest rest2 : List ByteArray), Hid (xs = done ++ rest) ∧ Hid (ys = done ++ rest2) ∧ vi = .int .i64 done.length ∧ Below w.heap.size w wr) (fun vi _ => xs.length - (intOf vi).toNat)
    case atStart => exact ⟨[], xs, ys, rfl, rfl, rfl, Below.refl _ _⟩
    case round =>
      obtain ⟨done, rest, rest2, hx, hy, rfl, hb⟩ := hrel
      cases rest with
      | nil =>
        have hlt : ¬ done.length < xs.length := by rw [hx.out]; simp
        go_wp2
        go_ret
        exact ⟨ret_bool (by
          have h1 := hx.out; have h2 := hy.out; simp at h1
          subst h1
          have hl := hL.out
          rw [h2] at hl
          have : rest2 = [] := by simpa using hl
          subst this
          simpa using h2.symm), hb⟩
      | cons x rest =>
        cases rest2 with
        | nil => exact absurd hL.out (by rw [hx.out, hy.out]; simp)
        | cons y rest2 =>
          have hlt : done.length < xs.length := by rw [hx.out]; simp
          have hlt2 : done.length < ys.length := by rw [hy.out]; simp
          obtain ⟨ad, rfl, c0⟩ := str_at (Kd.C_below hC hb) hx.out
          obtain ⟨ad', rfl, c0'⟩ := str_at (Kd.C_below hC' hb) hy.out
          have p0 : (0 : Int) ≤ done.length := by omega
          have p1 : (done.length : Int) < xs.length := by omega
          have p2 : (done.length : Int) < ys.length := by omega
          go_wp2
          go_quiet (fail)
          go_wp2
          · go_ret
            exact ⟨ret_bool (by symm; apply decide_eq_false; rw [hx.out, hy.out]; simp_all [str_beq]), bel⟩
          · go_roundw
            case rel => exact ⟨done ++ [x], rest, rest2, by rw [hx.out]; simp [Hid], by rw [hy.out]; simp_all [Hid, str_beq], by simp, bel⟩
            case measure => simp [intOf]; omega
  · have hl' : ((xs.length : Int) != ys.length) = true := by simp; omega
    go_enter Try.func9, Try.ntmps9
    go_wp2
    go_ret
    exact ⟨ret_bool (by simp; intro h; exact hl (by rw [h])), bel⟩
def mkSs : Int → List ByteArray → List ByteArray × Int
  | k, [] => ([], k)
  | k, _ :: r => (mt k :: (mkSs (k + 1) r).1, (mkSs (k + 1) r).2)
theorem mkSs_snd : ∀ k xs, (mkSs k xs).2 = k + (xs.length : Int)
  | k, [] => by simp [mkSs]
  | k, x :: r => by rw [mkSs, mkSs_snd]; simp; omega
theorem mkSs_len : ∀ k xs, (mkSs k xs).1.length = xs.length
  | k, [] => rfl
  | k, x :: r => by simp [mkSs, mkSs_len]
theorem heldStringS (v : Value) (xs : List ByteArray) (k : Int) (w : World) (hx : In kS w v (mkSs k xs).1) (h0 : 0 ≤ k) (hk : k + (xs.length : Int) ≤ 4611686018427387904) :
    Calls Try.prog 13 #[v, .int .i64 k] w fun e w' => e = .returned (.int .i64 (mkSs k xs).2) ∧ Below w.heap.size w w' := by
  obtain ⟨A, c, rfl, hc, hC⟩ := hx
  rw [mkSs_len] at hC ⊢
  go_enter Try.func13, Try.ntmps13
  go_wp2
  go_loopw [1, 5] (fun vk vi wr => ∃ (done : List ByteArray) (rest : List ByteArray) (m : Int), Hid (xs.length = done.length + rest.length) ∧ vk = .int .i64 m ∧ vi = .int .i64 done.length ∧ 0 ≤ m ∧ m + (rest.length : Int) ≤ 4611686018427387904 ∧ Hid (mkSs k xs = (done ++ (mkSs m rest).1, (mkSs m rest).2)) ∧ Below w.heap.size w wr) (fun _ vi _ => xs.length - (intOf vi).toNat)
  case atStart => exact ⟨[], xs, k, by simp [Hid], rfl, rfl, h0, hk, rfl, Below.refl _ _⟩
  case round =>
    obtain ⟨done, rest, m, hl, rfl, rfl, hm0, hm1, HH, hb⟩ := hrel
    cases rest with
    | nil =>
      have hlt : ¬ done.length < xs.length := by rw [hl.out]; simp
      go_wp2
      go_ret
      rw [HH.out]
      exact ⟨rfl, hb⟩
    | cons x rest =>
      have hlt : done.length < xs.length := by rw [hl.out]; simp
      simp only [List.length_cons] at hm1
      have hxx : (mkSs k xs).1 = done ++ mt m :: (mkSs (m + 1) rest).1 := by rw [HH.out]; rfl
      obtain ⟨ad, rfl, c0⟩ := str_at (Kd.C_below hC hb) hxx
      clear hxx
      have p0 : (0 : Int) ≤ done.length := by omega
      have p1 : (done.length : Int) < xs.length := by omega
      go_wp2_with fail
      go_region_held3 (fun w' => Below w.heap.size w w' ∧ w'.cell? (ad.add done.length) = some (.string (mt m))) (first | exact ⟨bel, by assumption⟩ | (refine ⟨bel, ?_⟩; go_keep) | go_keep)
        (first | (go_at_call 24; refine (markText _ _ (by omega)).mono ?_; rintro e w1 ⟨rfl, hb1⟩; have hb9 : Below w.heap.size w w1 := hb1.after bel; have hc9 := pw_cell_below hb1 (by assumption : _ = some (Value.string (mt m)))))
      have hb8 : Below w.heap.size w _ := And.left (by assumption)
      have H3 : Hid (mkSs k xs = (done ++ [mt m] ++ (mkSs (m + 1) rest).1, (mkSs (m + 1) rest).2)) := by show mkSs k xs = _; rw [HH.out]; simp [mkSs]
      go_wp2
      go_roundw
      case rel => exact ⟨done ++ [mt m], rest, m + 1, by have := hl.out; simp [Hid] at *; omega, rfl, by simp, by omega, by omega, H3, hb8⟩
      case measure => simp [intOf]; omega
theorem markStringS (v : Value) (xs : List ByteArray) (k : Int) (B : Nat) (ok : Nat → Prop) (w : World) (hx : kS.R 9 w B ok v xs) (h0 : 0 ≤ k) (hk : k + (xs.length : Int) ≤ 4611686018427387904) :
    Calls Try.prog 12 #[v, .int .i64 k] w fun e w' => e = .returned (.int .i64 (mkSs k xs).2) ∧ kS.R 9 w' B ok v (mkSs k xs).1 ∧ Kept w w' ok ∧ Below B w w' := by
  have hm : xs.length ≤ 9223372036854775807 := by omega
  have hok := hx.1
  obtain ⟨A, c, rfl⟩ := Kd.R_slice hx
  go_enter Try.func12, Try.ntmps12
  go_wp2
  go_loopw [1, 5] (fun vk vi wr => ∃ (done rest : List ByteArray) (m : Int), Hid (xs.length = done.length + rest.length) ∧ vk = .int .i64 m ∧ vi = .int .i64 done.length ∧ 0 ≤ m ∧ m + (rest.length : Int) ≤ 4611686018427387904 ∧ Hid (mkSs k xs = (done ++ (mkSs m rest).1, (mkSs m rest).2)) ∧ Hid (kS.R 9 wr B ok (.slice A xs.length c) (done ++ rest)) ∧ Hid (Kept w wr ok) ∧ Below B w wr) (fun _ vi _ => xs.length - (intOf vi).toNat)
  case atStart => exact ⟨[], xs, k, by simp [Hid], rfl, rfl, h0, hk, rfl, hx, Kept.refl _ _, Below.refl _ _⟩
  case round =>
    obtain ⟨done, rest, m, hl, rfl, rfl, hm0, hm1, HH, hR, hKe, hb⟩ := hrel
    cases rest with
    | nil =>
      have hlt : ¬ done.length < xs.length := by rw [hl.out]; simp
      go_wp2
      go_ret
      rw [HH.out]
      exact ⟨rfl, by simpa [mkSs] using hR.out, hKe.out, hb⟩
    | cons x rest =>
      have hlt : done.length < xs.length := by rw [hl.out]; simp
      simp only [List.length_cons] at hm1
      obtain ⟨g, rfl, hg0, hg1⟩ := R_some hR.out
      have hgB : ok g := hok _ (by simp [Value.ownBlock])
      go_wp2_with fail
      refine (markText _ _ (by omega)).mono ?_
      rintro e w2 ⟨rfl, hb2⟩
      have hR2 := hid (Kd.R_below hR.out hb2)
      have hK2 := hid (hKe.out.below hb2)
      have hz2 : g < w2.heap.size := Nat.lt_of_lt_of_le hg1 hb2.size
      have hb3 := hb.trans (hb2.mono (by omega))
      clear hb2
      go_wp2_with (refine R_fill kS (x' := mt m) (seg := [.string (mt m)]) (okp := fun _ => False) 9 9 rfl rfl rfl rfl (by show _ = _ * 1; simp) rfl rfl (by kernel_rfl) hR2.out rfl (fun _ hk => hk.elim) hb3 ?_; intro w3 hR3 hb4 hg4)
      have hK3 := hid (Kept.of_grown hg4 hK2.out (fun k hk => by injection hk with hk; subst hk; exact .inl hgB))
      have H3 : Hid (mkSs k xs = (done ++ [mt m] ++ (mkSs (m + 1) rest).1, (mkSs (m + 1) rest).2)) := by
        show mkSs k xs = _
        rw [HH.out]; simp [mkSs]
      clear hg4
      go_wp2
      go_roundw
      case rel => exact ⟨done ++ [mt m], rest, m + 1, by have := hl.out; simp [Hid] at *; omega, rfl, by simp, by omega, by omega, H3, by simpa [Hid] using hR3, hK3, hb4⟩
      case measure => simp [intOf]; omega
end Go.Proofs.Ytpoflmgncnngfaa.H
