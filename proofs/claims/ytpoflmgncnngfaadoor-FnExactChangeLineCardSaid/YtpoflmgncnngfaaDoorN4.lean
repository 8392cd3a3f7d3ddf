/- Decimal numerals: the reference's loop, the library's Itoa. -/
import Derived.Test.YtpoflmgncnngfaaDoorN3
import Derived.Lib.ItoaNum
set_option linter.unusedVariables false
set_option linter.unusedSimpArgs false
set_option maxRecDepth 100000
set_option maxHeartbeats 400000
namespace Go.Proofs.YtpoflmgncnngfaaDoor.H
open Go.RowKit Go.Proofs.YtpoflmgncnngfaaDoorW.PrintWords Go.Proofs.YtpoflmgncnngfaaDoorW.PrintLast Go.Proofs.YtpoflmgncnngfaaDoor.Base
def dec (n : Int) : ByteArray := bytesOf (Lib.itoa n)
def fig (d : Nat) : ByteArray := ⟨#[UInt8.ofNat (48 + d)]⟩
def decOn (m : Nat) (out : ByteArray) : ByteArray := if m = 0 then out else bytesOf (Lib.decDigits m) ++ out
theorem bytesOf_app (a b : List UInt8) : bytesOf (a ++ b) = bytesOf a ++ bytesOf b := by
  unfold bytesOf
  apply ByteArray.ext
  simp
theorem app_nil (a : ByteArray) : a ++ ⟨#[]⟩ = a := by apply ByteArray.ext; simp
theorem nil_app (a : ByteArray) : ⟨#[]⟩ ++ a = a := by apply ByteArray.ext; simp
theorem dec_zero : dec 0 = ⟨#[48]⟩ := by unfold dec Lib.itoa; rw [if_neg (by decide), show (0 : Int).toNat = 0 from rfl, Lib.decDigits_one (by decide)]; rfl
theorem decOn_step {m : Nat} (h : 0 < m) (out : ByteArray) : decOn m out = decOn (m / 10) (fig (m % 10) ++ out) := by
  unfold decOn
  rw [if_neg (by omega)]
  by_cases h1 : m < 10
  · rw [if_pos (by omega), Lib.decDigits_one h1, Nat.mod_eq_of_lt h1]; rfl
  · rw [if_neg (by omega), Lib.decDigits, dif_neg h1, bytesOf_app, ByteArray.append_assoc]; rfl
theorem specFig (d : Nat) (w : World) (h : d < 10) :
    Calls Tryd.prog 17 #[.int .i64 d] w fun e w' => e = .returned (.int .u8 ((48 + d : Nat))) ∧ Below w.heap.size w w' := by
  have h1 : (d : Int) < 10 := by omega
  have h2 : ((48 : Int) + d) % 256 = 48 + d := by omega
  go_enter Tryd.func17, Tryd.ntmps17
  go_wp2
  go_ret
  exact ⟨by simp [h2], bel⟩
theorem specDecimal (n : Int) (w : World) (hn : i64 n) :
    Calls Tryd.prog 10 #[.int .i64 n] w fun e w' => e = .returned (.string (dec n)) ∧ Below w.heap.size w w' := by
  obtain ⟨hn0, hn1⟩ := hn
  have hk := run_str_one (P := Tryd.prog) 42 9 5 Tryd.underlying42 Tryd.underlying5 Tryd.underlying9
  by_cases hz : n = 0
  · subst hz
    go_enter Tryd.func10, Tryd.ntmps10
    go_wp2_with fail
    go_ret
    exact ⟨ret_str dec_zero.symm, bel⟩
  · have hzb : (n == 0) = false := beq_eq_false_iff_ne.2 hz
    by_cases hneg : n < 0
    · obtain ⟨u, rfl⟩ : ∃ u : Nat, n = -(u : Int) := ⟨n.natAbs, by omega⟩
      have hD : dec (-(u : Int)) = ⟨#[45]⟩ ++ decOn u ⟨#[]⟩ := by
        unfold dec Lib.itoa decOn
        rw [if_pos hneg, if_neg (by omega)]
        have : (-(u : Int)).natAbs = u := by omega
        rw [this, show (45 :: Lib.decDigits u) = [45] ++ Lib.decDigits u from rfl, bytesOf_app, app_nil]
        rfl
      have hD' := hid hD
      clear hD hz
      go_enter Tryd.func10, Tryd.ntmps10
      go_wp2_with fail
      go_loopw [0, 4, 5] (fun vk vo vd wr => ∃ (m k : Nat) (out : ByteArray), vk = .int .i64 (-(m : Int)) ∧ vo = .string out ∧ out.size + k = 20 ∧ m ≤ u ∧ Hid (m < 10 ^ k) ∧ Hid (decOn u ⟨#[]⟩ = decOn m out) ∧ Below w.heap.size w wr) (fun vk _ _ _ => (intOf vk).natAbs)
      case atStart => exact ⟨u, 20, ⟨#[]⟩, rfl, rfl, rfl, Nat.le_refl _, hid (by omega), rfl, Below.refl _ _⟩
      case round =>
        obtain ⟨m, k, out, rfl, rfl, hm, hmu, hpw, HH, hb⟩ := hrel
        have hov : ¬ (9223372036854775807 < 1 + out.size) := by omega
        by_cases hm0 : 0 < m
        · have hc : ((-(m : Int)) != 0) = true := by simp; omega
          have hr : Int.tmod (-(m : Int)) 10 = -((m % 10 : Nat) : Int) := by rw [Int.neg_tmod, Int.tmod_eq_emod_of_nonneg (by omega)]; omega
          have hq : Int.tdiv (-(m : Int)) 10 = -((m / 10 : Nat) : Int) := by rw [Int.neg_tdiv, Int.tdiv_eq_ediv_of_nonneg (by omega)]; omega
          have hstep : ∃ j, (fig (m % 10) ++ out).size + j = 20 ∧ m / 10 < 10 ^ j := by
            have hp := hpw.out
            cases k with
            | zero => simp at hp; omega
            | succ j => exact ⟨j, by rw [ByteArray.size_append]; show 1 + _ + _ = _; omega, by rw [Nat.pow_succ] at hp; omega⟩
          have hstep' := hid hstep
          clear hstep
          have H3 : Hid (decOn u ⟨#[]⟩ = decOn (m / 10) (fig (m % 10) ++ out)) := hid (by rw [HH.out, decOn_step hm0])
          by_cases h10 : m % 10 = 0
          · rw [h10] at hr
            have hF := specFig 0 wr (by decide)
            have hm0' := hid hm0
            have h10' := hid h10
            clear hm0 h10
            go_wp2_with fail
            refine hF.mono ?_
            rintro e w2 ⟨rfl, hb2⟩
            have hb3 : Below w.heap.size w w2 := hb2.after hb
            have hk1 := hk 48 w2
            go_wp2
            obtain ⟨j, hj1, hj2⟩ := hstep'.out
            rw [h10'.out] at H3 hj1
            go_roundw
            case rel => exact ⟨m / 10, j, _, by simp, rfl, hj1, by omega, hid hj2, H3, bel⟩
            case measure => have := hm0'.out; simp [intOf]; omega
          · have hlt : ((0 : Int) < (m % 10 : Nat)) := by omega
            have hF := specFig (m % 10) wr (by omega)
            have hm0' := hid hm0
            have h10' := hid h10
            clear hm0 h10
            generalize hd : m % 10 = d at *
            have hd10 : d < 10 := by omega
            have hd' := hid hd
            clear hd
            go_wp2_with fail
            refine hF.mono ?_
            rintro e w2 ⟨rfl, hb2⟩
            have hb3 : Below w.heap.size w w2 := hb2.after hb
            have hk1 := hk (48 + d : Nat) w2
            go_wp2
            obtain ⟨j, hj1, hj2⟩ := hstep'.out
            go_roundw
            case rel => exact ⟨m / 10, j, _, by simp, by simp [fig], hj1, by omega, hid hj2, H3, bel⟩
            case measure => have := hm0'.out; simp [intOf]; omega
        · obtain rfl : m = 0 := by omega
          have hu : 0 < u := by omega
          go_wp2_with fail
          go_ret
          exact ⟨ret_str (by rw [hD'.out, HH.out]; rfl), hb⟩
    · obtain ⟨u, rfl⟩ : ∃ u : Nat, n = (u : Int) := ⟨n.natAbs, by omega⟩
      have hD : dec (u : Int) = decOn u ⟨#[]⟩ := by
        unfold dec Lib.itoa decOn
        rw [if_neg hneg, if_neg (by omega), Int.toNat_natCast, app_nil]
      have hu : 0 < u := by omega
      have hD' := hid hD
      clear hD hz
      go_enter Tryd.func10, Tryd.ntmps10
      go_wp2_with fail
      go_loopw [0, 4, 5] (fun vk vo vd wr => ∃ (m k : Nat) (out : ByteArray), vk = .int .i64 ((m : Int)) ∧ vo = .string out ∧ out.size + k = 20 ∧ m ≤ u ∧ Hid (m < 10 ^ k) ∧ Hid (decOn u ⟨#[]⟩ = decOn m out) ∧ Below w.heap.size w wr) (fun vk _ _ _ => (intOf vk).natAbs)
      case atStart => exact ⟨u, 20, ⟨#[]⟩, rfl, rfl, rfl, Nat.le_refl _, hid (by omega), rfl, Below.refl _ _⟩
      case round =>
        obtain ⟨m, k, out, rfl, rfl, hm, hmu, hpw, HH, hb⟩ := hrel
        have hov : ¬ (9223372036854775807 < 1 + out.size) := by omega
        by_cases hm0 : 0 < m
        · have hc : (((m : Int)) != 0) = true := by simp; omega
          have hstep : ∃ j, (fig (m % 10) ++ out).size + j = 20 ∧ m / 10 < 10 ^ j := by
            have hp := hpw.out
            cases k with
            | zero => simp at hp; omega
            | succ j => exact ⟨j, by rw [ByteArray.size_append]; show 1 + _ + _ = _; omega, by rw [Nat.pow_succ] at hp; omega⟩
          have hstep' := hid hstep
          clear hstep
          have H3 : Hid (decOn u ⟨#[]⟩ = decOn (m / 10) (fig (m % 10) ++ out)) := hid (by rw [HH.out, decOn_step hm0])
          have hF := specFig (m % 10) wr (by omega)
          have hm0' := hid hm0
          clear hm0
          go_wp2_with fail
          refine hF.mono ?_
          rintro e w2 ⟨rfl, hb2⟩
          have hb3 : Below w.heap.size w w2 := hb2.after hb
          have hk1 := hk (48 + (m : Int) % 10) w2
          go_wp2
          obtain ⟨j, hj1, hj2⟩ := hstep'.out
          go_roundw
          case rel => exact ⟨m / 10, j, _, by simp, by simp [fig], hj1, by omega, hid hj2, H3, bel⟩
          case measure => have := hm0'.out; simp [intOf]; omega
        · obtain rfl : m = 0 := by omega
          go_wp2_with fail
          go_ret
          exact ⟨ret_str (by rw [hD'.out, HH.out]; rfl), hb⟩
end Go.Proofs.YtpoflmgncnngfaaDoor.H
