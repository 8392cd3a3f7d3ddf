/- A part of a name: the reference's text and the program's. -/
import Derived.Test.YtpoflmgncnngfaaDoorH1
set_option linter.unusedVariables false
set_option linter.unusedSimpArgs false
set_option maxRecDepth 100000
set_option maxHeartbeats 400000
namespace Go.Proofs.YtpoflmgncnngfaaDoor.H
open Go.RowKit Go.Proofs.YtpoflmgncnngfaaDoorW.PrintWords Go.Proofs.YtpoflmgncnngfaaDoorW.PrintLast Go.Proofs.YtpoflmgncnngfaaDoor.Base
def lowB (b : UInt8) : Bool := decide (97 ≤ b.toNat) && decide (b.toNat ≤ 122)
def digB (b : UInt8) : Bool := decide (48 ≤ b.toNat) && decide (b.toNat ≤ 57)
def okB (b : UInt8) : Bool := lowB b || digB b
def partL : List UInt8 → Bool
  | [] => false
  | b :: r => lowB b && (b :: r).all okB
def part (s : ByteArray) : Bool := partL s.data.toList
theorem size_of {s : ByteArray} {l : List UInt8} (h : s.data.toList = l) : s.size = l.length := by rw [← h]; exact (Array.length_toList).symm
theorem at_of {s : ByteArray} {done rest : List UInt8} {b : UInt8} (h : s.data.toList = done ++ b :: rest) : ∃ hl : done.length < s.size, s[done.length]'hl = b := by
  have hl : done.length < s.size := by rw [size_of h, List.length_append, List.length_cons]; omega
  refine ⟨hl, ?_⟩
  have h2 : done.length < s.data.toList.length := by rw [h, List.length_append, List.length_cons]; omega
  have h3 : s.data.toList[done.length]'h2 = b := by simp [h]
  rw [← h3]
  exact (Array.getElem_toList (xs := s.data) (i := done.length) hl).symm
theorem specPart (s : ByteArray) (w : World) (hs : strOk s) :
    Calls Tryd.prog 40 #[.string s] w fun e w' => e = .returned (.bool (part s)) ∧ Below w.heap.size w w' := by
  unfold strOk at hs
  obtain ⟨l, hl⟩ : ∃ l, s.data.toList = l := ⟨_, rfl⟩
  have hp : part s = partL l := by unfold part; rw [hl]
  have hz := size_of hl
  have hl' := hid hl
  have hp' := hid hp
  clear hl hp
  cases l with
  | nil =>
    have h0 : s.size = 0 := by simpa using hz
    obtain rfl : s = ByteArray.empty := ByteArray.size_eq_zero_iff.1 h0
    go_enter Tryd.func40, Tryd.ntmps40
    go_wp2
    go_ret
    exact ⟨by rw [hp'.out]; rfl, bel⟩
  | cons b r =>
    obtain ⟨g0, g1⟩ := at_of (done := []) hl'.out
    have g0 : 0 < s.size := g0
    have g1 : s[0] = b := g1
    have g2 : 0 < s.size := g0
    clear hz
    have hne : (((s.size : Int) == 0)) = false := beq_eq_false_iff_ne.2 (by omega)
    go_enter Tryd.func40, Tryd.ntmps40
    go_wp2
    · go_ret
      exact ⟨ret_bool (by rw [hp'.out]; simp [partL, lowB]; omega), bel⟩
    · have hq := hid (show part s = (b :: r).all okB by rw [hp'.out]; simp [partL, lowB]; omega)
      clear hp' g0 g1 g2 hne
      go_loopw [3] (fun vi wr => ∃ done rest : List UInt8, Hid (b :: r = done ++ rest) ∧ vi = .int .i64 done.length ∧ Hid (done.all okB = true) ∧ wr = w) (fun vi _ => s.size - (intOf vi).toNat)
      case atStart => exact ⟨[], b :: r, rfl, rfl, rfl, rfl⟩
      case round =>
        obtain ⟨done, rest, hx, rfl, ho, rfl⟩ := hrel
        have hd : s.data.toList = done ++ rest := hl'.out.trans hx.out
        cases rest with
        | nil =>
          have hlt : ¬ done.length < s.size := by rw [size_of hd]; simp
          clear hd
          go_wp2
          go_ret
          have h2 := hx.out
          exact ⟨by rw [hq.out, h2]; simp [ho.out], bel⟩
        | cons c rest =>
          obtain ⟨g0, g1⟩ := at_of hd
          have hsz := hid (size_of hd)
          clear hd
          go_wp2
          all_goals (try simp only [Bool.not_eq_true', Bool.not_eq_false', decide_eq_true_eq, decide_eq_false_iff_not] at *)
          all_goals first
            | (have hc : okB c = false := by simp [okB, lowB, digB]; omega
               go_ret
               exact ⟨ret_bool (by rw [hq.out, hx.out]; simp [hc]), bel⟩)
            | (have hc : okB c = true := by simp [okB, lowB, digB]; omega
               go_roundw
               case rel => exact ⟨done ++ [c], rest, by rw [hx.out]; simp [Hid], by simp, by simp [Hid, ho.out, hc]⟩
               case measure => simp [intOf]; omega)
    · go_ret
      exact ⟨ret_bool (by rw [hp'.out]; simp [partL, lowB]; omega), bel⟩
theorem implPart (s : ByteArray) (w : World) (hs : strOk s) :
    Calls Tryd.prog 49 #[.string s] w fun e w' => e = .returned (.bool (part s)) ∧ Below w.heap.size w w' := by
  unfold strOk at hs
  obtain ⟨l, hl⟩ : ∃ l, s.data.toList = l := ⟨_, rfl⟩
  have hp : part s = partL l := by unfold part; rw [hl]
  have hz := size_of hl
  have hl' := hid hl
  have hp' := hid hp
  clear hl hp
  cases l with
  | nil =>
    have h0 : s.size = 0 := by simpa using hz
    obtain rfl : s = ByteArray.empty := ByteArray.size_eq_zero_iff.1 h0
    go_enter Tryd.func49, Tryd.ntmps49
    go_wp2
    go_ret
    exact ⟨by rw [hp'.out]; rfl, bel⟩
  | cons b r =>
    obtain ⟨g0, g1⟩ := at_of (done := []) hl'.out
    have g0 : 0 < s.size := g0
    have g1 : s[0] = b := g1
    have g2 : 0 < s.size := g0
    clear hz
    have hne : s.toList.isEmpty = false := by rw [ByteArray.toList_eq, hl'.out]; rfl
    go_enter Tryd.func49, Tryd.ntmps49
    go_wp2
    · go_ret
      exact ⟨ret_bool (by rw [hp'.out]; simp [partL, lowB]; omega), bel⟩
    · have hq := hid (show part s = (b :: r).all okB by rw [hp'.out]; simp [partL, lowB]; omega)
      clear hp' g0 g1 g2 hne
      go_loopw [3, 18] (fun v3 vi wr => ∃ done rest : List UInt8, Hid (b :: r = done ++ rest) ∧ vi = .int .i64 done.length ∧ Hid (done.all okB = true) ∧ wr = w) (fun _ vi _ => s.size - (intOf vi).toNat)
      case atStart => exact ⟨[], b :: r, rfl, rfl, rfl, rfl⟩
      case round =>
        obtain ⟨done, rest, hx, rfl, ho, rfl⟩ := hrel
        have hd : s.data.toList = done ++ rest := hl'.out.trans hx.out
        cases rest with
        | nil =>
          have hlt : ¬ done.length < s.size := by rw [size_of hd]; simp
          clear hd
          go_wp2
          go_ret
          have h2 := hx.out
          exact ⟨by rw [hq.out, h2]; simp [ho.out], bel⟩
        | cons c rest =>
          obtain ⟨g0, g1⟩ := at_of hd
          have hsz := hid (size_of hd)
          clear hd
          go_wp2
          all_goals (try simp only [Bool.not_eq_true', Bool.not_eq_false', decide_eq_true_eq, decide_eq_false_iff_not] at *)
          all_goals first
            | (have hc : okB c = false := by simp [okB, lowB, digB]; omega
               go_ret
               exact ⟨ret_bool (by rw [hq.out, hx.out]; simp [hc]), bel⟩)
            | (have hc : okB c = true := by simp [okB, lowB, digB]; omega
               go_roundw
               case rel => exact ⟨done ++ [c], rest, by rw [hx.out]; simp [Hid], by simp, by simp [Hid, ho.out, hc]⟩
               case measure => simp [intOf]; omega)
    · go_ret
      exact ⟨ret_bool (by rw [hp'.out]; simp [partL, lowB]; omega), bel⟩
end Go.Proofs.YtpoflmgncnngfaaDoor.H
