/- The laws' helpers at labels: sizes, copies, equality, marks. -/
import Derived.Test.YtmjkjlifhlemlaaProg
import Derived.Test.YtmjkjlifhlemlaaData
set_option linter.unusedVariables false
set_option linter.unusedSimpArgs false
set_option maxRecDepth 100000
set_option maxHeartbeats 400000
namespace Go.Proofs.Ytmjkjlifhlemlaa.H
open Go.RowKit Go.Proofs.YtmjkjlifhlemlaaW.PrintWords Go.Proofs.YtmjkjlifhlemlaaW.PrintLast Go.Proofs.Ytmjkjlifhlemlaa.Base
theorem infoS : (Try.prog.info? 9).map (fun i => (i.zero, i.size, i.bytes)) = some (some (.string ⟨#[]⟩), 1, 16) := by kernel_rfl
def szl (l n : Int) : Int := if l - n < 0 then -1 else l - n
theorem szl_eq {a b c d : Int} (h : a - b = c - d) : szl a b = szl c d := by unfold szl; rw [h]
theorem szl_lt {l n : Int} (h : l - n < 0) : szl l n = -1 := if_pos h
theorem szl_ge {l n : Int} (h : ¬ l - n < 0) : szl l n = l - n := if_neg h
theorem szLabel (a : Int) (s : ByteArray) (l : Int) (w : World) (h0 : 0 ≤ l) (h1 : l ≤ 1048576) (hs : s.size ≤ 9223372036854775807) :
    Calls Try.prog 42 #[.agg #[.int .i64 a, .string s], .int .i64 l] w fun e w' => e = .returned (.int .i64 (szl l s.size)) ∧ Below w.heap.size w w' := by
  by_cases h : l - s.size < 0
  all_goals
    first | have H := hid (szl_lt h) | have H := hid (szl_ge h)
    go_enter Try.func42, Try.ntmps42
    go_wp2
    go_ret
    rw [H.out]
    exact ⟨rfl, (Below.refl _ _).alloc (Nat.le_refl _) _⟩
def bulkL : List Lbl → Int
  | [] => 0
  | x :: r => x.name.size + bulkL r
theorem bulkL_0 : ∀ xs, 0 ≤ bulkL xs
  | [] => by simp [bulkL]
  | x :: r => by have := bulkL_0 r; simp [bulkL]; omega
theorem szLabelS (v : Value) (xs : List Lbl) (l : Int) (w : World) (h0 : 0 ≤ l) (h1 : l ≤ 1048576) (hx : In kLbl w v xs) (hs : ∀ x ∈ xs, strOk x.name) :
    Calls Try.prog 29 #[v, .int .i64 l] w fun e w' => e = .returned (.int .i64 (szl l (xs.length + bulkL xs))) ∧ Below w.heap.size w w' := by
  obtain ⟨A, c, rfl, hc, hC⟩ := hx
  have hm : xs.length ≤ 9223372036854775807 := hC.2.1
  have hq := bulkL_0 xs
  by_cases h : l - xs.length < 0
  · have H := hid (show szl l (xs.length + bulkL xs) = -1 from szl_lt (by omega))
    go_enter Try.func29, Try.ntmps29
    go_wp2
    go_ret
    rw [H.out]
    exact ⟨rfl, Below.refl _ _⟩
  · go_enter Try.func29, Try.ntmps29
    go_wp2
    go_loopw [1, 5] (fun vl vi wr => ∃ (done rest : List Lbl) (m : Int), Hid (xs = done ++ rest) ∧ vl = .int .i64 m ∧ vi = .int .i64 done.length ∧ 0 ≤ m ∧ m ≤ 1048576 ∧ Hid (szl l (xs.length + bulkL xs) = szl m (bulkL rest)) ∧ Below w.heap.size w wr) (fun _ vi _ => xs.length - (intOf vi).toNat)
    case atStart => exact ⟨[], xs, l - xs.length, rfl, rfl, rfl, by omega, by omega, szl_eq (by omega), Below.refl _ _⟩
    case round =>
      obtain ⟨done, rest, m, hx, rfl, rfl, hm0, hm1, HH, hb⟩ := hrel
      cases rest with
      | nil =>
        have hl : xs.length = done.length := by rw [hx.out]; simp
        have hlt : ¬ done.length < xs.length := by omega
        clear hl
        go_wp2
        go_ret
        rw [HH.out]
        exact ⟨by simp [bulkL, szl]; omega, hb⟩
      | cons x rest =>
        have hl : done.length < xs.length := by rw [hx.out]; simp
        have hq := bulkL_0 rest
        have hsx : strOk x.name := hs x (by rw [hx.out]; simp)
        obtain ⟨ad, rfl, c0, c1⟩ := lbl_at (Kd.C_below hC hb) hx.out
        go_wp2_with fail
        refine (szLabel _ _ _ _ hm0 hm1 hsx).mono ?_
        rintro e w1 ⟨rfl, hb1⟩
        have hb2 := hb.trans (hb1.mono hb.size)
        by_cases h2 : m - x.name.size < 0
        · rw [szl_lt h2]
          have H3 := hid (show szl l (xs.length + bulkL xs) = -1 by rw [HH.out]; exact szl_lt (by simp [bulkL]; omega))
          go_wp2
          go_ret
          rw [H3.out]
          exact ⟨rfl, hb2⟩
        · rw [szl_ge h2]
          have H3 : Hid (szl l (xs.length + bulkL xs) = szl (m - x.name.size) (bulkL rest)) := by show szl l (xs.length + bulkL xs) = _; rw [HH.out]; exact szl_eq (by simp [bulkL]; omega)
          go_wp2
          go_roundw
          case rel => exact ⟨done ++ [x], rest, _, by rw [hx.out]; simp [Hid], rfl, by simp, by omega, by omega, H3, hb2⟩
          case measure => simp [intOf]; omega
end Go.Proofs.Ytmjkjlifhlemlaa.H
