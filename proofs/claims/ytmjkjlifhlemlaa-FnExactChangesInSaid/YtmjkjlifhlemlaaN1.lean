/- A part of a name: the reference's text and the program's. -/
import Derived.Test.YtmjkjlifhlemlaaH1
set_option linter.unusedVariables false
set_option linter.unusedSimpArgs false
set_option maxRecDepth 100000
set_option maxHeartbeats 400000
namespace Go.Proofs.Ytmjkjlifhlemlaa.H
open Go.RowKit Go.Proofs.YtmjkjlifhlemlaaW.PrintWords Go.Proofs.YtmjkjlifhlemlaaW.PrintLast Go.Proofs.Ytmjkjlifhlemlaa.Base
def lowB (b : UInt8) : Bool := decide (97 ≤ b.toNat) && decide (b.toNat ≤ 122)
def digB (b : UInt8) : Bool := decide (48 ≤ b.toNat) && decide (b.toNat ≤ 57)
def okB (b : UInt8) : Bool := lowB b || digB b
def partL : List UInt8 → Bool
  | [] => false
  | b :: r => lowB b && (b :: r).all okB
def part (s : ByteArray) : Bool := partL s.data.toList
theorem size_of {s : ByteArray} {l : List UInt8} (h : s.data.toList = l) : s.size = l.length := by rw [← h]; exact (Array.length_toList).symm
theorem at_of {s : ByteArray} {done rest : List UInt8} {b : UInt8} (h : s.data.toList = done ++ b :: rest) : ∃ hl : done.length < s.size, s[done.length]'hl = b := by
  have hl : done.length < s.size := by rw [size_of h, List.length_append, List.length_cons]; omega
  refine ⟨hl, ?_⟩
  have h2 : done.length < s.data.toList.length := by rw [h, List.length_append, List.length_cons]; omega
  have h3 : s.data.toList[done.length]'h2 = b := by simp [h]
  rw [← h3]
  exact (Array.getElem_toList (xs := s.data) (i := done.length) hl).symm
end Go.Proofs.Ytmjkjlifhlemlaa.H
