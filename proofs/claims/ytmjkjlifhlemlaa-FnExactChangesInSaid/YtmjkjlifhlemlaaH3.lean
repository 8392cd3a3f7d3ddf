/- The laws' helpers at changes: sizes, copies, equality. -/
import Derived.Test.YtmjkjlifhlemlaaH2
set_option linter.unusedVariables false
set_option linter.unusedSimpArgs false
set_option maxRecDepth 100000
set_option maxHeartbeats 400000
namespace Go.Proofs.Ytmjkjlifhlemlaa.H
open Go.RowKit Go.Proofs.YtmjkjlifhlemlaaW.PrintWords Go.Proofs.YtmjkjlifhlemlaaW.PrintLast Go.Proofs.Ytmjkjlifhlemlaa.Base
def bulkC (x : Chg) : Int := x.name.size + (x.more.length + bulkL x.more) + (x.less.length + bulkL x.less)
def bulkCs : List Chg → Int
  | [] => 0
  | x :: r => bulkC x + bulkCs r
def Chg.wf (x : Chg) : Prop := strOk x.name ∧ i64 x.old ∧ i64 x.new ∧ (∀ l ∈ x.more, strOk l.name) ∧ (∀ l ∈ x.less, strOk l.name)
theorem bulkC_0 (x : Chg) : 0 ≤ bulkC x := by have := bulkL_0 x.more; have := bulkL_0 x.less; unfold bulkC; omega
theorem bulkCs_0 : ∀ xs, 0 ≤ bulkCs xs
  | [] => by simp [bulkCs]
  | x :: r => by have := bulkCs_0 r; have := bulkC_0 x; simp [bulkCs]; omega
end Go.Proofs.Ytmjkjlifhlemlaa.H
