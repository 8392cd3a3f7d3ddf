/- Proved: the tied card of FnExactChangeLine: for every change the law returns true and the change reads as it did; the library's tables that it reads are tied to the program's text. No condition. -/
import Derived.Test.YtpoflmgncnngfaaDoorPLi
import Derived.SevenTiedAt
namespace Go.Proofs.YtpoflmgncnngfaaDoor
open Go
set_option linter.unusedVariables false
theorem provedLine : Rows.FnExactChangeLineCardSaid :=
  Claim7.holds_tied_plain_at .later [] [.data, .data, .data, .data, .pinned] true (true, "6d8660ad8a6fa571d7e07c578a8cdf57a6050fa22747f5970fb03413395c4be0") false
    Li.over (fun _ h => by cases h) (by kernel_rfl) (fun _ h => by cases h) fnExactChangeLine_row_tie rfl ⟨rfl, rfl⟩ (by kernel_rfl) rfl
    (fun f fn hf hfn => by
      obtain rfl : f = 3 := Option.some.inj ((show Tryd.prog.funcNamed Rows.fnExactChangeLineRow.func = some 3 by kernel_rfl).symm.trans hf) |>.symm
      obtain rfl : fn = Tryd.f3 := (Option.some.inj (Tryd.func3.symm.trans hfn)).symm
      exact ⟨by kernel_rfl, fun j t ht => by
        rw [Tryd.params3] at ht
        have hm : t ∈ [24] := by simpa using Array.mem_of_getElem? ht
        have hall : ([24].all fun u => !Tryd.prog.wantsStandIn u) = true := by kernel_rfl
        exact (show Tryd.prog.wantsStandIn t = false by simpa using List.all_eq_true.1 hall t hm)⟩)
    (by kernel_rfl)
#print axioms provedLine
end Go.Proofs.YtpoflmgncnngfaaDoor
