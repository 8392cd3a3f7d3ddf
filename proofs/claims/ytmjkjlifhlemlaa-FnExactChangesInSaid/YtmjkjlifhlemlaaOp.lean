/- What comes in at the laws' own types, opened as Lean values. -/
import Derived.Test.YtmjkjlifhlemlaaH3
set_option linter.unusedVariables false
set_option linter.unusedSimpArgs false
namespace Go.Proofs.Ytmjkjlifhlemlaa.H
open Go.RowKit Go.Proofs.YtmjkjlifhlemlaaW.PrintWords Go.Proofs.YtmjkjlifhlemlaaW.PrintLast Go.Proofs.Ytmjkjlifhlemlaa.Base
theorem opensLbl : Opens Try.prog 74 kLbl (fun x => i64 x.kind ∧ strOk x.name) :=
  opens_struct Try.underlying74 (by kernel_rfl) (fun x : Lbl => (x.kind, x.name)) (fun x => (⟨x.1, x.2⟩ : Lbl)) (fun _ => rfl)
    (opensFs_cons (opens_int (by exact Try.underlying3)) rfl (by kernel_rfl) (opensFs_one (opens_string (by exact Try.underlying9)) rfl (by kernel_rfl)))
theorem opensLblS (T : Nat) : Opens Try.prog 34 (Kd.slice T kLbl) (fun xs => ∀ x ∈ xs, i64 x.kind ∧ strOk x.name) :=
  opens_slice Try.underlying34 (by kernel_rfl) opensLbl T
theorem kChg_cells {T : Nat} {w : World} {x : Chg} {cs : List Value} (h : (kChg T).K w x cs) : ∃ v3 v4, cs = [.string x.name, .int .i64 x.old, .int .i64 x.new, v3, v4] ∧ In kLbl w v3 x.more ∧ In kLbl w v4 x.less := by
  obtain ⟨_, _, rfl, rfl, ⟨_, _, rfl, rfl, ⟨_, _, rfl, rfl, ⟨_, _, rfl, ⟨A3, c3, rfl, l3, g3⟩, ⟨A4, c4, rfl, l4, g4⟩⟩⟩⟩⟩ := h
  exact ⟨_, _, rfl, ⟨A3, c3, rfl, l3, g3⟩, ⟨A4, c4, rfl, l4, g4⟩⟩
end Go.Proofs.Ytmjkjlifhlemlaa.H
