/- What comes in at the laws' own types, opened as Lean values. -/
import Derived.Test.YtpoflmgncnngfaaH3
set_option linter.unusedVariables false
set_option linter.unusedSimpArgs false
namespace Go.Proofs.Ytpoflmgncnngfaa.H
open Go.RowKit Go.Proofs.YtpoflmgncnngfaaW.PrintWords Go.Proofs.YtpoflmgncnngfaaW.PrintLast Go.Proofs.Ytpoflmgncnngfaa.Base
theorem opensLbl : Opens Try.prog 85 kLbl (fun x => i64 x.kind ∧ strOk x.name) :=
  opens_struct Try.underlying85 (by kernel_rfl) (fun x : Lbl => (x.kind, x.name)) (fun x => (⟨x.1, x.2⟩ : Lbl)) (fun _ => rfl)
    (opensFs_cons (opens_int (by exact Try.underlying3)) rfl (by kernel_rfl) (opensFs_one (opens_string (by exact Try.underlying9)) rfl (by kernel_rfl)))
theorem opensLblS (T : Nat) : Opens Try.prog 42 (Kd.slice T kLbl) (fun xs => ∀ x ∈ xs, i64 x.kind ∧ strOk x.name) :=
  opens_slice Try.underlying42 (by kernel_rfl) opensLbl T
theorem opensChg (T : Nat) : Opens Try.prog 44 (kChg T) (fun x => strOk x.name ∧ i64 x.old ∧ i64 x.new ∧ (∀ l ∈ x.more, i64 l.kind ∧ strOk l.name) ∧ (∀ l ∈ x.less, i64 l.kind ∧ strOk l.name)) :=
  opens_struct Try.underlying44 (by kernel_rfl) (fun x : Chg => (x.name, x.old, x.new, x.more, x.less)) (fun x => (⟨x.1, x.2.1, x.2.2.1, x.2.2.2.1, x.2.2.2.2⟩ : Chg)) (fun _ => rfl)
    (opensFs_cons (opens_string (by exact Try.underlying9)) rfl (by kernel_rfl) (opensFs_cons (opens_int (by exact Try.underlying3)) rfl (by kernel_rfl) (opensFs_cons (opens_int (by exact Try.underlying3)) rfl (by kernel_rfl)
      (opensFs_acons (opensLblS T) rfl (by kernel_rfl) (opensFs_one (opensLblS T) rfl (by kernel_rfl))))))
theorem opensChgS (T S : Nat) : Opens Try.prog 22 (Kd.slice S (kChg T)) (fun xs => ∀ x ∈ xs, Chg.wf x) := by
  intro H enc w base spare held fuel cs x hx
  obtain ⟨a, h1, h2⟩ := opens_slice Try.underlying22 (by kernel_rfl) (opensChg T) S enc w base spare held fuel cs x hx
  exact ⟨a, h1, fun y hy => by obtain ⟨a0, a1, a2, a3, a4⟩ := h2 y hy; exact ⟨a0, a1, a2, fun l hl => (a3 l hl).2, fun l hl => (a4 l hl).2⟩⟩
end Go.Proofs.Ytpoflmgncnngfaa.H
