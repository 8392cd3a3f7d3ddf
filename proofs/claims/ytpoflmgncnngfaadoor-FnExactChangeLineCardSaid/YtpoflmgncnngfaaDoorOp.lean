/- What comes in at the laws' own types, opened as Lean values. -/
import Derived.Test.YtpoflmgncnngfaaDoorH3
set_option linter.unusedVariables false
set_option linter.unusedSimpArgs false
namespace Go.Proofs.YtpoflmgncnngfaaDoor.H
open Go.RowKit Go.Proofs.YtpoflmgncnngfaaDoorW.PrintWords Go.Proofs.YtpoflmgncnngfaaDoorW.PrintLast Go.Proofs.YtpoflmgncnngfaaDoor.Base
theorem opensLbl : Opens Tryd.prog 40 kLbl (fun x => i64 x.kind ∧ strOk x.name) :=
  opens_struct Tryd.underlying40 (by kernel_rfl) (fun x : Lbl => (x.kind, x.name)) (fun x => (⟨x.1, x.2⟩ : Lbl)) (fun _ => rfl)
    (opensFs_cons (opens_int (by exact Tryd.underlying3)) rfl (by kernel_rfl) (opensFs_one (opens_string (by exact Tryd.underlying9)) rfl (by kernel_rfl)))
theorem opensLblS (T : Nat) : Opens Tryd.prog 22 (Kd.slice T kLbl) (fun xs => ∀ x ∈ xs, i64 x.kind ∧ strOk x.name) :=
  opens_slice Tryd.underlying22 (by kernel_rfl) opensLbl T
theorem opensChg (T : Nat) : Opens Tryd.prog 24 (kChg T) (fun x => strOk x.name ∧ i64 x.old ∧ i64 x.new ∧ (∀ l ∈ x.more, i64 l.kind ∧ strOk l.name) ∧ (∀ l ∈ x.less, i64 l.kind ∧ strOk l.name)) :=
  opens_struct Tryd.underlying24 (by kernel_rfl) (fun x : Chg => (x.name, x.old, x.new, x.more, x.less)) (fun x => (⟨x.1, x.2.1, x.2.2.1, x.2.2.2.1, x.2.2.2.2⟩ : Chg)) (fun _ => rfl)
    (opensFs_cons (opens_string (by exact Tryd.underlying9)) rfl (by kernel_rfl) (opensFs_cons (opens_int (by exact Tryd.underlying3)) rfl (by kernel_rfl) (opensFs_cons (opens_int (by exact Tryd.underlying3)) rfl (by kernel_rfl)
      (opensFs_acons (opensLblS T) rfl (by kernel_rfl) (opensFs_one (opensLblS T) rfl (by kernel_rfl))))))
theorem kChg_cells {T : Nat} {w : World} {x : Chg} {cs : List Value} (h : (kChg T).K w x cs) : ∃ v3 v4, cs = [.string x.name, .int .i64 x.old, .int .i64 x.new, v3, v4] ∧ In kLbl w v3 x.more ∧ In kLbl w v4 x.less := by
  obtain ⟨_, _, rfl, rfl, ⟨_, _, rfl, rfl, ⟨_, _, rfl, rfl, ⟨_, _, rfl, ⟨A3, c3, rfl, l3, g3⟩, ⟨A4, c4, rfl, l4, g4⟩⟩⟩⟩⟩ := h
  exact ⟨_, _, rfl, ⟨A3, c3, rfl, l3, g3⟩, ⟨A4, c4, rfl, l4, g4⟩⟩
end Go.Proofs.YtpoflmgncnngfaaDoor.H
