/- Proved: whatever two lists of verdicts come in, FnExactChangesIn returns true and both read as they did. No condition. -/
import Derived.Test.YtmjkjlifhlemlaaLCh
import Derived.Test.YtmjkjlifhlemlaaOp
import Derived.Test.YtmjkjlifhlemlaaRows
import Derived.OpenShut
import Derived.ShutString
import Derived.ChangeOld
namespace Go.Proofs.Ytmjkjlifhlemlaa
open Go.ChangeShapes Go.WideShapes Go.ChangeAt Go.RowKit Go.Proofs.Ytmjkjlifhlemlaa.Base Go.Proofs.Ytmjkjlifhlemlaa.H
set_option linter.unusedVariables false
section
open Go.Proofs.YtmjkjlifhlemlaaW.PrintWords Go.Proofs.YtmjkjlifhlemlaaW.PrintLast
theorem opensVd (T : Nat) : Opens Try.prog 36 (kVd T) (fun x => strOk x.name ∧ i64 x.code ∧ (∀ l ∈ x.labels, i64 l.kind ∧ strOk l.name) ∧ i64 x.used) :=
  opens_struct Try.underlying36 (by kernel_rfl) (fun x : Vd => (x.name, x.code, x.labels, x.used)) (fun x => (⟨x.1, x.2.1, x.2.2.1, x.2.2.2⟩ : Vd)) (fun _ => rfl)
    (opensFs_cons (opens_string (by exact Try.underlying9)) rfl (by kernel_rfl) (opensFs_cons (opens_int (by exact Try.underlying3)) rfl (by kernel_rfl) (opensFs_cons (opensLblS T) rfl (by kernel_rfl) (opensFs_one (opens_int (by exact Try.underlying3)) rfl (by kernel_rfl)))))
theorem opensVdS (T S : Nat) : Opens Try.prog 22 (Kd.slice S (kVd T)) (fun xs => ∀ x ∈ xs, Vd.wf x) := by
  intro H enc w base spare held fuel cs x hx
  obtain ⟨a, h1, h2⟩ := opens_slice Try.underlying22 (by kernel_rfl) (opensVd T) S enc w base spare held fuel cs x hx
  exact ⟨a, h1, fun y hy => by obtain ⟨a0, a1, a2, a3⟩ := h2 y hy; exact ⟨a0, a1, fun l hl => (a2 l hl).2, a3⟩⟩
end
theorem Ch.own : ownKnob Try.prog.godebug = none := by kernel_rfl
theorem Ch.laidOut : laidOutB Try.prog = true := by kernel_rfl
set_option maxRecDepth 100000 in
theorem Ch.lifted (os : Os) (started : os.Started) (H : Type) (enc : TypeId × Value → H) :
    ReturnsInHanded {} Try.checked os 3 .any (Rows.fnExactChangesInSpec.pre6 enc Try.prog Try.f3 Rows.fnExactChangesInRow.domain false) (Rows.fnExactChangesInSpec.post enc Try.prog Try.f3 false true false false) := by
  refine returnsInHanded_of_change (C := Try.checked) Ch.own started (by kernel_rfl) Try.func3
    (ChangeSpec.witness6 (enc := enc) (C := Try.checked) false ⟨#[], #[.slice none 0 0, .slice none 0 0], []⟩ 8 (by kernel_rfl) (by kernel_rfl) (by kernel_rfl) (by kernel_rfl)) ?_
  intro W base args ds gs before hval0 hW hcnd _
  have hval : ∀ (j : Nat) t v, Try.f3.params[j]? = some t → args[j]? = some v → Value.okWide Try.prog W .any base t v := hval0
  have hW' := hW
  obtain ⟨p, q, hA0, hV, rfl, hfz, hnd⟩ := hW
  have hA : DataW.TrodAll enc Try.prog W 0 (fun _ => true) true Try.f3.params.toList args.toList ds p := hA0
  rw [Try.params3] at hA hval
  obtain ⟨v0, vs0, d0, ds0, p0, q0, hargs, rfl, rfl, h0, r0⟩ := trodAll_cons hA
  obtain ⟨v1, vs1, d1, ds1, p1, q1, hargs1, rfl, rfl, h1, r1⟩ := trodAll_cons r0
  obtain ⟨rfl, rfl, rfl⟩ := trodAll_nil r1
  obtain rfl : args = #[v0, v1] := by cases args; simp_all
  obtain ⟨rfl, rfl⟩ := trodVars_none hV
  obtain ⟨a0, len0, cap0, rfl⟩ := okWide_slice Try.underlying22 (hval 0 22 v0 rfl rfl)
  obtain ⟨a1, len1, cap1, rfl⟩ := okWide_slice Try.underlying22 (hval 1 22 v1 rfl rfl)
  have k0 := h0
  have k1 := h1
  have lt0 : ∀ x ∈ p0, x.block < W.heap.size := by obtain ⟨m, hm⟩ := k0; exact DataW.trod_lt m _ _ _ hm
  have lt1 : ∀ x ∈ p1, x.block < W.heap.size := by obtain ⟨m, hm⟩ := k1; exact DataW.trod_lt m _ _ _ hm
  obtain ⟨xs, hx, hs⟩ := Opens.slice (opensVdS 0 0) h0
  obtain ⟨ys, hy, hs2⟩ := Opens.slice (opensVdS 0 0) h1
  clear hA0 hval0
  refine (lawCh 0 _ _ xs ys W hx hy hs hs2).mono fun e W' ⟨he, bel⟩ => ?_
  subst he
  exact ⟨_, rfl, _, _, _, [], _, [], hW', trodAll_mk1 (shut_bool Try.underlying4 _), (trodAll_cons_mk (Below.trod Ch.laidOut (by kernel_rfl) (of_decide_eq_true (by kernel_rfl)) k0 bel lt0) (trodAll_cons_mk (Below.trod Ch.laidOut (by kernel_rfl) (of_decide_eq_true (by kernel_rfl)) k1 bel lt1) trodAll_mk0)), rfl, bel.frame _, fun h => by cases h⟩
theorem Ch.over : Rows.fnExactChangesInRow.holds Try.pinned (OpenSpec.ofChange Rows.fnExactChangesInSpec) :=
  OpenClaim.holds_of_wide 3 Try.f3 rfl rfl rfl rfl rfl rfl rfl ⟨rfl, rfl, rfl, rfl, rfl⟩ rfl rfl rfl rfl rfl (by kernel_rfl) Try.func3 (by kernel_rfl)
    (of_decide_eq_true (by kernel_rfl)) (by unfold Func.isWrapper; first | (rw [if_pos (by decide +kernel)]; kernel_rfl) | (rw [if_neg (by decide +kernel)]; exact ⟨rfl, rfl⟩))
    (fun os started H enc _ => Ch.lifted os started H enc)
theorem provedChanges : Rows.FnExactChangesInSaid := Ch.over
#print axioms provedChanges
end Go.Proofs.Ytmjkjlifhlemlaa
