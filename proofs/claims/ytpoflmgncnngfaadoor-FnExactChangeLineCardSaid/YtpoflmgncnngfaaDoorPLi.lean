/- Proved: whatever change comes in, FnExactChangeLine returns true and the change reads as it did; the listed library tables tied to the program's text. -/
import Derived.Test.YtpoflmgncnngfaaDoorLLi
import Derived.Test.YtpoflmgncnngfaaDoorOp
import Derived.Test.YtpoflmgncnngfaaDoorRow
import Derived.Test.YtpoflmgncnngfaaDoorTie
import Derived.Test.YtpoflmgncnngfaaDoorCards
namespace Go.Proofs.YtpoflmgncnngfaaDoor
open Go.ChangeShapes Go.WideShapes Go.ChangeAt Go.RowKit Go.Proofs.YtpoflmgncnngfaaDoor.Base Go.Proofs.YtpoflmgncnngfaaDoor.H
set_option linter.unusedVariables false
theorem Li.own : ownKnob Tryd.prog.godebug = none := by kernel_rfl
theorem Li.laidOut : laidOutB Tryd.prog = true := by kernel_rfl
theorem Li.met (os : Os) (args : Array Value) : laidMetH Tryd.prog Rows.fnExactChangeLineRow.laid ((World.laidAll Tryd.prog os Rows.fnExactChangeLineRow.laid).forCall (fun _ _ => 0) ⟨#[], args, []⟩).memory := by
  rw [MakeChecks.laidMetH_plain _ _ _ (by kernel_rfl)]
  exact laidMet_laidAll _ (by kernel_rfl) (by kernel_rfl)
theorem Li.tab {W : World} (h : laidMetH Tryd.prog Rows.fnExactChangeLineRow.laid W) : Lib.TabIs Tryd.prog W "internal/strconv.uint64pow10" .u64 Lib.pow10Tab := by
  rw [MakeChecks.laidMetH_plain _ _ _ (by kernel_rfl)] at h
  obtain ⟨ps, h, _⟩ := h
  exact tabIs_of_laid (g := 0) (t := 79) (e := 67) (by kernel_rfl) (by kernel_rfl) Tryd.underlying79 Tryd.underlying67 (by kernel_rfl) (by kernel_rfl)
    (pre := [("math/bits.deBruijn32tab", Rows.laid_math_bits_deBruijn32tab), ("math/bits.deBruijn64tab", Rows.laid_math_bits_deBruijn64tab)]) (ps := ps) h
set_option maxRecDepth 100000 in
theorem Li.lifted (os : Os) (started : os.Started) (H : Type) (enc : TypeId × Value → H) :
    ReturnsInHanded {} Tryd.checked os 3 .any (fun w args => (Rows.fnExactChangeLineSpec.pre enc Tryd.prog Tryd.f3 [] false w args ∧ laidMetH Tryd.prog Rows.fnExactChangeLineRow.laid w) ∧ sizedMet enc Tryd.prog Tryd.f3 (OpenSpec.ofChange Rows.fnExactChangeLineSpec) false w args)
      (Rows.fnExactChangeLineSpec.post enc Tryd.prog Tryd.f3 false true false false) := by
  refine handed_shaped (C := Tryd.checked) (X := fun w _ => laidMetH Tryd.prog Rows.fnExactChangeLineRow.laid w) (fun _ _ _ hh h => h.of_heap hh) Li.own started (by kernel_rfl) Tryd.func3
    (ChangeSpec.witness_shaped (enc := enc) (C := Tryd.checked) (os := os) (X := fun w _ => laidMetH Tryd.prog Rows.fnExactChangeLineRow.laid w) false (World.laidAll Tryd.prog os Rows.fnExactChangeLineRow.laid) #[.agg #[.string ⟨#[]⟩, .int .i64 0, .int .i64 0, .slice none 0 0, .slice none 0 0]] 8 rfl (World.shaped_of_ZipB (by kernel_rfl) (by kernel_rfl)) (by kernel_rfl) (by kernel_rfl) (by kernel_rfl) (Li.met os _)) ?_
  intro W base args ds gs before hval0 hW hsh hL
  have hval : ∀ (j : Nat) t v, Tryd.f3.params[j]? = some t → args[j]? = some v → Value.okWide Tryd.prog W .any base t v := hval0
  have hW' := hW
  obtain ⟨p, q, hA0, hV, rfl, hfz, hnd⟩ := hW
  have hA : DataW.TrodAll enc Tryd.prog W 0 (fun _ => true) true Tryd.f3.params.toList args.toList ds p := hA0
  rw [Tryd.params3] at hA hval
  obtain ⟨v0, vs0, d0, ds0, p0, q0, hargs, rfl, rfl, h0, r0⟩ := trodAll_cons hA
  obtain ⟨rfl, rfl, rfl⟩ := trodAll_nil r0
  obtain rfl : args = #[v0] := by cases args; simp_all
  obtain ⟨rfl, rfl⟩ := trodVars_none hV
  obtain ⟨cs, rfl, hcs⟩ := okWide_struct Tryd.underlying24 (hval 0 24 v0 rfl rfl)
  have k0 := h0
  have lt0 : ∀ x ∈ p0, x.block < W.heap.size := by obtain ⟨m, hm⟩ := k0; exact DataW.trod_lt m _ _ _ hm
  obtain ⟨fuel, hf⟩ := h0
  obtain ⟨x, hK, hs⟩ := opensChg 0 enc W 0 (fun _ => true) true fuel _ _ hf
  obtain ⟨v3, v4, hc, i3, i4⟩ := kChg_cells hK
  have hcs2 : cs = #[.string x.name, .int .i64 x.old, .int .i64 x.new, v3, v4] := by
    apply Array.toList_inj.1
    simpa [Value.cells] using hc
  subst hcs2
  obtain ⟨a0, a1, a2, a3, a4⟩ := hs
  clear hA0 hval0
  refine (lawLine x v3 v4 W i3 i4 ⟨a0, a1, a2, fun l hl => (a3 l hl).2, fun l hl => (a4 l hl).2⟩ hsh (Li.tab hL)).mono fun e W' ⟨he, bel⟩ => ?_
  subst he
  exact ⟨_, rfl, _, _, _, [], _, [], hW', trodAll_mk1 (shut_bool Tryd.underlying4 _), (trodAll_cons_mk (Below.trod Li.laidOut (by kernel_rfl) (of_decide_eq_true (by kernel_rfl)) k0 bel lt0) trodAll_mk0), rfl, bel.frame _, fun h => by cases h⟩
theorem Li.over : Rows.FnExactChangeLineSaid :=
  OpenClaim.holds_of_wide 3 Tryd.f3 rfl rfl rfl rfl rfl rfl rfl ⟨rfl, rfl, rfl, rfl, rfl⟩ rfl rfl rfl rfl rfl (by kernel_rfl) Tryd.func3 (by kernel_rfl)
    (of_decide_eq_true (by kernel_rfl)) (by unfold Func.isWrapper; first | (rw [if_pos (by decide +kernel)]; kernel_rfl) | (rw [if_neg (by decide +kernel)]; exact ⟨rfl, rfl⟩))
    (fun os started H enc _ => Li.lifted os started H enc)
end Go.Proofs.YtpoflmgncnngfaaDoor
