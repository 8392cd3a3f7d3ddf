/- The line of a change, the reference's and the program's. -/
import Derived.Test.YtpoflmgncnngfaaDoorN6
import Derived.Lib.LaidTab
import Derived.Lib.ItoaMem
import Derived.Lib.AppendIntMem
import Derived.Test.YtpoflmgncnngfaaDoorH4
set_option linter.unusedVariables false
set_option linter.unusedSimpArgs false
set_option maxRecDepth 100000
set_option maxHeartbeats 1000000
namespace Go.Proofs.YtpoflmgncnngfaaDoor.H
open Go.RowKit Go.Proofs.YtpoflmgncnngfaaDoorW.PrintWords Go.Proofs.YtpoflmgncnngfaaDoorW.PrintLast Go.Proofs.YtpoflmgncnngfaaDoor.Base
def chgLine (x : Chg) : ByteArray := x.name ++ ⟨#[32]⟩ ++ dec x.old ++ ⟨#[32]⟩ ++ dec x.new ++ ⟨#[32, 43]⟩ ++ lblsText x.more ++ ⟨#[32, 45]⟩ ++ lblsText x.less
theorem nDigits_le : ∀ (k u : Nat), u < 10 ^ (k + 1) → Lib.nDigits u ≤ k + 1
  | 0, u, h => by rw [Lib.nDigits_small (by simpa using h)]; exact Nat.le_refl _
  | k + 1, u, h => by
      by_cases h1 : u < 10
      · rw [Lib.nDigits_small h1]; omega
      · rw [Lib.nDigits_big h1]
        have := nDigits_le k (u / 10) (by rw [Nat.pow_succ] at h; omega)
        omega
theorem dec_size {n : Int} (h : i64 n) : (dec n).size ≤ 20 := by
  obtain ⟨h0, h1⟩ := h
  have hz : (dec n).size = (Lib.itoa n).length := size_of (s := dec n) rfl
  rw [hz]
  unfold Lib.itoa
  split
  · rw [List.length_cons, Lib.decDigits_length]
    have := nDigits_le 18 n.natAbs (by omega)
    omega
  · rw [Lib.decDigits_length]
    have := nDigits_le 18 n.toNat (by omega)
    omega
theorem _root_.Go.Lib.TabIs.below {P : Program} {w w1 : World} {name : String} {k : IntKind} {zs : List Int} (h : Lib.TabIs P w name k zs) (hb : Below w.heap.size w w1) : Lib.TabIs P w1 name k zs := by
  unfold Lib.TabIs World.var? at *
  cases hg : P.globalNamed name with
  | none => simp [hg] at h
  | some g =>
    simp only [hg, Option.bind_some] at h ⊢
    have hlt : g < w.heap.size := by
      rcases Nat.lt_or_ge g w.heap.size with h' | h'
      · exact h'
      · rw [Array.getElem?_eq_none h'] at h; simp at h
    rw [hb.block g hlt]
    exact h
theorem implDecimal (n : Int) (w : World) (hn : i64 n) (htab : Lib.TabIs Tryd.prog w "internal/strconv.uint64pow10" .u64 Lib.pow10Tab) :
    Calls Tryd.prog 13 #[.int .i64 n] w fun e w' => e = .returned (.string (dec n)) ∧ Below w.heap.size w w' := by
  go_enter Tryd.func13, Tryd.ntmps13
  go_wp2_with fail
  refine (Tryd.strconv_Itoa n hn.1 hn.2 _ htab).mono ?_
  rintro e w1 ⟨rfl, k, os, rfl⟩
  have hb := Lib.below_grow w.heap.size w (Nat.le_refl _) k os
  generalize Sort.grow (w.drewN k) os = w1 at *
  go_wp2_with fail
  go_ret
  exact ⟨rfl, hb⟩
theorem specLine (x : Chg) (v3 v4 : Value) (w : World) (h3 : In kLbl w v3 x.more) (h4 : In kLbl w v4 x.less) (hw : Chg.wf x) (hn : x.name.size ≤ 1048576) (l3 : x.more.length ≤ 1048576) (l4 : x.less.length ≤ 1048576) :
    Calls Tryd.prog 5 #[.agg #[.string x.name, .int .i64 x.old, .int .i64 x.new, v3, v4]] w fun e w' => e = .returned (.string (chgLine x)) ∧ Below w.heap.size w w' := by
  obtain ⟨hw0, hw1, hw2, hw3, hw4⟩ := hw
  have k3 := h3; have k4 := h4
  obtain ⟨A3, c3, rfl, -, -⟩ := k3
  obtain ⟨A4, c4, rfl, -, -⟩ := k4
  have s1 := dec_size hw1
  have s2 := dec_size hw2
  have s3 := lblsText_size x.more
  have s4 := lblsText_size x.less
  have f1 : ¬ (9223372036854775807 < x.name.size + 1) := by omega
  have f2 : ¬ (9223372036854775807 < x.name.size + 1 + (dec x.old).size) := by omega
  have f3 : ¬ (9223372036854775807 < x.name.size + 1 + (dec x.old).size + 1) := by omega
  have f4 : ¬ (9223372036854775807 < x.name.size + 1 + (dec x.old).size + 1 + (dec x.new).size) := by omega
  have f5 : ¬ (9223372036854775807 < x.name.size + 1 + (dec x.old).size + 1 + (dec x.new).size + 2) := by omega
  have f6 : ¬ (9223372036854775807 < x.name.size + 1 + (dec x.old).size + 1 + (dec x.new).size + 2 + (lblsText x.more).size) := by omega
  have f7 : ¬ (9223372036854775807 < x.name.size + 1 + (dec x.old).size + 1 + (dec x.new).size + 2 + (lblsText x.more).size + 2) := by omega
  have f8 : ¬ (9223372036854775807 < x.name.size + 1 + (dec x.old).size + 1 + (dec x.new).size + 2 + (lblsText x.more).size + 2 + (lblsText x.less).size) := by omega
  clear s1 s2 s3 s4
  go_enter Tryd.func5, Tryd.ntmps5
  go_wp2_with fail
  go_region_held3 (fun w' => Below w.heap.size w w' ∧ w'.cell? ⟨w.heap.size, 0, none⟩ = some (.string x.name) ∧ w'.cell? ⟨w.heap.size, 1, none⟩ = some (.int .i64 x.old) ∧ w'.cell? ⟨w.heap.size, 2, none⟩ = some (.int .i64 x.new) ∧ w'.cell? ⟨w.heap.size, 3, none⟩ = some (.slice A3 x.more.length c3) ∧ w'.cell? ⟨w.heap.size, 4, none⟩ = some (.slice A4 x.less.length c4))
    (first | exact ⟨bel, by assumption, by assumption, by assumption, by assumption, by assumption⟩ | (refine ⟨bel, ?_, ?_, ?_, ?_, ?_⟩ <;> go_keep) | go_keep)
    (first
      | (go_at_call 10; refine (specDecimal _ _ (by assumption)).mono ?_; rintro e w2 ⟨rfl, hb2⟩; have hb9 : Below w.heap.size w w2 := hb2.after bel; have e0 := pw_cell_below hb2 (show World.cell? _ ⟨w.heap.size, 0, none⟩ = some (Value.string x.name) by first | assumption | simp); have e1 := pw_cell_below hb2 (show World.cell? _ ⟨w.heap.size, 1, none⟩ = some (Value.int .i64 x.old) by first | assumption | simp); have e2 := pw_cell_below hb2 (show World.cell? _ ⟨w.heap.size, 2, none⟩ = some (Value.int .i64 x.new) by first | assumption | simp); have e3 := pw_cell_below hb2 (show World.cell? _ ⟨w.heap.size, 3, none⟩ = some (Value.slice A3 x.more.length c3) by first | assumption | simp); have e4 := pw_cell_below hb2 (show World.cell? _ ⟨w.heap.size, 4, none⟩ = some (Value.slice A4 x.less.length c4) by first | assumption | simp))
      | (go_at_call_of 11 (Value.slice A3 x.more.length c3); refine (specLbls _ x.more _ (In.below h3 bel) hw3 l3).mono ?_; rintro e w2 ⟨rfl, hb2⟩; have hb9 : Below w.heap.size w w2 := hb2.after bel; have e0 := pw_cell_below hb2 (show World.cell? _ ⟨w.heap.size, 0, none⟩ = some (Value.string x.name) by first | assumption | simp); have e1 := pw_cell_below hb2 (show World.cell? _ ⟨w.heap.size, 1, none⟩ = some (Value.int .i64 x.old) by first | assumption | simp); have e2 := pw_cell_below hb2 (show World.cell? _ ⟨w.heap.size, 2, none⟩ = some (Value.int .i64 x.new) by first | assumption | simp); have e3 := pw_cell_below hb2 (show World.cell? _ ⟨w.heap.size, 3, none⟩ = some (Value.slice A3 x.more.length c3) by first | assumption | simp); have e4 := pw_cell_below hb2 (show World.cell? _ ⟨w.heap.size, 4, none⟩ = some (Value.slice A4 x.less.length c4) by first | assumption | simp))
      | (go_at_call_of 11 (Value.slice A4 x.less.length c4); refine (specLbls _ x.less _ (In.below h4 bel) hw4 l4).mono ?_; rintro e w2 ⟨rfl, hb2⟩; have hb9 : Below w.heap.size w w2 := hb2.after bel; have e0 := pw_cell_below hb2 (show World.cell? _ ⟨w.heap.size, 0, none⟩ = some (Value.string x.name) by first | assumption | simp); have e1 := pw_cell_below hb2 (show World.cell? _ ⟨w.heap.size, 1, none⟩ = some (Value.int .i64 x.old) by first | assumption | simp); have e2 := pw_cell_below hb2 (show World.cell? _ ⟨w.heap.size, 2, none⟩ = some (Value.int .i64 x.new) by first | assumption | simp); have e3 := pw_cell_below hb2 (show World.cell? _ ⟨w.heap.size, 3, none⟩ = some (Value.slice A3 x.more.length c3) by first | assumption | simp); have e4 := pw_cell_below hb2 (show World.cell? _ ⟨w.heap.size, 4, none⟩ = some (Value.slice A4 x.less.length c4) by first | assumption | simp)))
  have hb8 : Below w.heap.size w _ := And.left (by assumption)
  go_wp2
  go_ret
  exact ⟨rfl, hb8⟩
theorem implLine (x : Chg) (v3 v4 : Value) (w : World) (h3 : In kLbl w v3 x.more) (h4 : In kLbl w v4 x.less) (hw : Chg.wf x) (hn : x.name.size ≤ 1048576) (l3 : x.more.length ≤ 1048576) (l4 : x.less.length ≤ 1048576) (hsh : w.ShapedOpen Tryd.prog) (htab : Lib.TabIs Tryd.prog w "internal/strconv.uint64pow10" .u64 Lib.pow10Tab) :
    Calls Tryd.prog 7 #[.agg #[.string x.name, .int .i64 x.old, .int .i64 x.new, v3, v4]] w fun e w' => e = .returned (.string (chgLine x)) ∧ Below w.heap.size w w' := by
  obtain ⟨hw0, hw1, hw2, hw3, hw4⟩ := hw
  have k3 := h3; have k4 := h4
  obtain ⟨A3, c3, rfl, -, -⟩ := k3
  obtain ⟨A4, c4, rfl, -, -⟩ := k4
  have s1 := dec_size hw1
  have s2 := dec_size hw2
  have s3 := lblsText_size x.more
  have s4 := lblsText_size x.less
  have f1 : ¬ (9223372036854775807 < x.name.size + 1) := by omega
  have f2 : ¬ (9223372036854775807 < x.name.size + 1 + (dec x.old).size) := by omega
  have f3 : ¬ (9223372036854775807 < x.name.size + 1 + (dec x.old).size + 1) := by omega
  have f4 : ¬ (9223372036854775807 < x.name.size + 1 + (dec x.old).size + 1 + (dec x.new).size) := by omega
  have f5 : ¬ (9223372036854775807 < x.name.size + 1 + (dec x.old).size + 1 + (dec x.new).size + 2) := by omega
  have f6 : ¬ (9223372036854775807 < x.name.size + 1 + (dec x.old).size + 1 + (dec x.new).size + 2 + (lblsText x.more).size) := by omega
  have f7 : ¬ (9223372036854775807 < x.name.size + 1 + (dec x.old).size + 1 + (dec x.new).size + 2 + (lblsText x.more).size + 2) := by omega
  have f8 : ¬ (9223372036854775807 < x.name.size + 1 + (dec x.old).size + 1 + (dec x.new).size + 2 + (lblsText x.more).size + 2 + (lblsText x.less).size) := by omega
  clear s1 s2 s3 s4
  go_enter Tryd.func7, Tryd.ntmps7
  go_wp2_with fail
  go_region_held3 (fun w' => Below w.heap.size w w' ∧ w'.cell? ⟨w.heap.size, 0, none⟩ = some (.string x.name) ∧ w'.cell? ⟨w.heap.size, 1, none⟩ = some (.int .i64 x.old) ∧ w'.cell? ⟨w.heap.size, 2, none⟩ = some (.int .i64 x.new) ∧ w'.cell? ⟨w.heap.size, 3, none⟩ = some (.slice A3 x.more.length c3) ∧ w'.cell? ⟨w.heap.size, 4, none⟩ = some (.slice A4 x.less.length c4))
    (first | exact ⟨bel, by assumption, by assumption, by assumption, by assumption, by assumption⟩ | (refine ⟨bel, ?_, ?_, ?_, ?_, ?_⟩ <;> go_keep) | go_keep)
    (first
      | (go_at_call 13; refine (implDecimal _ _ (by assumption) (htab.below bel)).mono ?_; rintro e w2 ⟨rfl, hb2⟩; have hb9 : Below w.heap.size w w2 := hb2.after bel; have e0 := pw_cell_below hb2 (show World.cell? _ ⟨w.heap.size, 0, none⟩ = some (Value.string x.name) by first | assumption | simp); have e1 := pw_cell_below hb2 (show World.cell? _ ⟨w.heap.size, 1, none⟩ = some (Value.int .i64 x.old) by first | assumption | simp); have e2 := pw_cell_below hb2 (show World.cell? _ ⟨w.heap.size, 2, none⟩ = some (Value.int .i64 x.new) by first | assumption | simp); have e3 := pw_cell_below hb2 (show World.cell? _ ⟨w.heap.size, 3, none⟩ = some (Value.slice A3 x.more.length c3) by first | assumption | simp); have e4 := pw_cell_below hb2 (show World.cell? _ ⟨w.heap.size, 4, none⟩ = some (Value.slice A4 x.less.length c4) by first | assumption | simp))
      | (go_at_call_of 14 (Value.slice A3 x.more.length c3); refine (implLbls _ x.more _ (In.below h3 bel) hw3 l3 (hsh.below bel)).mono ?_; rintro e w2 ⟨rfl, hb2⟩; have hb9 : Below w.heap.size w w2 := hb2.after bel; have e0 := pw_cell_below hb2 (show World.cell? _ ⟨w.heap.size, 0, none⟩ = some (Value.string x.name) by first | assumption | simp); have e1 := pw_cell_below hb2 (show World.cell? _ ⟨w.heap.size, 1, none⟩ = some (Value.int .i64 x.old) by first | assumption | simp); have e2 := pw_cell_below hb2 (show World.cell? _ ⟨w.heap.size, 2, none⟩ = some (Value.int .i64 x.new) by first | assumption | simp); have e3 := pw_cell_below hb2 (show World.cell? _ ⟨w.heap.size, 3, none⟩ = some (Value.slice A3 x.more.length c3) by first | assumption | simp); have e4 := pw_cell_below hb2 (show World.cell? _ ⟨w.heap.size, 4, none⟩ = some (Value.slice A4 x.less.length c4) by first | assumption | simp))
      | (go_at_call_of 14 (Value.slice A4 x.less.length c4); refine (implLbls _ x.less _ (In.below h4 bel) hw4 l4 (hsh.below bel)).mono ?_; rintro e w2 ⟨rfl, hb2⟩; have hb9 : Below w.heap.size w w2 := hb2.after bel; have e0 := pw_cell_below hb2 (show World.cell? _ ⟨w.heap.size, 0, none⟩ = some (Value.string x.name) by first | assumption | simp); have e1 := pw_cell_below hb2 (show World.cell? _ ⟨w.heap.size, 1, none⟩ = some (Value.int .i64 x.old) by first | assumption | simp); have e2 := pw_cell_below hb2 (show World.cell? _ ⟨w.heap.size, 2, none⟩ = some (Value.int .i64 x.new) by first | assumption | simp); have e3 := pw_cell_below hb2 (show World.cell? _ ⟨w.heap.size, 3, none⟩ = some (Value.slice A3 x.more.length c3) by first | assumption | simp); have e4 := pw_cell_below hb2 (show World.cell? _ ⟨w.heap.size, 4, none⟩ = some (Value.slice A4 x.less.length c4) by first | assumption | simp)))
  have hb8 : Below w.heap.size w _ := And.left (by assumption)
  go_wp2
  go_ret
  exact ⟨rfl, hb8⟩
end Go.Proofs.YtpoflmgncnngfaaDoor.H
