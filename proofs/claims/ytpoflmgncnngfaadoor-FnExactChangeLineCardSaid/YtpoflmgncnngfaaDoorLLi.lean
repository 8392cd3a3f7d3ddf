/- The law FnExactChangeLine walked: it answers true and leaves what was there. -/
import Derived.Test.YtpoflmgncnngfaaDoorN7
set_option linter.unusedVariables false
set_option linter.unusedSimpArgs false
set_option maxRecDepth 100000
set_option maxHeartbeats 1000000
namespace Go.Proofs.YtpoflmgncnngfaaDoor.H
open Go.RowKit Go.Proofs.YtpoflmgncnngfaaDoorW.PrintWords Go.Proofs.YtpoflmgncnngfaaDoorW.PrintLast Go.Proofs.YtpoflmgncnngfaaDoor.Base
def Box5 (w : World) (b : Nat) (a0 a1 a2 a3 a4 : Value) : Prop := w.cell? ⟨b, 0, none⟩ = some a0 ∧ w.cell? ⟨b, 1, none⟩ = some a1 ∧ w.cell? ⟨b, 2, none⟩ = some a2 ∧ w.cell? ⟨b, 3, none⟩ = some a3 ∧ w.cell? ⟨b, 4, none⟩ = some a4
theorem Box5.below {w w1 : World} {b : Nat} {a0 a1 a2 a3 a4 : Value} (h : Box5 w b a0 a1 a2 a3 a4) (hb : Below w.heap.size w w1) : Box5 w1 b a0 a1 a2 a3 a4 :=
  ⟨pw_cell_below hb h.1, pw_cell_below hb h.2.1, pw_cell_below hb h.2.2.1, pw_cell_below hb h.2.2.2.1, pw_cell_below hb h.2.2.2.2⟩
theorem Box5.mk (w : World) (t : TypeId) (a0 a1 a2 a3 a4 : Value) : Box5 (w.alloc (.cells #[a0, a1, a2, a3, a4] t)) w.heap.size a0 a1 a2 a3 a4 := by
  refine ⟨?_, ?_, ?_, ?_, ?_⟩ <;> simp
theorem lawLine (x : Chg) (v3 v4 : Value) (w : World) (h3 : In kLbl w v3 x.more) (h4 : In kLbl w v4 x.less) (hw : Chg.wf x) (hsh : w.ShapedOpen Tryd.prog) (htab : Lib.TabIs Tryd.prog w "internal/strconv.uint64pow10" .u64 Lib.pow10Tab) :
    Calls Tryd.prog 3 #[.agg #[.string x.name, .int .i64 x.old, .int .i64 x.new, v3, v4]] w fun e w' => e = .returned (.bool true) ∧ Below w.heap.size w w' := by
  go_enter Tryd.func3, Tryd.ntmps3
  go_wp2_with fail
  refine (szChange x v3 v4 1048576 _ (by decide) (by decide) (h3.below bel) (h4.below bel) hw).mono ?_
  rintro e w1 ⟨rfl, hb1⟩
  have hB := (Box5.mk _ _ _ _ _ _ _).below hb1
  have hb1' : Below w.heap.size w w1 := hb1.after bel
  have z1 : w.heap.size < w1.heap.size := by have := hb1.size; simp at this; omega
  clear hb1
  have hB1 := hB
  obtain ⟨c0, c1, c2, c3, c4⟩ := hB1
  have hB3 := bulkL_0 x.more
  have hB4 := bulkL_0 x.less
  by_cases hbig : (1048576 : Int) - bulkC x < 0
  · rw [szl_lt hbig]
    go_wp2_with fail
    go_ret
    exact ⟨rfl, bel⟩
  rw [szl_ge hbig]
  have hbx : bulkC x ≤ 1048576 := by omega
  have hbx' : (x.name.size : Int) + (x.more.length + bulkL x.more) + (x.less.length + bulkL x.less) ≤ 1048576 := hbx
  have l3 : x.more.length ≤ 1048576 := by omega
  have l4 : x.less.length ≤ 1048576 := by omega
  have l0 : x.name.size ≤ 1048576 := by omega
  have hq0 : ¬ ((1048576 : Int) - bulkC x) < 0 := hbig
  clear hbig hbx
  generalize (1048576 : Int) - bulkC x = q at *
  go_wp2_with fail
  refine (toChange x v3 v4 _ (h3.below bel) (h4.below bel) l3 l4).mono ?_
  rintro e w2 ⟨u3, u4, rfl, ho2, hb2⟩
  have hb2' : Below w.heap.size w w2 := hb2.after bel
  have hB := hB.below hb2
  have s2 := hb2.size
  obtain ⟨i3, i4⟩ := kChg_ins ho2
  clear c0 c1 c2 c3 c4
  go_wp2_with fail
  refine (specLine x u3 u4 _ i3 i4 hw l0 l3 l4).mono ?_
  rintro e w3 ⟨rfl, hb3⟩
  have hb3' : Below w.heap.size w w3 := hb3.after hb2'
  have hB := hB.below hb3
  have s3 := hb3.size
  have hB1 := hB
  obtain ⟨c0, c1, c2, c3, c4⟩ := hB1
  clear ho2 i3 i4
  go_wp2_with fail
  refine (toChange x v3 v4 _ (h3.below bel) (h4.below bel) l3 l4).mono ?_
  rintro e w4 ⟨y3, y4, rfl, ho4, hb4⟩
  have hb4' : Below w.heap.size w w4 := hb4.after hb3'
  obtain ⟨i3, i4⟩ := kChg_ins ho4
  have k3 := i3; have k4 := i4
  obtain ⟨A5, c5, rfl, -, -⟩ := k3
  obtain ⟨A6, c6, rfl, -, -⟩ := k4
  have s4 := hb4'.size
  have s4' := hb4.size
  have hB := hB.below hb4
  clear c0 c1 c2 c3 c4 ho4
  go_wp2_with fail
  refine (implLine x _ _ _ (i3.below bel) (i4.below bel) hw l0 l3 l4 (hsh.below bel) (htab.below bel)).mono ?_
  rintro e w5 ⟨rfl, hb5⟩
  have hX := (Box5.mk _ _ _ _ _ _ _).below hb5
  have hA : Below w4.heap.size w4 w5 := hb5.after bel
  have hB := hB.below hA
  have i3 := i3.below hA
  have i4 := i4.below hA
  have hb5' : Below w.heap.size w w5 := hA.after hb4'
  have s5 : w4.heap.size < w5.heap.size := by have := hb5.size; simp at this; omega
  have e1 : ((chgLine x).toList != (chgLine x).toList) = false := by simp
  obtain ⟨c0, c1, c2, c3, c4⟩ := hB
  obtain ⟨d0, d1, d2, d3, d4⟩ := hX
  clear hb5
  go_wp2_with fail
  go_region_held3 (fun w' => Below w5.heap.size w5 w' ∧ w'.cell? ⟨w.heap.size, 0, none⟩ = some (.string x.name) ∧ w'.cell? ⟨w.heap.size, 1, none⟩ = some (.int .i64 x.old) ∧ w'.cell? ⟨w.heap.size, 2, none⟩ = some (.int .i64 x.new) ∧ w'.cell? ⟨w.heap.size, 3, none⟩ = some v3 ∧ w'.cell? ⟨w.heap.size, 4, none⟩ = some v4 ∧ w'.cell? ⟨w4.heap.size, 0, none⟩ = some (.string x.name) ∧ w'.cell? ⟨w4.heap.size, 1, none⟩ = some (.int .i64 x.old) ∧ w'.cell? ⟨w4.heap.size, 2, none⟩ = some (.int .i64 x.new) ∧ w'.cell? ⟨w4.heap.size, 3, none⟩ = some (.slice A5 x.more.length c5) ∧ w'.cell? ⟨w4.heap.size, 4, none⟩ = some (.slice A6 x.less.length c6))
    (first | exact ⟨bel, by assumption, by assumption, by assumption, by assumption, by assumption, by assumption, by assumption, by assumption, by assumption, by assumption⟩ | (refine ⟨bel, ?_, ?_, ?_, ?_, ?_, ?_, ?_, ?_, ?_, ?_⟩ <;> go_keep) | go_keep)
    (first
      | (go_at_call 6; refine (toChange x v3 v4 _ (h3.below (Below.after (w := w) (W := w5) bel hb5')) (h4.below (Below.after (w := w) (W := w5) bel hb5')) l3 l4).mono ?_; rintro e w6 ⟨z3, z4, rfl, ho6, hb6⟩; have hb9 : Below w5.heap.size w5 w6 := hb6.after bel; obtain ⟨j3, j4⟩ := kChg_ins ho6; have e00 := pw_cell_below hb6 (show World.cell? _ ⟨w.heap.size, 0, none⟩ = some (Value.string x.name) by assumption); have e01 := pw_cell_below hb6 (show World.cell? _ ⟨w.heap.size, 1, none⟩ = some (Value.int .i64 x.old) by assumption); have e02 := pw_cell_below hb6 (show World.cell? _ ⟨w.heap.size, 2, none⟩ = some (Value.int .i64 x.new) by assumption); have e03 := pw_cell_below hb6 (show World.cell? _ ⟨w.heap.size, 3, none⟩ = some v3 by assumption); have e04 := pw_cell_below hb6 (show World.cell? _ ⟨w.heap.size, 4, none⟩ = some v4 by assumption); have e10 := pw_cell_below hb6 (show World.cell? _ ⟨w4.heap.size, 0, none⟩ = some (Value.string x.name) by assumption); have e11 := pw_cell_below hb6 (show World.cell? _ ⟨w4.heap.size, 1, none⟩ = some (Value.int .i64 x.old) by assumption); have e12 := pw_cell_below hb6 (show World.cell? _ ⟨w4.heap.size, 2, none⟩ = some (Value.int .i64 x.new) by assumption); have e13 := pw_cell_below hb6 (show World.cell? _ ⟨w4.heap.size, 3, none⟩ = some (Value.slice A5 x.more.length c5) by assumption); have e14 := pw_cell_below hb6 (show World.cell? _ ⟨w4.heap.size, 4, none⟩ = some (Value.slice A6 x.less.length c6) by assumption))
      | (go_at_call 8; refine (eqChange x x _ _ _ _ _ (i3.below bel) (i4.below bel) (In.below j3 bel) (In.below j4 bel)).mono ?_; rintro e w7 ⟨rfl, hb7⟩; have hb9 : Below w5.heap.size w5 w7 := hb7.after bel; have e00 := pw_cell_below hb7 (show World.cell? _ ⟨w.heap.size, 0, none⟩ = some (Value.string x.name) by assumption); have e01 := pw_cell_below hb7 (show World.cell? _ ⟨w.heap.size, 1, none⟩ = some (Value.int .i64 x.old) by assumption); have e02 := pw_cell_below hb7 (show World.cell? _ ⟨w.heap.size, 2, none⟩ = some (Value.int .i64 x.new) by assumption); have e03 := pw_cell_below hb7 (show World.cell? _ ⟨w.heap.size, 3, none⟩ = some v3 by assumption); have e04 := pw_cell_below hb7 (show World.cell? _ ⟨w.heap.size, 4, none⟩ = some v4 by assumption); have e10 := pw_cell_below hb7 (show World.cell? _ ⟨w4.heap.size, 0, none⟩ = some (Value.string x.name) by assumption); have e11 := pw_cell_below hb7 (show World.cell? _ ⟨w4.heap.size, 1, none⟩ = some (Value.int .i64 x.old) by assumption); have e12 := pw_cell_below hb7 (show World.cell? _ ⟨w4.heap.size, 2, none⟩ = some (Value.int .i64 x.new) by assumption); have e13 := pw_cell_below hb7 (show World.cell? _ ⟨w4.heap.size, 3, none⟩ = some (Value.slice A5 x.more.length c5) by assumption); have e14 := pw_cell_below hb7 (show World.cell? _ ⟨w4.heap.size, 4, none⟩ = some (Value.slice A6 x.less.length c6) by assumption)))
  have hb8 : Below w5.heap.size w5 _ := And.left (by assumption)
  have hb8' := hb8.after hb5'
  have hd : decide (x = x) = true := decide_eq_true rfl
  go_wp2
  go_ret
  exact ⟨rfl, hb8'⟩
end Go.Proofs.YtpoflmgncnngfaaDoor.H
