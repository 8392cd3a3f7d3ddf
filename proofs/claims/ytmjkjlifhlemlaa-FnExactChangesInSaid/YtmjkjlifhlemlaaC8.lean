/- The reference's VerdictOf. -/
import Derived.Test.YtmjkjlifhlemlaaC7
import Derived.Test.YtmjkjlifhlemlaaV1
set_option linter.unusedVariables false
set_option linter.unusedSimpArgs false
set_option maxRecDepth 100000
set_option maxHeartbeats 2000000
namespace Go.Proofs.Ytmjkjlifhlemlaa.H
open Go.RowKit Go.Proofs.YtmjkjlifhlemlaaW.PrintWords Go.Proofs.YtmjkjlifhlemlaaW.PrintLast Go.Proofs.Ytmjkjlifhlemlaa.Base
def lastV (xs : List Vd) (s : ByteArray) : Option Vd := xs.reverse.find? (fun x => decide (x.name = s))
theorem lastV_none {xs : List Vd} {s : ByteArray} (h : ∀ d ∈ xs, d.name ≠ s) : lastV xs s = none := by
  unfold lastV
  rw [List.find?_eq_none]
  intro x hx
  simpa using h x (List.mem_reverse.1 hx)
theorem lastV_some {r done : List Vd} {x : Vd} {s : ByteArray} (h : ∀ d ∈ done, d.name ≠ s) (hx : x.name = s) : lastV (r ++ x :: done) s = some x := by
  unfold lastV
  rw [List.reverse_append, List.reverse_cons, List.append_assoc, List.find?_append]
  have h1 : done.reverse.find? (fun x => decide (x.name = s)) = none := by
    rw [List.find?_eq_none]
    intro y hy
    simpa using h y (List.mem_reverse.1 hy)
  rw [h1]
  simp [hx]
theorem lastV_mem {xs : List Vd} {s : ByteArray} {x : Vd} (h : lastV xs s = some x) : x ∈ xs := List.mem_reverse.1 (List.mem_of_find?_eq_some h)
theorem R_emptyAt {α : Type} (d : Kd α) (e : Nat) {W : World} {n : Nat} (hn : W.heap.size = n) : d.R e (W.alloc (.cells #[] e)) n (fun _ => True) (.slice (some ⟨n, 0, none⟩) 0 0) [] := by subst hn; exact R_empty d e W (Nat.le_refl _)
theorem below_allocAt {W : World} {n : Nat} (hn : W.heap.size = n) (o : Obj) : Below n W (W.alloc o) := by subst hn; exact below_alloc (Below.refl _ _) o
theorem two_boxes (w w1 : World) (a0 a1 a2 a3 b0 b1 b2 b3 : Value) (t : TypeId) (hb1 : Below (w.heap.size + 1 + 1) ((w.alloc (.cells #[a0, a1, a2, a3] t)).alloc (.cells #[b0, b1, b2, b3] t)) w1) :
    w1.cell? ⟨w.heap.size + 1, 0, none⟩ = some b0 ∧ w1.cell? ⟨w.heap.size + 1, 1, none⟩ = some b1 ∧ w1.cell? ⟨w.heap.size + 1, 2, none⟩ = some b2 ∧ w1.cell? ⟨w.heap.size + 1, 3, none⟩ = some b3 ∧
    w1.cell? ⟨w.heap.size, 0, none⟩ = some a0 ∧ w1.cell? ⟨w.heap.size, 1, none⟩ = some a1 ∧ w1.cell? ⟨w.heap.size, 2, none⟩ = some a2 ∧ w1.cell? ⟨w.heap.size, 3, none⟩ = some a3 ∧
    (∀ o, w1.frozen? ⟨w.heap.size + 1, o, none⟩ = false) ∧ (∀ o, w1.frozen? ⟨w.heap.size, o, none⟩ = false) ∧ w.heap.size + 1 < w1.heap.size ∧ Below w.heap.size w w1 := by
  have hs := hb1.size
  simp only [World.size_alloc] at hs
  replace hb1 : Below ((w.alloc (.cells #[a0, a1, a2, a3] t)).alloc (.cells #[b0, b1, b2, b3] t)).heap.size ((w.alloc (.cells #[a0, a1, a2, a3] t)).alloc (.cells #[b0, b1, b2, b3] t)) w1 := by simpa using hb1
  have hB : Below w.heap.size w w1 := hb1.after bel
  refine ⟨pw_cell_below hb1 (by simp), pw_cell_below hb1 (by simp), pw_cell_below hb1 (by simp), pw_cell_below hb1 (by simp), pw_cell_below hb1 (by simp), pw_cell_below hb1 (by simp), pw_cell_below hb1 (by simp), pw_cell_below hb1 (by simp), fun o => ?_, fun o => ?_, by omega, hB⟩
  · refine (hb1.frozen (p := ⟨w.heap.size + 1, o, none⟩) ?_).trans ?_
    · simp
    · simp
  · refine (hb1.frozen (p := ⟨w.heap.size, o, none⟩) ?_).trans ?_
    · simp; omega
    · simp
theorem specVerdictOf (T : Nat) (v : Value) (s : ByteArray) (xs : List Vd) (w : World) (hx : In (kVd T) w v xs) (hl : xs.length ≤ 1048576) (hi : ∀ x ∈ xs, x.labels.length ≤ 1048576) :
    Calls Try.prog 15 #[v, .string s] w fun e w' => ∃ v2, e = .returned (.tuple #[.agg #[.string ((lastV xs s).getD zVd).name, .int .i64 ((lastV xs s).getD zVd).code, v2, .int .i64 ((lastV xs s).getD zVd).used], .bool (lastV xs s).isSome]) ∧ kLbl.R 62 w' w.heap.size (fun _ => True) v2 ((lastV xs s).getD zVd).labels ∧ Below w.heap.size w w' := by
  obtain ⟨A, c, rfl, hc, hC⟩ := hx
  obtain ⟨L, hL⟩ : ∃ L, lastV xs s = L := ⟨_, rfl⟩
  rw [hL]
  replace hL := hid hL
  replace hC := Kd.C_alloc hC (Obj.cells #[.string ⟨#[]⟩, .int .i64 0, .slice none 0 0, .int .i64 0] 40)
  go_enter Try.func15, Try.ntmps15
  go_wp2_with fail
  go_loopg [6] xs.length (fun q vi wr => ∃ rest done : List Vd, q = rest.length ∧ Hid (xs = rest ++ done) ∧ vi = .int .i64 ((rest.length : Int) - 1) ∧ Hid (∀ d ∈ done, d.name ≠ s) ∧ wr = w.alloc (Obj.cells #[.string ⟨#[]⟩, .int .i64 0, .slice none 0 0, .int .i64 0] 40))
  case atStart => exact ⟨xs, [], rfl, hid (by simp), rfl, hid (fun d hd => by cases hd), rfl⟩
  case round =>
    obtain ⟨rest, done, rfl, hxs, rfl, hno, rfl⟩ := hrel
    rcases List.eq_nil_or_concat rest with rfl | ⟨r, x, rfl⟩
    · obtain rfl : L = none := by rw [← hL.out]; exact lastV_none (by rw [show xs = done by simpa using hxs.out]; exact hno.out)
      have q : ¬ ((0 : Int) ≤ -1) := by decide
      go_wp2_with fail
      refine bodyPost_ret (v := .tuple #[.agg #[.string ⟨#[]⟩, .int .i64 0, .slice none 0 0, .int .i64 0], .bool false]) (by simp [results, Try.results15, go_sem, *]) rfl ⟨_, rfl, Kd.R_nil _ _ _ _ _, bel⟩
    · rw [List.concat_eq_append] at hxs
      have hl1 : (r.concat x).length = r.length + 1 := by simp
      have hxs1 := hid (show xs = r ++ x :: done by rw [hxs.out]; simp)
      have hrl : r.length < xs.length := by rw [hxs1.out]; simp
      have hi1 := hi x (by rw [hxs1.out]; simp)
      obtain ⟨ad, v2, rfl, d0, d1, d2, d3, k2⟩ := vd_at hC hxs1.out
      have p0 : (0 : Int) ≤ r.length := by omega
      have p1 : (r.length : Int) < xs.length := by omega
      by_cases hn : x.name = s
      · obtain rfl : L = some x := by rw [← hL.out, hxs1.out]; exact lastV_some hno.out hn
        have t1 : (x.name.toList == s.toList) = true := by rw [str_beq, decide_eq_true hn]
        have k2' := k2
        obtain ⟨A3, c3, rfl, hc3, hC3⟩ := k2'
        have hn' := hid hn
        clear hn
        go_wp2_with (at_builtin; (
          refine R_rowsL 38 62 rfl rfl Try.underlying38 infoLbl rfl rfl rfl (R_emptyAt kLbl _ (by simp)) (Kd.C_below hC3 bel) (below_allocAt (by simp) _) (by simp) (by simp; omega) ?_
          intro v1 w1 ho1 hb1 hg1
          obtain ⟨b0, b1, b2, b3, r0, r1, r2, r3, hf1, hf0, hz3, hb2⟩ := two_boxes _ _ _ _ _ _ _ _ _ _ _ hb1
          have hR := hid ho1
          obtain ⟨A4, c4, rfl⟩ := Kd.R_slice ho1
          clear ho1 hg1 hb1))
        have hz2 : w.heap.size < w1.heap.size := by omega
        refine bodyPost_ret (v := .tuple #[.agg #[.string x.name, .int .i64 x.code, .slice A4 x.labels.length c4, .int .i64 x.used], .bool true]) (by simp [results, Try.results15, go_sem, *]) rfl ⟨_, rfl, Kd.R_lower (R_ab hR.out ab) (by omega), bel⟩
      · have t1 : (x.name.toList == s.toList) = false := by rw [str_beq, decide_eq_false hn]
        have hno' := hid (show ∀ d ∈ x :: done, d.name ≠ s by
          intro d hd
          rcases List.mem_cons.1 hd with rfl | hd
          · exact hn
          · exact hno.out d hd)
        clear hn
        go_wp2_with fail
        go_roundg r.length
        case measure => simp
        case rel => exact ⟨r, x :: done, rfl, hxs1, by simp, hno', rfl⟩
end Go.Proofs.Ytmjkjlifhlemlaa.H
