/- The laws' helpers at verdicts: sizes, copies, equality. -/
import Derived.Test.YtmjkjlifhlemlaaH4
set_option linter.unusedVariables false
set_option linter.unusedSimpArgs false
set_option maxRecDepth 100000
set_option maxHeartbeats 800000
namespace Go.Proofs.Ytmjkjlifhlemlaa.H
open Go.RowKit Go.Proofs.YtmjkjlifhlemlaaW.PrintWords Go.Proofs.YtmjkjlifhlemlaaW.PrintLast Go.Proofs.Ytmjkjlifhlemlaa.Base
theorem vd_at {T : Nat} {w : World} {A : Option Addr} {n : Nat} {xs done rest : List Vd} {x : Vd} (h : (kVd T).C w A n xs) (hx : xs = done ++ x :: rest) :
    ∃ ad v2, A = some ad ∧ w.cell? (ad.add (done.length * 4)) = some (.string x.name) ∧ w.cell? ⟨(ad.add (done.length * 4)).block, (ad.add (done.length * 4)).off + 1, none⟩ = some (.int .i64 x.code) ∧ w.cell? ⟨(ad.add (done.length * 4)).block, (ad.add (done.length * 4)).off + 2, none⟩ = some v2 ∧
      w.cell? ⟨(ad.add (done.length * 4)).block, (ad.add (done.length * 4)).off + 3, none⟩ = some (.int .i64 x.used) ∧ In kLbl w v2 x.labels := by
  obtain ⟨ad, c, e, _, hK, hc0⟩ := C_at h hx
  have hc : ∀ j u, c[j]? = some u → w.cell? (ad.add (done.length * 4 + j)) = some u := hc0
  obtain ⟨_, _, rfl, rfl, ⟨_, _, rfl, rfl, ⟨_, _, rfl, ⟨A3, c3, rfl, l3, g3⟩, rfl⟩⟩⟩ := hK
  exact ⟨ad, _, e, hc 0 _ rfl, by rw [← add_field _ _ 1 (by omega)]; exact hc 1 _ rfl, by rw [← add_field _ _ 2 (by omega)]; exact hc 2 _ rfl, by rw [← add_field _ _ 3 (by omega)]; exact hc 3 _ rfl, ⟨A3, c3, rfl, l3, g3⟩⟩
theorem kVd_M {T : Nat} {w : World} {base : Nat} {ok : Nat → Prop} {x : Vd} {v2 : Value} (h : kLbl.R T w base ok v2 x.labels) : (kVd T).M w base ok x [.string x.name, .int .i64 x.code, v2, .int .i64 x.used] :=
  ⟨[.string x.name], [.int .i64 x.code, v2, .int .i64 x.used], rfl, rfl, [.int .i64 x.code], [v2, .int .i64 x.used], rfl, rfl, [v2], [.int .i64 x.used], rfl, ⟨v2, rfl, h⟩, rfl⟩
theorem kVd_open {T : Nat} {w : World} {base : Nat} {ok : Nat → Prop} {x : Vd} {c : List Value} (h : (kVd T).M w base ok x c) : ∃ v2, c = [.string x.name, .int .i64 x.code, v2, .int .i64 x.used] ∧ kLbl.R T w base ok v2 x.labels := by
  obtain ⟨_, _, rfl, rfl, ⟨_, _, rfl, rfl, ⟨_, _, rfl, ⟨v2, rfl, h2⟩, rfl⟩⟩⟩ := h
  exact ⟨v2, rfl, h2⟩
theorem kVd_cells {T : Nat} {w : World} {x : Vd} {cs : List Value} (h : (kVd T).K w x cs) : ∃ v2, cs = [.string x.name, .int .i64 x.code, v2, .int .i64 x.used] ∧ In kLbl w v2 x.labels := by
  obtain ⟨_, _, rfl, rfl, ⟨_, _, rfl, rfl, ⟨_, _, rfl, ⟨A3, c3, rfl, l3, g3⟩, rfl⟩⟩⟩ := h
  exact ⟨_, rfl, ⟨A3, c3, rfl, l3, g3⟩⟩
theorem kVd_f0 {T : Nat} {w : World} {base : Nat} {x : Vd} (s : ByteArray) (ok : Nat → Prop) (c : List Value) (h : (kVd T).M w base ok x c) : (kVd T).M w base ok { x with name := s } (c.take 0 ++ [.string s] ++ c.drop 1) := by
  obtain ⟨v2, rfl, h2⟩ := kVd_open h
  exact kVd_M (x := { x with name := s }) h2
theorem kVd_f1 {T : Nat} {w : World} {base : Nat} {x : Vd} (s : Int) (ok : Nat → Prop) (c : List Value) (h : (kVd T).M w base ok x c) : (kVd T).M w base ok { x with code := s } (c.take 1 ++ [.int .i64 s] ++ c.drop 2) := by
  obtain ⟨v2, rfl, h2⟩ := kVd_open h
  exact kVd_M (x := { x with code := s }) h2
theorem kVd_f3 {T : Nat} {w : World} {base : Nat} {x : Vd} (s : Int) (ok : Nat → Prop) (c : List Value) (h : (kVd T).M w base ok x c) : (kVd T).M w base ok { x with used := s } (c.take 3 ++ [.int .i64 s] ++ c.drop 4) := by
  obtain ⟨v2, rfl, h2⟩ := kVd_open h
  exact kVd_M (x := { x with used := s }) h2
theorem Vd.eq_of {x y : Vd} : decide (x = y) = (decide (x.name = y.name) && decide (x.code = y.code) && decide (x.labels = y.labels) && decide (x.used = y.used)) := by cases x; cases y; simp [Bool.and_assoc]
def bulkV (x : Vd) : Int := x.name.size + (x.labels.length + bulkL x.labels)
def bulkVs : List Vd → Int
  | [] => 0
  | x :: r => bulkV x + bulkVs r
def Vd.wf (x : Vd) : Prop := strOk x.name ∧ i64 x.code ∧ (∀ l ∈ x.labels, strOk l.name) ∧ i64 x.used
theorem bulkV_0 (x : Vd) : 0 ≤ bulkV x := by have := bulkL_0 x.labels; unfold bulkV; omega
theorem bulkVs_0 : ∀ xs, 0 ≤ bulkVs xs
  | [] => by simp [bulkVs]
  | x :: r => by have := bulkVs_0 r; have := bulkV_0 x; simp [bulkVs]; omega
theorem szVerdict (x : Vd) (v2 : Value) (l : Int) (w : World) (h0 : 0 ≤ l) (h1 : l ≤ 1048576) (h2 : In kLbl w v2 x.labels) (hw : Vd.wf x) :
    Calls Try.prog 13 #[.agg #[.string x.name, .int .i64 x.code, v2, .int .i64 x.used], .int .i64 l] w fun e w' => e = .returned (.int .i64 (szl l (bulkV x))) ∧ Below w.heap.size w w' := by
  obtain ⟨hw0, -, hw3, -⟩ := hw
  unfold strOk at hw0
  have k2 := h2
  obtain ⟨A3, c3, rfl, -, -⟩ := k2
  have hq3 := bulkL_0 x.labels
  by_cases h : l - x.name.size < 0
  · have H := hid (show szl l (bulkV x) = -1 from szl_lt (by unfold bulkV; omega))
    go_enter Try.func13, Try.ntmps13
    go_wp2
    go_ret
    rw [H.out]
    exact ⟨rfl, bel⟩
  · go_enter Try.func13, Try.ntmps13
    go_wp2_with fail
    refine (szLabelS _ x.labels _ _ (by omega) (by omega) (In.below h2 bel) hw3).mono ?_
    rintro e w1 ⟨rfl, hb1⟩
    have hb1 : Below w.heap.size w w1 := hb1.after bel
    by_cases h' : l - x.name.size - (x.labels.length + bulkL x.labels) < 0
    · have H := hid (show szl l (bulkV x) = -1 from szl_lt (by unfold bulkV; omega))
      rw [szl_lt h']
      go_wp2
      go_ret
      rw [H.out]
      exact ⟨rfl, hb1⟩
    · have H := hid (show szl l (bulkV x) = _ from szl_ge (by unfold bulkV; omega))
      rw [szl_ge h']
      go_wp2
      go_ret
      rw [H.out]
      exact ⟨ret_int (by unfold bulkV; omega), hb1⟩
theorem szVerdictS (T : Nat) (v : Value) (xs : List Vd) (l : Int) (w : World) (h0 : 0 ≤ l) (h1 : l ≤ 1048576) (hx : In (kVd T) w v xs) (hs : ∀ x ∈ xs, Vd.wf x) :
    Calls Try.prog 4 #[v, .int .i64 l] w fun e w' => e = .returned (.int .i64 (szl l (xs.length + bulkVs xs))) ∧ Below w.heap.size w w' := by
  obtain ⟨A, c, rfl, hc, hC⟩ := hx
  have hm : xs.length ≤ 9223372036854775807 := hC.2.1
  have hq := bulkVs_0 xs
  by_cases h : l - xs.length < 0
  · have H := hid (show szl l (xs.length + bulkVs xs) = -1 from szl_lt (by omega))
    go_enter Try.func4, Try.ntmps4
    go_wp2
    go_ret
    rw [H.out]
    exact ⟨rfl, Below.refl _ _⟩
  · go_enter Try.func4, Try.ntmps4
    go_wp2
    go_loopw [1, 5] (fun vl vi wr => ∃ (done rest : List Vd) (m : Int), Hid (xs = done ++ rest) ∧ vl = .int .i64 m ∧ vi = .int .i64 done.length ∧ 0 ≤ m ∧ m ≤ 1048576 ∧ Hid (szl l (xs.length + bulkVs xs) = szl m (bulkVs rest)) ∧ Below w.heap.size w wr) (fun _ vi _ => xs.length - (intOf vi).toNat)
    case atStart => exact ⟨[], xs, l - xs.length, rfl, rfl, rfl, by omega, by omega, szl_eq (by omega), Below.refl _ _⟩
    case round =>
      obtain ⟨done, rest, m, hx, rfl, rfl, hm0, hm1, HH, hb⟩ := hrel
      cases rest with
      | nil =>
        have hlt : ¬ done.length < xs.length := by rw [hx.out]; simp
        go_wp2
        go_ret
        rw [HH.out]
        exact ⟨by simp [bulkVs, szl]; omega, hb⟩
      | cons x rest =>
        have hl : done.length < xs.length := by rw [hx.out]; simp
        have hq := bulkVs_0 rest
        obtain ⟨ad, v2, rfl, d0, d1, d2, d3, k2⟩ := vd_at (Kd.C_below hC hb) hx.out
        go_wp2_with fail
        refine (szVerdict x _ _ _ hm0 hm1 k2 (hs x (by rw [hx.out]; simp))).mono ?_
        rintro e w1 ⟨rfl, hb1⟩
        have hb2 := hb1.after hb
        by_cases h2 : m - bulkV x < 0
        · rw [szl_lt h2]
          have H3 := hid (show szl l (xs.length + bulkVs xs) = -1 by rw [HH.out]; exact szl_lt (by simp [bulkVs]; omega))
          go_wp2
          go_ret
          rw [H3.out]
          exact ⟨rfl, hb2⟩
        · rw [szl_ge h2]
          have H3 : Hid (szl l (xs.length + bulkVs xs) = szl (m - bulkV x) (bulkVs rest)) := by show szl l (xs.length + bulkVs xs) = _; rw [HH.out]; exact szl_eq (by simp [bulkVs]; omega)
          have hq2 := bulkV_0 x
          go_wp2
          go_roundw
          case rel => exact ⟨done ++ [x], rest, _, by rw [hx.out]; simp [Hid], rfl, by simp, by omega, by omega, H3, hb2⟩
          case measure => simp [intOf]; omega
theorem toVerdict (x : Vd) (v2 : Value) (w : World) (h2 : In kLbl w v2 x.labels) (l2 : x.labels.length ≤ 1048576) :
    Calls Try.prog 17 #[.agg #[.string x.name, .int .i64 x.code, v2, .int .i64 x.used]] w fun e w' => ∃ u2, e = .returned (.agg #[.string x.name, .int .i64 x.code, u2, .int .i64 x.used]) ∧ (kVd 62).M w' w.heap.size (fun _ => True) x [.string x.name, .int .i64 x.code, u2, .int .i64 x.used] ∧ Below w.heap.size w w' := by
  have k2 := h2
  obtain ⟨A3, c3, rfl, -, -⟩ := k2
  go_enter Try.func17, Try.ntmps17
  go_wp2_with fail
  refine (toLabelS _ x.labels _ (In.below h2 bel) l2).mono ?_
  rintro e w1 ⟨u3, rfl, ho3, hb1⟩
  obtain ⟨hc1, hf1⟩ := bcell hb1
  have hz1 : w.heap.size + 1 + 1 < w1.heap.size := by have := hb1.size; simp at this; omega
  have hz1a : w.heap.size + 1 < w1.heap.size := by omega
  have hz1b : w.heap.size < w1.heap.size := by omega
  have hb1 : Below w.heap.size w w1 := hb1.after bel
  have s3 := R_span (base := w.heap.size) ho3 (by simp <;> omega)
  simp only [World.size_alloc] at s3
  obtain ⟨A5, c5, rfl⟩ := Kd.R_slice ho3
  go_wp2
  refine bodyPost_ret (v := .agg #[.string x.name, .int .i64 x.code, .slice A5 x.labels.length c5, .int .i64 x.used]) (by simp [results, Try.results17, go_sem, *]) rfl ⟨_, rfl, kVd_M (Kd.R_mono (R_hold (N := w.heap.size + 1 + 1 + 1) s3 ab (fun k hk => hk.1)) (fun k hk => trivial)), bel⟩
theorem infoVd : (Try.prog.info? 40).map (fun i => (i.zero, i.size, i.bytes)) = some (some (.agg #[(.string ⟨#[]⟩), (.int .i64 0), (.slice none 0 0), (.int .i64 0)]), 4, 56) := by kernel_rfl
def zVd : Vd := ⟨⟨#[]⟩, 0, [], 0⟩
theorem zVd_M {T : Nat} {w : World} {base : Nat} {ok : Nat → Prop} : (kVd T).M w base ok zVd [.string ⟨#[]⟩, .int .i64 0, .slice none 0 0, .int .i64 0] := kVd_M (x := zVd) (Kd.R_nil _ _ _ _ _)
theorem toVerdictS (T : Nat) (v : Value) (xs : List Vd) (w : World) (hx : In (kVd T) w v xs) (hl : xs.length ≤ 1048576) (hi : ∀ x ∈ xs, x.labels.length ≤ 1048576) :
    Calls Try.prog 6 #[v] w fun e w' => ∃ v', e = .returned v' ∧ (kVd 62).S 40 w' w.heap.size (fun _ => True) v' xs ∧ Below w.heap.size w w' := by
  obtain ⟨A, c, rfl, hc, hC⟩ := hx
  go_enter Try.func6, Try.ntmps6
  go_wp2_with (refine Kd.S_make (kVd 62) _ 40 rfl (N := 7) rfl 26 _ _ rfl (xs.length : Int) rfl rfl Try.underlying26 (.agg #[(.string ⟨#[]⟩), (.int .i64 0), (.slice none 0 0), (.int .i64 0)]) 56 infoVd rfl (by decide) (by omega) zVd (ok := fun _ => True) (okp := fun _ => True) zVd_M (fun _ hk => hk) trivial (by omega) (by simp; omega) (Below.refl _ _) (Nat.le_refl _) ?_; intro v1 w1 ho hb hg hn; clear hg hn)
  simp only [Int.toNat_natCast] at ho
  obtain ⟨A1, c1, rfl⟩ := Kd.S_slice ho
  simp only [List.length_replicate] at ho ⊢
  go_loopw [4] (fun vi wr => ∃ done rest : List Vd, Hid (xs = done ++ rest) ∧ vi = .int .i64 done.length ∧ (kVd 62).S 40 wr w.heap.size (fun _ => True) (.slice A1 xs.length c1) (done ++ List.replicate rest.length zVd) ∧ Below w.heap.size w wr) (fun vi _ => xs.length - (intOf vi).toNat)
  case atStart => exact ⟨[], xs, rfl, rfl, ho, hb⟩
  case round =>
    clear ho hb
    obtain ⟨done, rest, hx, rfl, ho, hb⟩ := hrel
    cases rest with
    | nil =>
      have hlt : ¬ done.length < xs.length := by rw [hx.out]; simp
      have ho' := hid ho; clear ho
      go_wp2
      go_ret
      exact ⟨_, rfl, by have h1 := ho'.out; have h2 := hx.out; simp at h1 h2; rw [h2] at h1 ⊢; exact h1, hb⟩
    | cons x rest =>
      have hlt : done.length < xs.length := by rw [hx.out]; simp
      have hxi := hi x (by rw [hx.out]; simp)
      obtain ⟨ad, v2, rfl, d0, d1, d2, d3, k2⟩ := vd_at (Kd.C_below hC hb) hx.out
      obtain ⟨g, rfl, hg0, hg1⟩ := S_some ho
      have hbg := hb.size
      have ho' := hid ho; clear ho
      go_wp2_with fail
      refine (toVerdict x _ _ k2 hxi).mono ?_
      rintro e w2 ⟨u2, rfl, hM, hb2⟩
      have hb3 := hid (hb2.after hb)
      have ho2 := Kd.S_old ho'.out hb2
      obtain ⟨_, e4, ⟨A3, c3, rfl, -, -⟩⟩ := kVd_cells ((kVd 62).K_of_M hM)
      simp only [List.cons.injEq, true_and, and_true] at e4
      subst e4
      go_wp2_with (refine S_fill (kVd 62) (x' := x) 40 40 rfl rfl rfl rfl rfl rfl rfl (by kernel_rfl) ho2 (M_from hM hbg) hb3.out ?_; intro w3 ho3 hb4 hg3)
      go_roundw
      case rel => exact ⟨done ++ [x], rest, by rw [hx.out]; simp [Hid], by simp, by simpa using ho3, hb4⟩
      case measure => simp [intOf]; omega
theorem eqVerdict (x y : Vd) (v2 u2 : Value) (w : World) (h3 : In kLbl w v2 x.labels) (h5 : In kLbl w u2 y.labels) :
    Calls Try.prog 25 #[.agg #[.string x.name, .int .i64 x.code, v2, .int .i64 x.used], .agg #[.string y.name, .int .i64 y.code, u2, .int .i64 y.used]] w fun e w' => e = .returned (.bool (decide (x = y))) ∧ Below w.heap.size w w' := by
  have k3 := h3; have k5 := h5
  obtain ⟨A3, c3, rfl, -, -⟩ := k3
  obtain ⟨A5, c5, rfl, -, -⟩ := k5
  rw [Vd.eq_of]
  go_enter Try.func25, Try.ntmps25
  go_wp2_with fail
  all_goals try (go_ret; exact ⟨ret_bool (by simp_all [str_beq]), bel⟩)
  refine (eqLabelS _ _ x.labels y.labels _ (In.below h3 bel) (In.below h5 bel)).mono ?_
  rintro e w1 ⟨rfl, hb1⟩
  obtain ⟨hc1, hf1⟩ := bcell hb1
  have hz1 : w.heap.size + 1 < w1.heap.size := by have := hb1.size; simp at this; omega
  have hz1a : w.heap.size < w1.heap.size := by omega
  have hb1 : Below w.heap.size w w1 := hb1.after bel
  by_cases h : x.labels = y.labels
  · rw [decide_eq_true h]
    have H := hid h; clear h
    go_wp2_with fail
    all_goals
      go_ret
      exact ⟨ret_bool (by have := H.out; simp_all [str_beq]), hb1⟩
  · rw [decide_eq_false h]
    go_wp2
    go_ret
    exact ⟨ret_bool (by simp_all [str_beq]), hb1⟩
theorem eqVerdictS (S T : Nat) (u v : Value) (xs ys : List Vd) (w : World) (hx : In (kVd S) w u xs) (hy : In (kVd T) w v ys) :
    Calls Try.prog 9 #[u, v] w fun e w' => e = .returned (.bool (decide (xs = ys))) ∧ Below w.heap.size w w' := by
  obtain ⟨A, c, rfl, hc, hC⟩ := hx
  obtain ⟨A', c', rfl, hc', hC'⟩ := hy
  have hm := hC.2.1
  by_cases hl : xs.length = ys.length
  · have hl' : ((xs.length : Int) != ys.length) = false := by simp; omega
    have hL := hid hl; clear hl
    go_enter Try.func9, Try.ntmps9
    go_wp2
    go_loopw [5] (fun vi wr => ∃ (done rest rest2 : List Vd), Hid (xs = done ++ rest) ∧ Hid (ys = done ++ rest2) ∧ vi = .int .i64 done.length ∧ Below w.heap.size w wr) (fun vi _ => xs.length - (intOf vi).toNat)
    case atStart => exact ⟨[], xs, ys, rfl, rfl, rfl, Below.refl _ _⟩
    case round =>
      obtain ⟨done, rest, rest2, hx, hy, rfl, hb⟩ := hrel
      cases rest with
      | nil =>
        have hlt : ¬ done.length < xs.length := by rw [hx.out]; simp
        go_wp2
        go_ret
        exact ⟨ret_bool (by
          have h1 := hx.out; have h2 := hy.out; simp at h1
          subst h1
          have hl := hL.out
          rw [h2] at hl
          have : rest2 = [] := by simpa using hl
          subst this
          simpa using h2.symm), hb⟩
      | cons x rest =>
        cases rest2 with
        | nil => exact absurd hL.out (by rw [hx.out, hy.out]; simp)
        | cons y rest2 =>
          have hlt : done.length < xs.length := by rw [hx.out]; simp
          have hlt2 : done.length < ys.length := by rw [hy.out]; simp
          obtain ⟨ad, v2, rfl, d0, d1, d2, d3, k3⟩ := vd_at (Kd.C_below hC hb) hx.out
          obtain ⟨ad', u2, rfl, e0, e1, e2, e3, k5⟩ := vd_at (Kd.C_below hC' hb) hy.out
          go_wp2_with fail
          go_still_tail 8, (by kernel_rfl)
          change wpList _ _ _ _ _ wr.drew
          go_wp2_with fail
          refine (eqVerdict x y _ _ _ (k3.below bel) (k5.below bel)).mono ?_
          rintro e w1 ⟨rfl, hb1⟩
          have hb2 := hb1.after hb.drew
          by_cases h : x = y
          · subst h
            rw [decide_eq_true rfl]
            go_wp2
            go_roundw
            case rel => exact ⟨done ++ [x], rest, rest2, by rw [hx.out]; simp [Hid], by rw [hy.out]; simp [Hid], by simp, hb2⟩
            case measure => simp [intOf]; omega
          · rw [decide_eq_false h]
            go_wp2
            go_ret
            exact ⟨ret_bool (by symm; apply decide_eq_false; rw [hx.out, hy.out]; simp [h]), hb2⟩
  · have hl' : ((xs.length : Int) != ys.length) = true := by simp; omega
    go_enter Try.func9, Try.ntmps9
    go_wp2
    go_ret
    exact ⟨ret_bool (by simp; intro h; exact hl (by rw [h])), bel⟩
end Go.Proofs.Ytmjkjlifhlemlaa.H
