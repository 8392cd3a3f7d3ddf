/- The text of a list of labels, the reference's and the program's. -/
import Derived.Test.YtpoflmgncnngfaaDoorN5
import Derived.Lib.Join
set_option linter.unusedVariables false
set_option linter.unusedSimpArgs false
set_option maxRecDepth 100000
set_option maxHeartbeats 400000
namespace Go.Proofs.YtpoflmgncnngfaaDoor.H
open Go.RowKit Go.Proofs.YtpoflmgncnngfaaDoorW.PrintWords Go.Proofs.YtpoflmgncnngfaaDoorW.PrintLast Go.Proofs.YtpoflmgncnngfaaDoor.Base
def joinC (ts : List ByteArray) : ByteArray := bytesOf (Lib.join (ts.map (·.data.toList)) [44])
theorem joinC_nil : joinC [] = ⟨#[]⟩ := rfl
theorem joinC_one (t : ByteArray) : joinC [t] = t := by unfold joinC; rw [List.map_singleton, Lib.join_one]; rfl
theorem joinC_snoc (ts : List ByteArray) (t : ByteArray) (h : ts ≠ []) : joinC (ts ++ [t]) = joinC ts ++ ⟨#[44]⟩ ++ t := by
  cases ts with
  | nil => exact absurd rfl h
  | cons u r =>
    unfold joinC
    rw [List.cons_append, List.map_cons, List.map_cons, Lib.join_cons, Lib.join_cons, List.map_append, Lib.joinTail, Lib.joinTail, List.map_append, List.flatten_append]
    simp only [List.map_cons, List.map_nil, List.flatten_cons, List.flatten_nil, List.append_nil]
    rw [← List.append_assoc, bytesOf_app, bytesOf_app, bytesOf_app [44], ByteArray.append_assoc, ByteArray.append_assoc, ByteArray.append_assoc]
    rfl
theorem joinC_size : ∀ (n : Nat) (ts : List ByteArray), ts.length = n → (∀ t ∈ ts, t.size ≤ 47) → (joinC ts).size ≤ 48 * ts.length
  | 0, ts, h, _ => by rw [List.eq_nil_of_length_eq_zero h]; decide
  | n + 1, ts, h, hs => by
      obtain ⟨ds, t, rfl⟩ : ∃ ds t, ts = ds ++ [t] := ⟨ts.dropLast, ts.getLast (by intro e; rw [e] at h; simp at h), (List.dropLast_concat_getLast _).symm⟩
      have ht := hs t (by simp)
      have ih := joinC_size n ds (by simpa using h) (fun x hx => hs x (by simp [hx]))
      by_cases hd : ds = []
      · subst hd; rw [List.nil_append, joinC_one]; simp; omega
      · rw [joinC_snoc _ _ hd, ByteArray.size_append, ByteArray.size_append, List.length_append]
        show _ + 1 + _ ≤ 48 * (_ + 1)
        omega
theorem joinC_pos {ts : List ByteArray} (h : ts ≠ []) (hp : ∀ t ∈ ts, 0 < t.size) : 0 < (joinC ts).size := by
  obtain ⟨ds, t, rfl⟩ : ∃ ds t, ts = ds ++ [t] := ⟨ts.dropLast, ts.getLast h, (List.dropLast_concat_getLast _).symm⟩
  have ht := hp t (by simp)
  by_cases hd : ds = []
  · subst hd; rw [List.nil_append, joinC_one]; exact ht
  · rw [joinC_snoc _ _ hd, ByteArray.size_append]; omega
def told (xs : List Lbl) : List ByteArray := (xs.filter lblOk).map lblText
theorem told_yes {xs : List Lbl} {x : Lbl} (h : lblOk x = true) : told (xs ++ [x]) = told xs ++ [lblText x] := by unfold told; simp [h]
theorem told_no {xs : List Lbl} {x : Lbl} (h : lblOk x = false) : told (xs ++ [x]) = told xs := by unfold told; simp [h]
theorem told_size {xs : List Lbl} : ∀ t ∈ told xs, t.size ≤ 47 ∧ 0 < t.size := by
  intro t ht
  obtain ⟨l, hl, rfl⟩ := List.mem_map.1 ht
  have := (List.mem_filter.1 hl).2
  refine ⟨lblText_size this, ?_⟩
  unfold lblText
  rw [ByteArray.size_append, ByteArray.size_append]
  show 0 < _ + 1 + _
  omega
theorem told_len (xs : List Lbl) : (told xs).length ≤ xs.length := by unfold told; rw [List.length_map]; exact List.length_filter_le _ _
def lblsText (xs : List Lbl) : ByteArray := if told xs = [] then ⟨#[45]⟩ else joinC (told xs)
theorem infoB : (Tryd.prog.info? 5).map (fun i => (i.zero, i.size, i.bytes)) = some (some (.int .u8 0), 1, 1) := by kernel_rfl
theorem lblsText_size (xs : List Lbl) : (lblsText xs).size ≤ 48 * xs.length + 1 := by
  unfold lblsText
  split
  · show 1 ≤ _; omega
  · have := joinC_size _ (told xs) rfl (fun t ht => (told_size t ht).1)
    have := told_len xs
    omega
theorem R_strs {e : Nat} {w : World} {base : Nat} {ok : Nat → Prop} {v : Value} {xs : List ByteArray} (h : kS.R e w base ok v xs) (hne : xs ≠ []) :
    ∃ g cap, v = .slice (some ⟨g, 0, none⟩) xs.length cap ∧ g < w.heap.size ∧ xs.length ≤ cap ∧ ∀ (j : Nat) x, xs[j]? = some x → w.cell? ⟨g, 0 + j, none⟩ = some (.string x) := by
  have hp := List.length_pos_iff.2 hne
  obtain ⟨g, cap, rfl, h1, h2, _⟩ := Kd.R_form h hp
  obtain ⟨_, hc, hC⟩ := Kd.R_reads' h
  refine ⟨g, cap, rfl, h2, hc, fun j x hj => ?_⟩
  obtain ⟨_, _, hC2⟩ := hC
  obtain ⟨ad, hE, hC3⟩ := hC2 hp
  injection hE with hE
  subst hE
  obtain ⟨cs, _, hK, hcell⟩ := hC3 j x hj
  obtain rfl := hK
  have := hcell 0 _ rfl
  rw [Addr.add_lit] at this
  have h2 : w.cell? ⟨g, 0 + (j * 1 + 0), none⟩ = some (.string x) := this
  simpa using h2
theorem specLbls (v : Value) (xs : List Lbl) (w : World) (hx : In kLbl w v xs) (hs : ∀ x ∈ xs, strOk x.name) (hl : xs.length ≤ 1048576) :
    Calls Tryd.prog 11 #[v] w fun e w' => e = .returned (.string (lblsText xs)) ∧ Below w.heap.size w w' := by
  obtain ⟨A, c, rfl, hc, hC⟩ := hx
  have hk := fun (w : World) (base : Nat) (v : Value) (s : ByteArray) (h : BytesR 5 w base v s) => h.string (P := Tryd.prog) (src := 42) (dst := 9) Tryd.underlying42 Tryd.underlying5 Tryd.underlying9
  go_enter Tryd.func11, Tryd.ntmps11
  go_wp2_with fail
  go_loopw [3, 4, 5, 6] (fun vo vi _ _ wr => ∃ done rest : List Lbl, Hid (xs = done ++ rest) ∧ vi = .int .i64 done.length ∧ BytesR 5 wr w.heap.size vo (joinC (told done)) ∧ Below w.heap.size w wr) (fun _ vi _ _ _ => xs.length - (intOf vi).toNat)
  case atStart => exact ⟨[], xs, rfl, rfl, BytesR.empty _ _ (Nat.le_refl _), bel⟩
  case round =>
    obtain ⟨done, rest, hx, rfl, ho, hb⟩ := hrel
    have hbs := hb.size
    have hjs := joinC_size _ (told done) rfl (fun t ht => (told_size t ht).1)
    have htl := told_len done
    have hdx : done.length ≤ xs.length := by rw [hx.out]; simp
    cases rest with
    | nil =>
      have hlt : ¬ done.length < xs.length := by rw [hx.out]; simp
      have hd : done = xs := by rw [hx.out, List.append_nil]
      have hd' := hid hd
      clear hd
      obtain ⟨A1, c1, rfl⟩ := ho.len
      have hcv := hk _ _ _ _ ho
      by_cases ht : told done = []
      · have h0 : (joinC (told done)).size = 0 := by rw [ht]; rfl
        have hT := hid (show lblsText xs = ⟨#[45]⟩ by unfold lblsText; rw [← hd'.out, if_pos ht])
        have ht' := hid ht
        clear ht
        go_wp2_with fail
        go_ret
        exact ⟨ret_str hT.out.symm, hb⟩
      · have h0 : (((joinC (told done)).size : Int) == 0) = false := by have := joinC_pos ht (fun t ht => (told_size t ht).2); exact beq_eq_false_iff_ne.2 (by omega)
        have hT := hid (show lblsText xs = joinC (told done) by unfold lblsText; rw [← hd'.out, if_neg ht])
        have ht' := hid ht
        clear ht
        go_wp2_with fail
        go_ret
        exact ⟨ret_str hT.out.symm, hb⟩
    | cons x rest =>
      have hlt : done.length < xs.length := by rw [hx.out]; simp
      obtain ⟨ad, rfl, d0, d1⟩ := lbl_at (Kd.C_below hC hb) hx.out
      go_wp2_with fail
      refine (specLblText x _ (hs x (by rw [hx.out]; simp))).mono ?_
      rintro e w1 ⟨rfl, hb1⟩
      have ho := ho.below hb1
      have hb1' := hb1.after hb
      have hbs1 := hb1'.size
      obtain ⟨A1, c1, rfl⟩ := ho.len
      cases hok : lblOk x with
      | false =>
        have hT := hid (show lblTold x = ⟨#[]⟩ by unfold lblTold; rw [hok]; rfl)
        rw [hT.out]
        go_wp2_with (at_builtin; refine B_str (w0 := w) 42 9 5 rfl rfl Tryd.underlying42 Tryd.underlying9 infoB rfl rfl ho hb1' hbs1 (by show _ + 0 ≤ _; omega) ?_; intro v1 w2 ho1 hb2; clear ho)
        go_roundw
        case rel => exact ⟨done ++ [x], rest, hid (by rw [hx.out]; simp), by simp, by rw [told_no hok, ← app_nil (joinC (told done))]; exact ho1, hb2⟩
        case measure => simp [intOf]; omega
      | true =>
        have hT := hid (show lblTold x = lblText x by unfold lblTold; rw [hok]; rfl)
        rw [hT.out]
        have h47 := lblText_size hok
        by_cases ht : told done = []
        · have hj : joinC (told done) = ⟨#[]⟩ := by rw [ht]; rfl
          rw [hj] at ho
          have hg : (joinC (told done)).size = 0 := by rw [hj]; rfl
          have hN := hid (show joinC (told (done ++ [x])) = ⟨#[]⟩ ++ lblText x by rw [told_yes hok, ht, List.nil_append, joinC_one, nil_app])
          have hok' := hid hok
          clear ht hok hj
          go_wp2_with (at_builtin; refine B_str (w0 := w) 42 9 5 rfl rfl Tryd.underlying42 Tryd.underlying9 infoB rfl rfl ho hb1' hbs1 (by show 0 + _ ≤ _; omega) ?_; intro v1 w2 ho1 hb2; clear ho)
          go_roundw
          case rel => exact ⟨done ++ [x], rest, hid (by rw [hx.out]; simp), by simp, by rw [hN.out]; exact ho1, hb2⟩
          case measure => simp [intOf]; omega
        · have hg : (0 : Int) < (joinC (told done)).size := by have := joinC_pos ht (fun t ht => (told_size t ht).2); omega
          have hN := hid (show joinC (told (done ++ [x])) = joinC (told done) ++ ⟨#[44]⟩ ++ lblText x by rw [told_yes hok, joinC_snoc _ _ ht])
          have hok' := hid hok
          have ht' := hid ht
          clear ht hok
          go_wp2_with (first
            | (at_builtin; refine B_push (w0 := w) 42 5 rfl rfl Tryd.underlying42 infoB 44 rfl rfl ho hb1' hbs1 (by omega) ?_; intro v1 w2 ho1 hb2; clear ho; have hbs2 := hb2.size)
            | (at_builtin; refine B_str (w0 := w) 42 9 5 rfl rfl Tryd.underlying42 Tryd.underlying9 infoB rfl rfl ho1 hb2 hbs2 (by rw [ByteArray.size_append]; show _ + 1 + _ ≤ _; omega) ?_; intro v2 w3 ho2 hb3; clear ho1))
          go_roundw
          case rel => exact ⟨done ++ [x], rest, hid (by rw [hx.out]; simp), by simp, by rw [hN.out]; exact ho2, hb3⟩
          case measure => simp [intOf]; omega
theorem implLbls (v : Value) (xs : List Lbl) (w : World) (hx : In kLbl w v xs) (hs : ∀ x ∈ xs, strOk x.name) (hl : xs.length ≤ 1048576) (hsh : w.ShapedOpen Tryd.prog) :
    Calls Tryd.prog 14 #[v] w fun e w' => e = .returned (.string (lblsText xs)) ∧ Below w.heap.size w w' := by
  obtain ⟨A, c, rfl, hc, hC⟩ := hx
  go_enter Tryd.func14, Tryd.ntmps14
  go_wp2_with fail
  go_loopw [3, 5, 6, 7, 11] (fun vo _ _ _ vi wr => ∃ done rest : List Lbl, Hid (xs = done ++ rest) ∧ vi = .int .i64 done.length ∧ kS.R 9 wr w.heap.size (fun _ => True) vo (told done) ∧ Below w.heap.size w wr) (fun _ _ _ _ vi _ => xs.length - (intOf vi).toNat)
  case atStart => exact ⟨[], xs, rfl, rfl, R_empty _ _ _ (Nat.le_refl _), bel⟩
  case round =>
    obtain ⟨done, rest, hx, rfl, ho, hb⟩ := hrel
    have hbs := hb.size
    have hjs := joinC_size _ (told done) rfl (fun t ht => (told_size t ht).1)
    have htl := told_len done
    have hdx : done.length ≤ xs.length := by rw [hx.out]; simp
    cases rest with
    | nil =>
      have hlt : ¬ done.length < xs.length := by rw [hx.out]; simp
      have hd : done = xs := by rw [hx.out, List.append_nil]
      have hd' := hid hd
      clear hd
      have hIn := In.ofR ho
      obtain ⟨A1, c1, rfl, hc1, hC1⟩ := hIn
      by_cases ht : told done = []
      · have h0 : (told done).length = 0 := by rw [ht]; rfl
        have hT := hid (show lblsText xs = ⟨#[45]⟩ by unfold lblsText; rw [← hd'.out, if_pos ht])
        have ht' := hid ht
        clear ht
        go_wp2_with fail
        go_ret
        exact ⟨ret_str hT.out.symm, hb⟩
      · have h0 : (((told done).length : Int) == 0) = false := by have := List.length_pos_iff.2 ht; exact beq_eq_false_iff_ne.2 (by omega)
        have hT := hid (show lblsText xs = joinC (told done) by unfold lblsText; rw [← hd'.out, if_neg ht])
        have ht' := hid ht
        obtain ⟨g, cap, he, hg2, hcap, hcells⟩ := R_strs ho ht
        injection he with he1 he2 he3
        subst he1 he3
        have hsz : (Lib.join ((told done).map (·.data.toList)) [44]).length ≤ 140737488355328 := by
          have h2 : (joinC (told done)).size = (Lib.join ((told done).map (·.data.toList)) [44]).length := size_of (s := joinC (told done)) rfl
          omega
        clear ht
        go_wp2_with fail
        refine (Tryd.strings_Join g 0 c1 (told done) ⟨#[44]⟩ _ hcells hg2 (by omega) hcap hsz).mono ?_
        rintro e w1 ⟨rfl, hb1⟩
        go_wp2_with fail
        go_ret
        exact ⟨ret_str hT.out.symm, hb1.after hb⟩
    | cons x rest =>
      have hlt : done.length < xs.length := by rw [hx.out]; simp
      obtain ⟨ad, rfl, d0, d1⟩ := lbl_at (Kd.C_below hC hb) hx.out
      have p0 : (0 : Int) ≤ done.length := by omega
      have p1 : (done.length : Int) < xs.length := by omega
      go_wp2_with fail
      refine (implLblText x _ (hs x (by rw [hx.out]; simp)) (hsh.below (hb.alloc hbs _))).mono ?_
      rintro e w1 ⟨rfl, hb1⟩
      have hb1' : Below w.heap.size w w1 := hb1.after (hb.alloc hbs _)
      have ho := Kd.R_below (Kd.R_alloc ho _) hb1
      have hbs1 := hb1'.size
      cases hok : lblOk x with
      | false =>
        go_wp2_with fail
        go_roundw
        case rel => exact ⟨done ++ [x], rest, hid (by rw [hx.out]; simp), by simp, by rw [told_no hok]; exact ho, hb1'⟩
        case measure => simp [intOf]; omega
      | true =>
        have hT := hid (show lblTold x = lblText x by unfold lblTold; rw [hok]; rfl)
        rw [hT.out]
        go_wp2_with (at_builtin; refine R_push kS (w0 := w) 47 9 rfl rfl Tryd.underlying47 infoS rfl (by decide) (by decide) (lblText x) rfl rfl rfl ho hb1' hbs1 (by omega) ?_; intro v1 w2 ho1 hb2 hg1; clear ho)
        go_roundw
        case rel => exact ⟨done ++ [x], rest, hid (by rw [hx.out]; simp), by simp, by rw [told_yes hok]; exact ho1, hb2⟩
        case measure => simp [intOf]; omega
end Go.Proofs.YtpoflmgncnngfaaDoor.H
