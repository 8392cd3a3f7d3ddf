/- slices.IndexFunc, DeleteFunc at labels; what one list lacks of another, the program's way. -/
import Derived.Test.YtmjkjlifhlemlaaC5
set_option linter.unusedVariables false
set_option linter.unusedSimpArgs false
set_option maxRecDepth 100000
set_option maxHeartbeats 2000000
namespace Go.Proofs.Ytmjkjlifhlemlaa.H
open Go.RowKit Go.Proofs.YtmjkjlifhlemlaaW.PrintWords Go.Proofs.YtmjkjlifhlemlaaW.PrintLast Go.Proofs.Ytmjkjlifhlemlaa.Base
theorem containsL (v : Value) (xs : List Lbl) (x : Lbl) (w : World) (hx : In kLbl w v xs) (hl : xs.length ≤ 4194304) :
    Calls Try.prog 40 #[v, .agg #[.int .i64 x.kind, .string x.name]] w fun e w' => e = .returned (.bool (xs.contains x)) ∧ Below w.heap.size w w' := by
  have kx := hx
  obtain ⟨A, c, rfl, -, -⟩ := kx
  go_enter Try.func40, Try.ntmps40
  go_wp2_with fail
  refine (indexL _ xs x _ (hx.below bel) hl).mono ?_
  rintro e w1 ⟨⟨i, rfl, hi⟩, hb1⟩
  have hb1' : Below w.heap.size w w1 := hb1.after bel
  replace hi := hid hi
  clear hb1
  go_wp2_with fail
  go_ret
  exact ⟨ret_bool (by rw [← hi.out]), hb1'⟩
/-- A test that a closure makes, in every world behind w0 that leaves what is below base. -/
def Tests (g : Nat) (cb : Array Value) (base : Nat) (w0 : World) (p : Lbl → Bool) : Prop :=
  ∀ (W : World) (x : Lbl), Below base w0 W → Calls Try.prog g (#[.agg #[.int .i64 x.kind, .string x.name]] ++ cb) W fun e w' => e = .returned (.bool (p x)) ∧ Below W.heap.size W w'
theorem indexFuncL (g : Nat) (cb : Array Value) (eg : ∀ args w, (callFunc g args).run Try.prog w = .ok (.enter g args) w) (p : Lbl → Bool) (v : Value) (xs : List Lbl) (base : Nat) (w0 w : World) (hp : Tests g cb base w0 p) (hx : In kLbl w v xs) (hl : xs.length ≤ 4194304) (hb0 : Below base w0 w) (hbs : base ≤ w.heap.size) :
    Calls Try.prog 47 #[v, .func (.func g) #[] cb] w fun e w' => (∃ i : Int, e = .returned (.int .i64 i) ∧ ((i = -1 ∧ xs.any p = false) ∨ ∃ done x rest, xs = done ++ x :: rest ∧ i = done.length ∧ done.any p = false ∧ p x = true)) ∧ Below w.heap.size w w' := by
  obtain ⟨A, c, rfl, hc, hC⟩ := hx
  go_enter Try.func47, Try.ntmps47
  go_wp2_with fail
  go_loopg [5, 8] xs.length (fun q v5 vi wr => ∃ done rest : List Lbl, q = rest.length ∧ Hid (xs = done ++ rest) ∧ vi = .int .i64 done.length ∧ Hid (done.any p = false) ∧ Below w.heap.size w wr)
  case atStart => exact ⟨[], xs, rfl, rfl, rfl, rfl, bel⟩
  case round =>
    obtain ⟨done, rest, rfl, hx, rfl, ho, hb⟩ := hrel
    cases rest with
    | nil =>
      have hlt : ¬ done.length < xs.length := by rw [hx.out]; simp
      go_wp2_with fail
      go_ret
      exact ⟨⟨-1, rfl, .inl ⟨rfl, by rw [hx.out, List.append_nil]; exact ho.out⟩⟩, hb⟩
    | cons x rest =>
      have hlt : done.length < xs.length := by rw [hx.out]; simp
      obtain ⟨ad, rfl, d0, d1⟩ := lbl_at (Kd.C_below hC hb) hx.out
      have hcall := hp wr x (hb0.trans (hb.mono hbs))
      have hp' := hid hp
      clear hp
      cases hpx : p x with
      | true =>
        rw [hpx] at hcall
        go_wp2_with (go_at_fn g; refine hcall.mono ?_; rintro e w2 ⟨rfl, hb2⟩)
        go_ret
        exact ⟨⟨_, rfl, .inr ⟨done, x, rest, hx.out, rfl, ho.out, hpx⟩⟩, hb2.after hb⟩
      | false =>
        rw [hpx] at hcall
        go_wp2_with (go_at_fn g; refine hcall.mono ?_; rintro e w2 ⟨rfl, hb2⟩)
        go_roundg rest.length
        case measure => simp
        case rel => exact ⟨done ++ [x], rest, rfl, hid (by rw [hx.out]; simp), by simp, hid (by simp [ho.out, hpx]), hb2.after hb⟩
theorem cells1 {e : Nat} {w : World} {base g n cap : Nat} {ok : Nat → Prop} {P rest : List Lbl} {x : Lbl} (h : kLbl.R e w base ok (.slice (some ⟨g, 0, none⟩) n cap) (P ++ x :: rest)) :
    w.cell? ⟨g, P.length * 2, none⟩ = some (.int .i64 x.kind) ∧ w.cell? ⟨g, P.length * 2 + 1, none⟩ = some (.string x.name) := by
  obtain ⟨A, c, hA, _, hC⟩ := In.ofR h
  obtain ⟨ad, rfl, a0, a1⟩ := lbl_at (done := P) (rest := rest) (x := x) hC rfl
  injection hA with hA1 _ _
  injection hA1 with hA1
  subst hA1
  simp only [Addr.add_lit, Nat.zero_add] at a0 a1
  exact ⟨a0, a1⟩
theorem deleteL (g : Nat) (cb : Array Value) (eg : ∀ args w, (callFunc g args).run Try.prog w = .ok (.enter g args) w) (p : Lbl → Bool) (v : Value) (xs : List Lbl) (base : Nat) (w0 w : World) (hp : Tests g cb base w0 p) (hx : kLbl.R 62 w base (fun _ => True) v xs) (hl : xs.length ≤ 4194304) (hb0 : Below base w0 w) (hbs : base ≤ w.heap.size) :
    Calls Try.prog 37 #[v, .func (.func g) #[] cb] w fun e w' => ∃ v', e = .returned v' ∧ kLbl.R 62 w' base (fun _ => True) v' (xs.filter (!p ·)) ∧ Below base w0 w' := by
  obtain ⟨A, cap, rfl⟩ := Kd.R_slice hx
  have h1 := indexFuncL g cb eg p _ xs base w0 w hp (In.ofR hx) hl hb0 hbs
  go_enter Try.func37, Try.ntmps37
  have hp' := hid hp
  have hx' := hid hx
  clear hp hx
  go_wp2_with fail
  refine h1.mono ?_
  clear h1
  rintro e w1 ⟨⟨i, rfl, hi⟩, hb1⟩
  have hb1' := hb0.trans (hb1.mono hbs)
  rcases hi with ⟨rfl, hi⟩ | ⟨d1, x1, r1, hi, rfl, hi2, hi3⟩
  · have hi' := hid hi
    clear hi
    have hR := hid (Kd.R_below hx'.out hb1)
    clear hb1
    go_wp2_with fail
    go_ret
    exact ⟨_, rfl, by
      have e1 : xs.filter (!p ·) = xs := List.filter_eq_self.2 (fun a ha => by have := hi'.out; simp at this; simp [this a ha])
      rw [e1]; exact hR.out, hb1'⟩
  · obtain ⟨g0, cap', he, hg0, hg1, -⟩ := Kd.R_form hx'.out (by rw [hi]; simp; omega)
    injection he with he1 _ he3
    subst he1 he3
    have hcap := (Kd.R_reads' hx'.out).2.1
    have hR := hid (Kd.R_below hx'.out hb1)
    have hi' := hid hi
    have hn1 : d1.length < xs.length := by rw [hi]; simp
    have hO1 := hid (show d1 = (d1 ++ [x1]).filter (!p ·) by
      have : d1.filter (!p ·) = d1 := List.filter_eq_self.2 (fun a ha => by simp at hi2; simp [hi2 a ha])
      simp [this, hi3])
    have hxl := hid (show xs.length = d1.length + 1 + r1.length by rw [hi]; simp; omega)
    clear hi hi2 hi3 hx' hb1
    have q0 : ¬ ((d1.length : Int) = -1) := by omega
    have q1 : ((d1.length : Int) == -1) = false := beq_eq_false_iff_ne.2 (by omega)
    go_wp2_with fail
    go_loopg [5, 6] r1.length (fun q vk vj wr => ∃ (d' rest O : List Lbl), q = rest.length ∧ Hid (xs = d' ++ rest) ∧ Hid (O = d'.filter (!p ·)) ∧ vk = .int .i64 O.length ∧ vj = .int .i64 d'.length ∧ O.length < d'.length ∧
      kLbl.R 62 wr base (fun _ => True) (.slice (some ⟨g0, 0, none⟩) xs.length cap) (O ++ xs.drop O.length) ∧ Below base w0 wr)
    case atStart => exact ⟨d1 ++ [x1], r1, d1, rfl, hid (by rw [hi'.out]; simp), hO1, rfl, by simp, by simp, by have h := hR.out; rw [hi'.out] at h ⊢; simpa using h, hb1'⟩
    case round =>
      obtain ⟨d', rest, O, rfl, hx2, hO, rfl, rfl, hOd, hR2, hbw2⟩ := hrel
      have hxl2 := hid (show xs.length = d'.length + rest.length by rw [hx2.out]; simp)
      have hdl : d'.length ≤ xs.length := by have := hxl2.out; omega
      have hbsr := hbw2.size
      have hg0r : g0 < wr.heap.size := by
        obtain ⟨g9, c9, e9, _, h9, _⟩ := Kd.R_form hR2 (by simp; omega)
        injection e9 with e9 _ _; injection e9 with e9; injection e9 with e9; rw [e9]; exact h9
      cases rest with
      | nil =>
        have hlt : ¬ d'.length < xs.length := by have := hxl2.out; simp at this; omega
        have hOx : O.length < xs.length := by omega
        have hOc : ¬ (cap = O.length) := by omega
        have hOx2 : (O.length : Int) ≤ xs.length := by omega
        have how := ownsL_of_R hR2
        rw [show (O ++ xs.drop O.length).length = xs.length by simp; omega] at how
        obtain ⟨cur, hcur, _, hn, hm, hs, _⟩ := blk_of_owns how
        obtain ⟨vs, hcl⟩ := clearL wr g0 (O.length * 2) (xs.length - O.length) (cap - O.length) (by omega) (fun j hj => by
          have : O.length * 2 + j < cur.size := by omega
          simp [World.cell?, hcur, this]) (fun j hj => by simp [World.frozen?, hcur])
        have hR3 := hid (R_setsBeyond vs wr (O.length * 2) (by have := Kd.R_take (m := O.length) hR2 (by simp); rwa [List.take_left] at this) (Nat.le_refl _))
        have hb3 := hid (below_sets hg0 vs wr (O.length * 2) hbw2)
        clear hcur hs hR2 how
        go_wp2_with fail
        go_ret
        exact ⟨_, rfl, by rw [show xs = d' by simpa using hx2.out, ← hO.out]; exact hR3.out, hb3.out⟩
      | cons y rest =>
        have hlt : d'.length < xs.length := by have := hxl2.out; simp at this; omega
        have hOx : O.length < xs.length := by omega
        have hxd := hid (show O ++ xs.drop O.length = (O ++ d'.drop O.length) ++ y :: rest by
          rw [hx2.out, List.append_assoc, List.drop_append_of_le_length (by omega)])
        have hPl : (O ++ d'.drop O.length).length = d'.length := by simp; omega
        obtain ⟨a0, a1⟩ := cells1 (P := O ++ d'.drop O.length) (x := y) (rest := rest) (n := xs.length) (by rw [← hxd.out]; exact hR2)
        rw [hPl] at a0 a1
        have p4 : (0 : Int) ≤ d'.length := by omega
        have p5 : (d'.length : Int) < xs.length := by omega
        have hx3 := hid (show xs = (d' ++ [y]) ++ rest by rw [hx2.out]; simp)
        clear hPl
        have hcall := hp'.out (wr.alloc (Obj.cells #[Value.int IntKind.i64 y.kind, Value.string y.name] 62)) y (hbw2.alloc (by omega) _)
        cases hpy : p y with
        | true =>
          rw [hpy] at hcall
          have hO' := hid (show O = (d' ++ [y]).filter (!p ·) by rw [List.filter_append, ← hO.out]; simp [hpy])
          clear hpy
          go_wp2_with (go_at_fn g; refine hcall.mono ?_; rintro e w2 ⟨rfl, hb2⟩)
          go_roundg rest.length
          case measure => simp
          case rel => exact ⟨d' ++ [y], rest, O, rfl, hx3, hO', rfl, by simp, by simp; omega, Kd.R_below (Kd.R_alloc hR2 _) hb2, (hbw2.alloc (by omega) _).trans (hb2.mono (by simp; omega))⟩
        | false =>
          rw [hpy] at hcall
          have hO' := hid (show O ++ [y] = (d' ++ [y]).filter (!p ·) by rw [List.filter_append, ← hO.out]; simp [hpy])
          obtain ⟨z, hz⟩ : ∃ z, xs.drop O.length = z :: xs.drop (O.length + 1) := ⟨xs[O.length], List.drop_eq_getElem_cons hOx⟩
          have p8 : (0 : Int) ≤ O.length := by omega
          have p9 : (O.length : Int) < xs.length := by omega
          have hRz := hid (show kLbl.R 62 wr base (fun _ => True) (.slice (some ⟨g0, 0, none⟩) xs.length cap) (O ++ z :: xs.drop (O.length + 1)) by rw [← hz]; exact hR2)
          clear hpy hz hR2
          go_wp2_with (first
            | (go_at_fn g; refine hcall.mono ?_; rintro e w2 ⟨rfl, hb2⟩
               have c0 := pw_cell_below hb2 (show World.cell? _ ⟨wr.heap.size, 0, none⟩ = some (.int .i64 y.kind) by simp)
               have c1 := pw_cell_below hb2 (show World.cell? _ ⟨wr.heap.size, 1, none⟩ = some (.string y.name) by simp)
               have hRz' := hid (Kd.R_below (Kd.R_alloc hRz.out _) hb2)
               have hb3 := (hbw2.alloc (by omega) (Obj.cells #[Value.int IntKind.i64 y.kind, Value.string y.name] 62)).trans (hb2.mono (by simp; omega)))
            | (refine R_fill kLbl (x' := y) (okp := fun _ => False) 62 62 rfl rfl rfl rfl rfl rfl rfl (by kernel_rfl) hRz'.out (kLbl_M y) (fun _ hk => hk.elim) hb3 ?_; intro w3 hR3 hb4 hg3))
          clear hg3 c0 c1 a0 a1
          go_wp2_with fail
          go_roundg rest.length
          case measure => simp
          case rel => exact ⟨d' ++ [y], rest, O ++ [y], rfl, hx3, hO', by simp, by simp, by simp; omega, by simpa using hR3, hb4⟩
theorem closureL (b : Nat) (bv : Value) (ys : List Lbl) (base : Nat) (w0 : World) (hbb : b < base) (hbs : base ≤ w0.heap.size) (hc : w0.cell? ⟨b, 0, none⟩ = some bv) (hy : ∀ W, Below base w0 W → In kLbl W bv ys) (hl : ys.length ≤ 4194304) :
    Tests 39 #[.pointer (some ⟨b, 0, none⟩)] base w0 (fun x => ys.contains x) := by
  intro W x hb
  have hi := hy W hb
  have hc2 : W.cell? ⟨b, 0, none⟩ = some bv := (hb.cell (p := ⟨b, 0, none⟩) hbb).trans hc
  have hbW : b < W.heap.size := Nat.lt_of_lt_of_le (Nat.lt_of_lt_of_le hbb hbs) hb.size
  have ki := hi
  obtain ⟨A, c, rfl, -, -⟩ := ki
  clear hc hy
  go_enter Try.func39, Try.ntmps39
  go_wp2_with fail
  refine (containsL _ ys x _ (hi.below bel) hl).mono ?_
  rintro e w1 ⟨rfl, hb1⟩
  have hb1' : Below W.heap.size W w1 := hb1.after bel
  clear hb1
  go_wp2_with fail
  go_ret
  exact ⟨ret_bool (by simp), hb1'⟩
/-- the labels of xs that ys lacks, each once, in order -/
def lack (xs ys : List Lbl) : List Lbl := (lbls xs).filter (!ys.contains ·)
theorem implLacking (u v : Value) (xs ys : List Lbl) (w : World) (hx : In kLbl w u xs) (hy : In kLbl w v ys) (hl : xs.length ≤ 1048576) (hl2 : ys.length ≤ 1048576) :
    Calls Try.prog 22 #[u, v] w fun e w' => ∃ v', e = .returned v' ∧ kLbl.R 62 w' w.heap.size (fun _ => True) v' (lack xs ys) ∧ Below w.heap.size w w' := by
  have kx := hx; have ky := hy
  obtain ⟨A0, c0, rfl, -, -⟩ := kx
  obtain ⟨A1, c1, rfl, -, -⟩ := ky
  have eg : ∀ args w, (callFunc 39 args).run Try.prog w = .ok (.enter 39 args) w := enters_of Try.func39 (by kernel_rfl) rfl
  go_enter Try.func22, Try.ntmps22
  go_wp2_with fail
  have hz : w.heap.size + 1 ≤ (w.alloc (Obj.cells #[Value.slice A1 ys.length c1] 38)).heap.size := by simp
  have hb0 : Below w.heap.size w (w.alloc (Obj.cells #[Value.slice A1 ys.length c1] 38)) := bel
  have hb00 : (w.alloc (Obj.cells #[Value.slice A1 ys.length c1] 38)).heap.size = w.heap.size + 1 := by simp
  have hc0 : (w.alloc (Obj.cells #[Value.slice A1 ys.length c1] 38)).cell? ⟨w.heap.size, 0, none⟩ = some (.slice A1 ys.length c1) := by simp
  have hnil : In kLbl (w.alloc (Obj.cells #[Value.slice A1 ys.length c1] 38)) (.slice none 0 0) [] := ⟨none, 0, rfl, Nat.le_refl _, Kd.C_nil _ _⟩
  generalize (w.alloc (Obj.cells #[Value.slice A1 ys.length c1] 38)) = wa at *
  refine (implLabels _ _ xs [] wa (hx.below hb0) hnil (by simp; omega)).mono ?_
  rintro e w1 ⟨v1, rfl, ho1, hb1⟩
  rw [List.append_nil] at ho1
  have hT := closureL w.heap.size (.slice A1 ys.length c1) ys (w.heap.size + 1) wa (by omega) (by omega) hc0 (fun W hW => (hy.below hb0).below (by rw [hb00]; exact hW)) (by omega)
  have hll := lbls_len xs
  have h2 := deleteL 39 #[.pointer (some ⟨w.heap.size, 0, none⟩)] eg (fun x => ys.contains x) v1 (lbls xs) (w.heap.size + 1) wa w1 hT (by rw [← hb00]; exact ho1) (by omega) (by rw [← hb00]; exact hb1) (by rw [← hb00]; exact hb1.size)
  obtain ⟨A2, c2, rfl⟩ := Kd.R_slice ho1
  clear hT ho1 hb1 hnil hc0
  go_wp2_with fail
  refine h2.mono ?_
  rintro e w2 ⟨v2, rfl, ho2, hb2⟩
  have ho2' := hid (Kd.R_lower ho2 (Nat.le_succ w.heap.size))
  have hb2' := hid (hb0.trans (hb2.mono (Nat.le_succ w.heap.size)))
  clear h2 ho2 hb2
  go_wp2_with fail
  go_ret
  exact ⟨_, rfl, ho2'.out, hb2'.out⟩
end Go.Proofs.Ytmjkjlifhlemlaa.H
