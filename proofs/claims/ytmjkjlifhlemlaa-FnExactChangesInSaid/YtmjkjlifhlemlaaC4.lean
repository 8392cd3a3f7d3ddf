/- slices.Concat, Compact at labels; labels of two lists together (the program's way). -/
import Derived.Test.YtmjkjlifhlemlaaC3
set_option linter.unusedVariables false
set_option linter.unusedSimpArgs false
set_option maxRecDepth 100000
set_option maxHeartbeats 2000000
namespace Go.Proofs.Ytmjkjlifhlemlaa.H
open Go.RowKit Go.Proofs.YtmjkjlifhlemlaaW.PrintWords Go.Proofs.YtmjkjlifhlemlaaW.PrintLast Go.Proofs.Ytmjkjlifhlemlaa.Base Go.Sort
theorem growL (n : Nat) (w : World) (hn : n ≤ 4194304) :
    Calls Try.prog 65 #[.slice none 0 0, .int .i64 n] w fun e w' => ∃ v', e = .returned v' ∧ kLbl.R 62 w' w.heap.size (fun _ => True) v' [] ∧ Below w.heap.size w w' := by
  by_cases h0 : n = 0
  · subst h0
    go_enter Try.func65, Try.ntmps65
    go_wp2_with fail
    go_ret
    exact ⟨_, rfl, Kd.R_nil _ _ _ _ _, bel⟩
  · have hp : (0 : Int) < n := by omega
    have h0' := hid h0
    clear h0
    go_enter Try.func65, Try.ntmps65
    have hb : Try.t62.bytes = 24 := rfl
    have hc := nextslicecap_zero (need := n) (by omega)
    have g1 := grownCap_ge w n 0 62
    have g2 := grownCap_le_maxLen w n 0 62 (by unfold maxLen; omega)
    unfold grownCap at g1 g2
    have hc1 : ¬ (281474976710656 < Builtin.nextslicecap n 0 * 24) := by rw [hc]; omega
    have hc2 : ¬ ((281474976710656 : Int) < n * 24) := by omega
    go_wp2_with fail
    generalize (Question.appendCap n 0 62).cut (w.tape w.drawn (Question.appendCap n 0 62)) = cp at *
    go_ret
    exact ⟨_, rfl, grown_empty kLbl _ _ w n cp rfl g1 g2, bel⟩
theorem concatL (E : Nat) (v : Value) (xss : List (List Lbl)) (w : World) (hx : In (K.aslice E kLbl) w v xss) (hn : sumLen xss ≤ 4194304) (hl : xss.length ≤ 4194304) :
    Calls Try.prog 48 #[v] w fun e w' => ∃ v', e = .returned v' ∧ kLbl.R 62 w' w.heap.size (fun _ => True) v' xss.flatten ∧ Below w.heap.size w w' := by
  obtain ⟨A, c, rfl, hc, hC⟩ := hx
  go_enter Try.func48, Try.ntmps48
  go_wp2_with fail
  go_loopw [3, 5, 11] (fun vn _ vi wr => ∃ done rest : List (List Lbl), Hid (xss = done ++ rest) ∧ vi = .int .i64 done.length ∧ vn = .int .i64 (sumLen done) ∧ Below w.heap.size w wr) (fun _ _ vi _ => xss.length - (intOf vi).toNat)
  case atStart => exact ⟨[], xss, rfl, rfl, rfl, bel⟩
  case round =>
    obtain ⟨done, rest, hx, rfl, rfl, hb⟩ := hrel
    have hsum : sumLen done + sumLen rest ≤ 4194304 := by rw [← sumLen_app, ← hx.out]; exact hn
    cases rest with
    | cons x rest =>
      have hlt : done.length < xss.length := by rw [hx.out]; simp
      obtain ⟨ad, A', c', rfl, d0, hcx, hCx⟩ := lst_at (Kd.C_below hC hb) hx.out
      have hsx : sumLen done + x.length ≤ 4194304 := by have h2 : sumLen (x :: rest) = x.length + sumLen rest := rfl; omega
      go_wp2_with fail
      go_roundw
      case rel => exact ⟨done ++ [x], rest, hid (by rw [hx.out]; simp), by simp, by rw [sumLen_app]; simp [sumLen], hb⟩
      case measure => simp [intOf]; omega
    | nil =>
      have hlt : ¬ done.length < xss.length := by rw [hx.out]; simp
      have hd : sumLen done ≤ 4194304 := by omega
      go_wp2_with fail
      refine (growL (sumLen done) _ hd).mono ?_
      rintro e w1 ⟨v1, rfl, ho1, hb1⟩
      have ho1 := Kd.R_lower ho1 hb.size
      have hb1' := hb1.after hb
      clear hx hlt hsum hd
      go_wp2_with fail
      go_loopw [6, 8, 27] (fun vo _ vi wr => ∃ done rest : List (List Lbl), Hid (xss = done ++ rest) ∧ vi = .int .i64 done.length ∧ kLbl.R 62 wr w.heap.size (fun _ => True) vo done.flatten ∧ Below w.heap.size w wr) (fun _ _ vi _ => xss.length - (intOf vi).toNat)
      case atStart => exact ⟨[], xss, rfl, rfl, ho1, hb1'⟩
      case round =>
        obtain ⟨done, rest, hx, rfl, ho, hb⟩ := hrel
        have hsum : sumLen done + sumLen rest ≤ 4194304 := by rw [← sumLen_app, ← hx.out]; exact hn
        cases rest with
        | nil =>
          have hlt : ¬ done.length < xss.length := by rw [hx.out]; simp
          go_wp2_with fail
          go_ret
          exact ⟨_, rfl, by rw [hx.out, List.append_nil]; exact ho, hb⟩
        | cons x rest =>
          have hlt : done.length < xss.length := by rw [hx.out]; simp
          obtain ⟨ad, A', c', rfl, d0, hcx, hCx⟩ := lst_at (Kd.C_below hC hb) hx.out
          have hfl := flat_len done
          have hsx : sumLen done + x.length ≤ 4194304 := by have h2 : sumLen (x :: rest) = x.length + sumLen rest := rfl; omega
          go_wp2_with (at_builtin; refine R_rows kLbl (w0 := w) 38 62 rfl rfl Try.underlying38 infoLbl rfl (by decide) (by decide) rfl rfl ho hCx (fun x cs hk => by obtain ⟨_, _, rfl, rfl, rfl⟩ := hk; exact kLbl_M x) hb hb.size (by omega) ?_; intro v2 w2 ho2 hb2 hg2; clear ho)
          go_roundw
          case rel => exact ⟨done ++ [x], rest, hid (by rw [hx.out]; simp), by simp, by simpa using ho2, hb2⟩
          case measure => simp [intOf]; omega

theorem inTwoK {α : Type} {d : Kd α} {E : Nat} {w : World} {t : TypeId} {A0 A1 : Option Addr} {c0 c1 : Nat} {xs ys : List α} (h0 : In d w (.slice A0 xs.length c0) xs) (h1 : In d w (.slice A1 ys.length c1) ys) :
    In (K.aslice E d) (w.alloc (.cells #[.slice A0 xs.length c0, .slice A1 ys.length c1] t)) (.slice (some ⟨w.heap.size, 0, none⟩) 2 2) [xs, ys] := by
  have hb : Below w.heap.size w (w.alloc (.cells #[.slice A0 xs.length c0, .slice A1 ys.length c1] t)) := bel
  obtain ⟨A0', c0', e0, hl0, hC0⟩ := h0.below hb
  obtain ⟨A1', c1', e1, hl1, hC1⟩ := h1.below hb
  injection e0 with e01 _ e03
  injection e1 with e11 _ e13
  subst e01 e03 e11 e13
  refine ⟨_, 2, rfl, Nat.le_refl _, rfl, by simp, fun _ => ⟨_, rfl, fun i x hi => ?_⟩⟩
  match i, hi with
  | 0, hi =>
    obtain rfl : xs = x := by simpa using hi
    refine ⟨[.slice A0 xs.length c0], rfl, ⟨A0, c0, rfl, hl0, hC0⟩, fun j u hj => ?_⟩
    match j, hj with
    | 0, hj =>
      obtain rfl : Value.slice A0 xs.length c0 = u := by simpa using hj
      show World.cell? _ (Addr.add ⟨w.heap.size, 0, none⟩ (0 * 1 + 0)) = _
      rw [show Addr.add ⟨w.heap.size, 0, none⟩ (0 * 1 + 0) = ⟨w.heap.size, 0, none⟩ by rw [Addr.add_lit]]
      simp
    | j + 1, hj => simp at hj
  | 1, hi =>
    obtain rfl : ys = x := by simpa using hi
    refine ⟨[.slice A1 ys.length c1], rfl, ⟨A1, c1, rfl, hl1, hC1⟩, fun j u hj => ?_⟩
    match j, hj with
    | 0, hj =>
      obtain rfl : Value.slice A1 ys.length c1 = u := by simpa using hj
      show World.cell? _ (Addr.add ⟨w.heap.size, 0, none⟩ (1 * 1 + 0)) = _
      rw [show Addr.add ⟨w.heap.size, 0, none⟩ (1 * 1 + 0) = ⟨w.heap.size, 1, none⟩ by rw [Addr.add_lit]]
      simp
    | j + 1, hj => simp at hj
  | i + 2, hi => simp at hi
/-! ### clear behind the kept part -/
theorem R_setBeyond {e : Nat} {w : World} {base g k cap : Nat} {xs : List Lbl} (h : kLbl.R e w base (fun _ => True) (.slice (some ⟨g, 0, none⟩) k cap) xs) (o : Nat) (u : Value) (ho : k * 2 ≤ o) :
    kLbl.R e (w.setCell ⟨g, o, none⟩ u) base (fun _ => True) (.slice (some ⟨g, 0, none⟩) k cap) xs := by
  have hk : k = xs.length := (Kd.R_reads' h).1
  subst hk
  have how := ownsL_of_R h
  obtain ⟨cur, hg, hb, hn, hm, hs, ht⟩ := blk_of_owns how
  refine R_of_ownsL ⟨how.1, .inr ⟨g, cap, cur.setIfInBounds o u, rfl, hb, ?_, hn, hm, by simpa using hs, ?_⟩⟩ (fun _ _ => trivial)
  · rw [setCell_eq]
    simp [mapBlock, Array.getElem?_modify, hg, onCells]
  · rw [← ht]
    apply List.ext_getElem?
    intro j
    by_cases hj : j < xs.length * 2
    · rw [List.getElem?_take_of_lt hj, List.getElem?_take_of_lt hj, Array.getElem?_toList, Array.getElem?_toList, Array.getElem?_setIfInBounds]
      rw [if_neg (by omega)]
    · rw [List.getElem?_take_eq_none (by omega), List.getElem?_take_eq_none (by omega)]
theorem R_setsBeyond {e : Nat} {base g k cap : Nat} {xs : List Lbl} : ∀ (vs : List Value) (w : World) (o : Nat), kLbl.R e w base (fun _ => True) (.slice (some ⟨g, 0, none⟩) k cap) xs → k * 2 ≤ o →
    kLbl.R e (w.setCells g o vs) base (fun _ => True) (.slice (some ⟨g, 0, none⟩) k cap) xs
  | [], w, o, h, _ => h
  | v :: r, w, o, h, ho => R_setsBeyond r _ (o + 1) (R_setBeyond h o v ho) (by omega)
theorem below_sets {B : Nat} {w0 : World} {g : Nat} (hg : B ≤ g) : ∀ (vs : List Value) (w : World) (o : Nat), Below B w0 w → Below B w0 (w.setCells g o vs)
  | [], w, o, h => h
  | v :: r, w, o, h => below_sets hg r _ (o + 1) (h.setCell hg v)
theorem zeroL (w : World) : (zeroValue 62).run Try.prog w = .ok (.agg #[.int .i64 0, .string ⟨#[]⟩]) w := by simp [go_sem]
theorem clearL (w : World) (b o n c : Nat) (hn : 0 < n)
    (hc : ∀ j, j < n * 2 → (w.cell? ⟨b, o + j, none⟩).isSome = true) (hf : ∀ j, j < n * 2 → w.frozen? ⟨b, o + j, none⟩ = false) :
    ∃ vs, ∀ ty, (Builtin.clear_ #[38] ty #[.slice (some ⟨b, o, none⟩) n c]).run Try.prog w = .ok (.tuple #[]) (w.setCells b o vs) := by
  have hsz : (Builtin.zeroCells (Value.agg #[.int .i64 0, .string ⟨#[]⟩]).cells n).toList.length = n * 2 := by rw [Array.length_toList, size_zeroCells]; rfl
  have h1 : ∀ v ∈ (Builtin.zeroCells (Value.agg #[.int .i64 0, .string ⟨#[]⟩]).cells n).toList, v.oneCell' = true := by
    intro v hv
    simp [Builtin.zeroCells] at hv
    obtain ⟨a, _, rfl⟩ := hv
    rcases Nat.mod_two_eq_zero_or_one a with h | h <;> simp [Value.cells, h] <;> rfl
  have hst := run_storeCells_cells (P := Try.prog) b o (Builtin.zeroCells (Value.agg #[.int .i64 0, .string ⟨#[]⟩]).cells n).toList 0 w (by rw [hsz]; simpa using hc) (by rw [hsz]; simpa using hf) h1
  simp only [Nat.add_zero] at hst
  obtain ⟨m, rfl⟩ : ∃ m, n = m + 1 := ⟨n - 1, by omega⟩
  exact ⟨(Builtin.zeroCells (Value.agg #[.int .i64 0, .string ⟨#[]⟩]).cells (m + 1)).toList, fun ty => by simp [Builtin.clear_, run_underlying Try.underlying38, zeroL, hst]⟩
/-- Elements side by side in a row of one's own. -/
theorem cells2 {e : Nat} {w : World} {base g n cap : Nat} {ok : Nat → Prop} {P rest : List Lbl} {l x : Lbl} (h : kLbl.R e w base ok (.slice (some ⟨g, 0, none⟩) n cap) (P ++ l :: x :: rest)) :
    w.cell? ⟨g, P.length * 2, none⟩ = some (.int .i64 l.kind) ∧ w.cell? ⟨g, P.length * 2 + 1, none⟩ = some (.string l.name) ∧ w.cell? ⟨g, (P.length + 1) * 2, none⟩ = some (.int .i64 x.kind) ∧ w.cell? ⟨g, (P.length + 1) * 2 + 1, none⟩ = some (.string x.name) := by
  obtain ⟨A, c, hA, _, hC⟩ := In.ofR h
  obtain ⟨ad, rfl, a0, a1⟩ := lbl_at (done := P) (rest := x :: rest) (x := l) hC rfl
  obtain ⟨ad2, hae, b0, b1⟩ := lbl_at (done := P ++ [l]) (rest := rest) (x := x) hC (by simp)
  injection hA with hA1 _ _
  injection hA1 with hA1
  subst hA1
  injection hae with hae
  subst hae
  simp only [Addr.add_lit, Nat.zero_add, List.length_append, List.length_singleton] at a0 a1 b0 b1
  exact ⟨a0, a1, b0, b1⟩
theorem compactL (v : Value) (xs : List Lbl) (base : Nat) (w w0 : World) (hx : kLbl.R 62 w base (fun _ => True) v xs) (hl : xs.length ≤ 4194304) (hb : Below base w0 w) :
    Calls Try.prog 51 #[v] w fun e w' => ∃ v', e = .returned v' ∧ kLbl.R 62 w' base (fun _ => True) v' (Plain.dd xs) ∧ Below base w0 w' := by
  obtain ⟨A, cap, rfl⟩ := Kd.R_slice hx
  by_cases h2 : xs.length < 2
  · have h2' : ((xs.length : Int) < 2) := by omega
    have hd := hid (show Plain.dd xs = xs by match xs, h2 with | [], _ => rfl | [x], _ => rfl)
    go_enter Try.func51, Try.ntmps51
    go_wp2_with fail
    go_ret
    exact ⟨_, rfl, by rw [hd.out]; exact hx, hb⟩
  · have h2' : ¬ ((xs.length : Int) < 2) := by omega
    obtain ⟨g, cap', he, hg0, hg1, -⟩ := Kd.R_form hx (by omega)
    injection he with he1 _ he3
    subst he1 he3
    have hcap := (Kd.R_reads' hx).2.1
    go_enter Try.func51, Try.ntmps51
    go_wp2_with fail
    go_loopg [3] (xs.length - 1) (fun q vk wr => ∃ (done rest : List Lbl) (l : Lbl), q = rest.length ∧ Hid (xs = (done ++ [l]) ++ rest) ∧ vk = .int .i64 ((done.length : Int) + 1) ∧ Hid (Plain.dd (done ++ [l]) = done ++ [l]) ∧ kLbl.R 62 wr base (fun _ => True) (.slice (some ⟨g, 0, none⟩) xs.length cap) xs ∧ Below base w0 wr)
    case atStart =>
      obtain ⟨l, rest, hlr⟩ : ∃ l rest, xs = l :: rest := by cases xs with | nil => simp at h2 | cons l rest => exact ⟨l, rest, rfl⟩
      exact ⟨[], rest, l, by rw [hlr]; simp, hid (by rw [hlr]; rfl), rfl, hid rfl, hx, hb⟩
    case round =>
      obtain ⟨done, rest, l, rfl, hxs, rfl, hdd, hR, hbw⟩ := hrel
      have hlen := hid (show xs.length = done.length + 1 + rest.length by rw [hxs.out]; simp; omega)
      cases rest with
      | nil =>
        have hlt : ¬ done.length + 1 < xs.length := by have := hlen.out; simp at this; omega
        go_wp2_with fail
        go_ret
        exact ⟨_, rfl, by rw [show xs = done ++ [l] by simpa using hxs.out, hdd.out] ; rw [show done ++ [l] = xs by simpa using hxs.out.symm]; exact hR, hbw⟩
      | cons x rest =>
        have hlt : done.length + 1 < xs.length := by have := hlen.out; simp at this; omega
        have hdl : done.length ≤ 4194304 := by omega
        have hR' := hR
        rw [hxs.out, List.append_assoc] at hR'
        obtain ⟨a0, a1, b0, b1⟩ := cells2 (P := done) (l := l) (x := x) (rest := rest) (n := xs.length) (by rw [hxs.out] at hR ⊢; simpa using hR)
        clear hR'
        have t1 := eqLblRun x l
        have p0 : (0 : Int) ≤ done.length := by omega
        have p1 : (done.length : Int) + 1 < xs.length := by omega
        have p2 : (done.length : Int) < xs.length := by omega
        have p3 : (0 : Int) ≤ (done.length : Int) + 1 := by omega
        by_cases hxl : x = l
        · rw [decide_eq_true hxl] at t1
          go_wp2_with fail
          go_quiet (fail)
          have hR := hid (Kd.R_drewN hR nq)
          have hbw := pw_below_drewN hbw nq
          clear a0 a1 b0 b1 t1
          have hxs1 := hid (show xs = (done ++ [l, x]) ++ rest by rw [hxs.out]; simp)
          have hdd1 := hid (show Plain.dd (done ++ [l, x]) = done ++ [l] by rw [show done ++ [l, x] = done ++ [l] ++ [x] by simp, Plain.dd_snoc, hdd.out]; unfold Plain.step; rw [List.getLast?_concat, if_pos (by rw [hxl])])
          have hkc : ¬ (cap = done.length + 1) := by omega
          have hkc2 : (done.length : Int) + 1 ≤ xs.length := by omega
          have hM := hid (show xs.length - (done.length + 1) = rest.length + 1 by have := hlen.out; simp at this; omega)
          clear hxl hxs hdd
          go_wp2_with fail
          rw [hM.out]
          have hrl : rest.length ≤ 4194304 := by have := hlen.out; simp at this; omega
          obtain ⟨M, hMr⟩ : ∃ M, M = rest.length := ⟨_, rfl⟩
          rw [← hMr]
          replace hMr := hid hMr
          have hML : M ≤ 4194304 := by have := hMr.out; omega
          go_loopg [3, 5] M (fun q vk vj wr => ∃ (d' rest O : List Lbl) (y : Lbl) (i : Nat), q = rest.length ∧ Hid (xs = (d' ++ [y]) ++ rest) ∧ Hid (O = Plain.dd (d' ++ [y])) ∧ vk = .int .i64 O.length ∧ vj = .int .i64 ((i : Int) + 1) ∧ Hid (d'.length = done.length + 1 + i) ∧ O.length ≤ d'.length ∧
            kLbl.R 62 wr base (fun _ => True) (.slice (some ⟨g, 0, none⟩) xs.length cap) (O ++ xs.drop O.length) ∧ Below base w0 wr)
          case atStart => exact ⟨done ++ [l], rest, done ++ [l], x, 0, hMr.out, hid (by rw [hxs1.out]; simp), hid (by rw [List.append_assoc]; exact hdd1.out.symm), by simp, by simp, hid (by simp), by simp, by have h := hR.out; rw [hxs1.out] at h ⊢; simpa using h, hbw⟩
          case round =>
            obtain ⟨d', rest, O, y, i, rfl, hx2, hO, rfl, rfl, hdl2, hOd, hR2, hbw2⟩ := hrel
            have hxl2 := hid (show xs.length = d'.length + 1 + rest.length by rw [hx2.out]; simp; omega)
            have hiM := hid (show i + 1 + rest.length = M + 1 by have h1 := hxl2.out; have h2 := hdl2.out; have h3 := hlen.out; have h4 := hMr.out; simp at h3; omega)
            have hOl : O.length ≤ 4194304 := by have := hxl2.out; omega
            cases rest with
            | nil =>
              have hlt : ¬ i < M := by have := hiM.out; simp at this; omega
              have hOx : O.length < xs.length := by have := hxl2.out; simp at this; omega
              have hOc : ¬ (cap = O.length) := by omega
              have hOx2 : (O.length : Int) ≤ xs.length := by omega
              have how := ownsL_of_R hR2
              rw [show (O ++ xs.drop O.length).length = xs.length by simp; omega] at how
              obtain ⟨cur, hcur, _, hn, hm, hs, _⟩ := blk_of_owns how
              obtain ⟨vs, hcl⟩ := clearL wr g (O.length * 2) (xs.length - O.length) (cap - O.length) (by omega) (fun j hj => by
                have : O.length * 2 + j < cur.size := by omega
                simp [World.cell?, hcur, this]) (fun j hj => by simp [World.frozen?, hcur])
              have hR3 := hid (R_setsBeyond vs wr (O.length * 2) (by have := Kd.R_take (m := O.length) hR2 (by simp); rwa [List.take_left] at this) (Nat.le_refl _))
              have hb3 := hid (below_sets hg0 vs wr (O.length * 2) hbw2)
              clear hcur hs hR2 how
              go_wp2_with fail
              go_ret
              exact ⟨_, rfl, by rw [show xs = d' ++ [y] by simpa using hx2.out, ← hO.out]; exact hR3.out, hb3.out⟩
            | cons x2 rest =>
              have hlt : i < M := by have := hiM.out; simp at this; omega
              have hOx : O.length < xs.length := by have := hxl2.out; simp at this; omega
              have hxd := hid (show O ++ xs.drop O.length = (O ++ d'.drop O.length) ++ y :: x2 :: rest by
                rw [hx2.out, List.append_assoc, List.drop_append_of_le_length hOd]; simp)
              have hPl : (O ++ d'.drop O.length).length = done.length + 1 + i := by have := hdl2.out; simp; omega
              obtain ⟨a0, a1, b0, b1⟩ := cells2 (P := O ++ d'.drop O.length) (l := y) (x := x2) (rest := rest) (n := xs.length) (by rw [← hxd.out]; exact hR2)
              rw [hPl] at a0 a1 b0 b1
              rw [show (done.length + 1 + i) * 2 = (done.length + 1) * 2 + i * 2 by omega] at a0 a1
              rw [show (done.length + 1 + i + 1) * 2 = (done.length + 1) * 2 + (i + 1) * 2 by omega] at b0 b1
              have t1 := eqLblRun x2 y
              have p4 : (0 : Int) ≤ i := by omega
              have p5 : (i : Int) + 1 < (M : Int) + 1 := by omega
              have p6 : (i : Int) < (M : Int) + 1 := by omega
              have p7 : (0 : Int) ≤ (i : Int) + 1 := by omega
              have hx3 := hid (show xs = ((d' ++ [y]) ++ [x2]) ++ rest by rw [hx2.out]; simp)
              have hdl3 := hid (show (d' ++ [y]).length = done.length + 1 + (i + 1) by have := hdl2.out; simp; omega)
              clear hPl
              by_cases hxy : x2 = y
              · rw [decide_eq_true hxy] at t1
                have hO' := hid (show O = Plain.dd ((d' ++ [y]) ++ [x2]) by rw [Plain.dd_snoc, ← hO.out]; unfold Plain.step; rw [hO.out, Plain.dd_last, List.getLast?_concat, if_pos (by rw [hxy])])
                clear hxy
                go_wp2_with fail
                go_quiet (fail)
                clear a0 a1 b0 b1 t1
                go_wp2_with fail
                go_roundg rest.length
                case measure => simp
                case rel => exact ⟨d' ++ [y], rest, O, x2, i + 1, rfl, hx3, hO', rfl, by simp, hdl3, by simp; omega, Kd.R_drewN hR2 _, pw_below_drewN hbw2 _⟩
              · rw [decide_eq_false hxy] at t1
                have hO' := hid (show O ++ [x2] = Plain.dd ((d' ++ [y]) ++ [x2]) by rw [Plain.dd_snoc, ← hO.out]; unfold Plain.step; rw [hO.out, Plain.dd_last, List.getLast?_concat, if_neg (by simpa using Ne.symm hxy)])
                obtain ⟨z, hz⟩ : ∃ z, xs.drop O.length = z :: xs.drop (O.length + 1) := ⟨xs[O.length], List.drop_eq_getElem_cons hOx⟩
                have p8 : (0 : Int) ≤ O.length := by omega
                have p9 : (O.length : Int) < xs.length := by omega
                have hRz := hid (show kLbl.R 62 wr base (fun _ => True) (.slice (some ⟨g, 0, none⟩) xs.length cap) (O ++ z :: xs.drop (O.length + 1)) by rw [← hz]; exact hR2)
                clear hxy hz hR2
                go_wp2_with fail
                go_quiet (fail)
                have hRz' := hid (Kd.R_drewN hRz.out nq)
                have hbz := pw_below_drewN hbw2 nq
                go_wp2_with (refine R_fill kLbl (x' := x2) (okp := fun _ => False) 62 62 rfl rfl rfl rfl rfl rfl rfl (by kernel_rfl) hRz'.out (kLbl_M x2) (fun _ hk => hk.elim) hbz ?_; intro w3 hR3 hb3 hg3)
                clear a0 a1 b0 b1 t1 hg3
                go_wp2_with fail
                go_roundg rest.length
                case measure => simp
                case rel => exact ⟨d' ++ [y], rest, O ++ [x2], x2, i + 1, rfl, hx3, hO', by simp, by simp, hdl3, by simp; omega, by simpa using hR3, hb3⟩
        · rw [decide_eq_false hxl] at t1
          have hdd' := hid (show Plain.dd (done ++ [l] ++ [x]) = done ++ [l] ++ [x] by rw [Plain.dd_snoc, hdd.out]; unfold Plain.step; rw [List.getLast?_concat, if_neg (by simpa using Ne.symm hxl)])
          have hxs' := hid (show xs = (done ++ [l] ++ [x]) ++ rest by rw [hxs.out]; simp)
          clear hxl
          go_wp2_with fail
          go_quiet (fail)
          clear a0 a1 b0 b1 t1
          go_wp2_with fail
          go_roundg rest.length
          case measure => simp
          case rel => exact ⟨done ++ [l], rest, x, rfl, hxs', by simp, hdd', Kd.R_drewN hR _, pw_below_drewN hbw _⟩
end Go.Proofs.Ytmjkjlifhlemlaa.H
