/- The program's ChangesIn: slices.Concat at verdicts (their names), lastVerdict, codeOf, labelsOf. -/
import Derived.Test.YtmjkjlifhlemlaaC8
set_option linter.unusedVariables false
set_option linter.unusedSimpArgs false
set_option maxRecDepth 100000
set_option maxHeartbeats 4000000
namespace Go.Proofs.Ytmjkjlifhlemlaa.H
open Go.RowKit Go.Proofs.YtmjkjlifhlemlaaW.PrintWords Go.Proofs.YtmjkjlifhlemlaaW.PrintLast Go.Proofs.Ytmjkjlifhlemlaa.Base
/-- A verdict, of which the name alone is told. -/
def kVn : Kd ByteArray where
  sz := 4
  E := []
  K := fun w x cs => ∃ (i : Int) (A : Option Addr) (n c : Nat) (j : Int), cs = [.string x, .int .i64 i, .slice A n c, .int .i64 j]
  M := fun w base ok x cs => ∃ (i : Int) (A : Option Addr) (n c : Nat) (j : Int), cs = [.string x, .int .i64 i, .slice A n c, .int .i64 j]
  K_len := by rintro w x cs ⟨i, A, n, c, j, rfl⟩; rfl
  K_one := by
    rintro w x cs ⟨i, A, n, c, j, rfl⟩ u hu
    simp at hu
    rcases hu with rfl | rfl | rfl | rfl <;> rfl
  K_below := by rintro w w1 x cs hb h; exact h
  K_of_M := by rintro w base ok x cs h; exact h
  M_mono := by rintro w base ok ok' x cs hok h; exact h
  M_bound := by rintro w base ok x cs h; exact h
  M_move := by rintro w w1 base ok x cs hm h; exact h
  M_lower := by rintro w base base' ok x cs hb h; exact h
theorem kVn_of {T : Nat} {w : World} {v : Value} {xs : List Vd} (h : In (kVd T) w v xs) : In kVn w v (xs.map (·.name)) := by
  obtain ⟨A, c, rfl, hc, hl, hm, hC⟩ := h
  refine ⟨A, c, by simp, by simpa using hc, by simp, by simpa using hm, fun h0 => ?_⟩
  obtain ⟨ad, rfl, hA⟩ := hC (by simpa using h0)
  refine ⟨ad, rfl, fun j p hj => ?_⟩
  rw [List.getElem?_map] at hj
  obtain ⟨x, hx, rfl⟩ := Option.map_eq_some_iff.1 hj
  obtain ⟨cs, h1, h2, h3⟩ := hA j x hx
  obtain ⟨v2, rfl, A2, c2, rfl, _⟩ := kVd_cells h2
  exact ⟨_, rfl, ⟨_, _, _, _, _, rfl⟩, h3⟩
theorem vn_at {w : World} {A : Option Addr} {n : Nat} {xs done rest : List ByteArray} {x : ByteArray} (h : kVn.C w A n xs) (hx : xs = done ++ x :: rest) :
    ∃ ad i A2 m c j, A = some ad ∧ w.cell? (ad.add (done.length * 4)) = some (.string x) ∧ w.cell? ⟨(ad.add (done.length * 4)).block, (ad.add (done.length * 4)).off + 1, none⟩ = some (.int .i64 i) ∧ w.cell? ⟨(ad.add (done.length * 4)).block, (ad.add (done.length * 4)).off + 2, none⟩ = some (.slice A2 m c) ∧
      w.cell? ⟨(ad.add (done.length * 4)).block, (ad.add (done.length * 4)).off + 3, none⟩ = some (.int .i64 j) := by
  obtain ⟨ad, c, e, _, hK, hc0⟩ := C_at h hx
  have hc : ∀ j u, c[j]? = some u → w.cell? (ad.add (done.length * 4 + j)) = some u := hc0
  obtain ⟨i, A2, m, c, j, rfl⟩ := hK
  exact ⟨ad, i, A2, m, c, j, e, hc 0 _ rfl, by rw [← add_field _ _ 1 (by omega)]; exact hc 1 _ rfl, by rw [← add_field _ _ 2 (by omega)]; exact hc 2 _ rfl, by rw [← add_field _ _ 3 (by omega)]; exact hc 3 _ rfl⟩
theorem growV (n : Nat) (w : World) (hn : n ≤ 4194304) :
    Calls Try.prog 33 #[.slice none 0 0, .int .i64 n] w fun e w' => ∃ v', e = .returned v' ∧ kVn.R 40 w' w.heap.size (fun _ => True) v' [] ∧ Below w.heap.size w w' := by
  by_cases h0 : n = 0
  · subst h0
    go_enter Try.func33, Try.ntmps33
    go_wp2_with fail
    go_ret
    exact ⟨_, rfl, Kd.R_nil _ _ _ _ _, bel⟩
  · have hp : (0 : Int) < n := by omega
    have h0' := hid h0
    clear h0
    go_enter Try.func33, Try.ntmps33
    have hb : Try.t40.bytes = 56 := rfl
    have hc := nextslicecap_zero (need := n) (by omega)
    have g1 := grownCap_ge w n 0 40
    have g2 := grownCap_le_maxLen w n 0 40 (by unfold maxLen; omega)
    unfold grownCap at g1 g2
    have hc1 : ¬ (281474976710656 < Builtin.nextslicecap n 0 * 56) := by rw [hc]; omega
    have hc2 : ¬ ((281474976710656 : Int) < n * 56) := by omega
    go_wp2_with fail
    generalize (Question.appendCap n 0 40).cut (w.tape w.drawn (Question.appendCap n 0 40)) = cp at *
    go_ret
    exact ⟨_, rfl, grown_empty kVn _ _ w n cp rfl g1 g2, bel⟩
theorem concatV (E : Nat) (v : Value) (xss : List (List ByteArray)) (w : World) (hx : In (K.aslice E kVn) w v xss) (hn : sumLen xss ≤ 4194304) (hl : xss.length ≤ 4194304) :
    Calls Try.prog 18 #[v] w fun e w' => ∃ v', e = .returned v' ∧ kVn.R 40 w' w.heap.size (fun _ => True) v' xss.flatten ∧ Below w.heap.size w w' := by
  obtain ⟨A, c, rfl, hc, hC⟩ := hx
  go_enter Try.func18, Try.ntmps18
  go_wp2_with fail
  go_loopw [3, 5, 11] (fun vn _ vi wr => ∃ done rest : List (List ByteArray), Hid (xss = done ++ rest) ∧ vi = .int .i64 done.length ∧ vn = .int .i64 (sumLen done) ∧ Below w.heap.size w wr) (fun _ _ vi _ => xss.length - (intOf vi).toNat)
  case atStart => exact ⟨[], xss, rfl, rfl, rfl, bel⟩
  case round =>
    obtain ⟨done, rest, hx, rfl, rfl, hb⟩ := hrel
    have hsum : sumLen done + sumLen rest ≤ 4194304 := by rw [← sumLen_app, ← hx.out]; exact hn
    cases rest with
    | cons x rest =>
      have hlt : done.length < xss.length := by rw [hx.out]; simp
      obtain ⟨ad, A', c', rfl, d0, hcx, hCx⟩ := lst_at (Kd.C_below hC hb) hx.out
      have hsx : sumLen done + x.length ≤ 4194304 := by have h2 : sumLen (x :: rest) = x.length + sumLen rest := rfl; omega
      go_wp2_with fail
      go_roundw
      case rel => exact ⟨done ++ [x], rest, hid (by rw [hx.out]; simp), by simp, by rw [sumLen_app]; simp [sumLen], hb⟩
      case measure => simp [intOf]; omega
    | nil =>
      have hlt : ¬ done.length < xss.length := by rw [hx.out]; simp
      have hd : sumLen done ≤ 4194304 := by omega
      go_wp2_with fail
      refine (growV (sumLen done) _ hd).mono ?_
      rintro e w1 ⟨v1, rfl, ho1, hb1⟩
      have ho1 := Kd.R_lower ho1 hb.size
      have hb1' := hb1.after hb
      clear hx hlt hsum hd
      go_wp2_with fail
      go_loopw [6, 8, 27] (fun vo _ vi wr => ∃ done rest : List (List ByteArray), Hid (xss = done ++ rest) ∧ vi = .int .i64 done.length ∧ kVn.R 40 wr w.heap.size (fun _ => True) vo done.flatten ∧ Below w.heap.size w wr) (fun _ _ vi _ => xss.length - (intOf vi).toNat)
      case atStart => exact ⟨[], xss, rfl, rfl, ho1, hb1'⟩
      case round =>
        obtain ⟨done, rest, hx, rfl, ho, hb⟩ := hrel
        have hsum : sumLen done + sumLen rest ≤ 4194304 := by rw [← sumLen_app, ← hx.out]; exact hn
        cases rest with
        | nil =>
          have hlt : ¬ done.length < xss.length := by rw [hx.out]; simp
          go_wp2_with fail
          go_ret
          exact ⟨_, rfl, by rw [hx.out, List.append_nil]; exact ho, hb⟩
        | cons x rest =>
          have hlt : done.length < xss.length := by rw [hx.out]; simp
          obtain ⟨ad, A', c', rfl, d0, hcx, hCx⟩ := lst_at (Kd.C_below hC hb) hx.out
          have hfl := flat_len done
          have hsx : sumLen done + x.length ≤ 4194304 := by have h2 : sumLen (x :: rest) = x.length + sumLen rest := rfl; omega
          go_wp2_with (at_builtin; refine R_rows kVn (w0 := w) 26 40 rfl rfl Try.underlying26 infoVd rfl (by decide) (by decide) rfl rfl ho hCx (fun x cs hk => hk) hb hb.size (by omega) ?_; intro v2 w2 ho2 hb2 hg2; clear ho)
          go_roundw
          case rel => exact ⟨done ++ [x], rest, hid (by rw [hx.out]; simp), by simp, by simpa using ho2, hb2⟩
          case measure => simp [intOf]; omega

/-- A pointer to a verdict that may be missing; its labels' slice. -/
def PV (w : World) (pv lv : Value) (o : Option Vd) : Prop := (o = none ∧ pv = .pointer none ∧ lv = .slice none 0 0) ∨ ∃ x p, o = some x ∧ pv = .pointer (some p) ∧ w.cell? ⟨p.block, p.off + 1, none⟩ = some (.int .i64 x.code) ∧ w.cell? ⟨p.block, p.off + 2, none⟩ = some lv ∧ In kLbl w lv x.labels
theorem PV.below {w w1 : World} {pv lv : Value} {o : Option Vd} (h : PV w pv lv o) (hb : Below w.heap.size w w1) : PV w1 pv lv o := by
  rcases h with h | ⟨x, p, h1, h2, h3, h4, h5⟩
  · exact .inl h
  · exact .inr ⟨x, p, h1, h2, pw_cell_below hb h3, pw_cell_below hb h4, h5.below hb⟩
theorem PV.labs {w : World} {pv lv : Value} {o : Option Vd} (h : PV w pv lv o) : In kLbl w lv ((o.map (·.labels)).getD []) := by
  rcases h with ⟨rfl, rfl, rfl⟩ | ⟨x, p, rfl, rfl, h3, h4, h5⟩
  · exact ⟨none, 0, rfl, Nat.le_refl _, Kd.C_nil _ _⟩
  · exact h5
theorem implCode {w : World} {pv lv : Value} {o : Option Vd} (h : PV w pv lv o) : Calls Try.prog 21 #[pv] w fun e w' => e = .returned (.int .i64 ((o.map (·.code)).getD (-1))) ∧ w' = w := by
  rcases h with ⟨rfl, rfl, rfl⟩ | ⟨x, p, rfl, rfl, h3, h4, h5⟩
  · go_enter Try.func21, Try.ntmps21
    go_wp2_with fail
    go_ret
    exact ⟨rfl, rfl⟩
  · go_enter Try.func21, Try.ntmps21
    go_wp2_with fail
    go_ret
    exact ⟨rfl, rfl⟩
theorem implLabs {w : World} {pv lv : Value} {o : Option Vd} (h : PV w pv lv o) : Calls Try.prog 23 #[pv] w fun e w' => e = .returned lv ∧ w' = w := by
  rcases h with ⟨rfl, rfl, rfl⟩ | ⟨x, p, rfl, rfl, h3, h4, h5⟩
  · go_enter Try.func23, Try.ntmps23
    go_wp2_with fail
    go_ret
    exact ⟨rfl, rfl⟩
  · obtain ⟨A, c, rfl, -, -⟩ := h5
    go_enter Try.func23, Try.ntmps23
    go_wp2_with fail
    go_ret
    exact ⟨rfl, rfl⟩
theorem implLast (T : Nat) (v : Value) (s : ByteArray) (xs : List Vd) (w : World) (hx : In (kVd T) w v xs) (hl : xs.length ≤ 1048576) :
    Calls Try.prog 20 #[v, .string s] w fun e w' => ∃ pv lv, e = .returned pv ∧ PV w pv lv (lastV xs s) ∧ w' = w := by
  obtain ⟨A, c, rfl, hc, hC⟩ := hx
  obtain ⟨L, hL⟩ : ∃ L, lastV xs s = L := ⟨_, rfl⟩
  rw [hL]
  replace hL := hid hL
  go_enter Try.func20, Try.ntmps20
  go_wp2_with fail
  go_loopg [5] xs.length (fun q vi wr => ∃ rest done : List Vd, q = rest.length ∧ Hid (xs = rest ++ done) ∧ vi = .int .i64 ((rest.length : Int) - 1) ∧ Hid (∀ d ∈ done, d.name ≠ s) ∧ wr = w)
  case atStart => exact ⟨xs, [], rfl, hid (by simp), rfl, hid (fun d hd => by cases hd), rfl⟩
  case round =>
    obtain ⟨rest, done, rfl, hxs, rfl, hno, rfl⟩ := hrel
    rcases List.eq_nil_or_concat rest with rfl | ⟨r, x, rfl⟩
    · obtain rfl : L = none := by rw [← hL.out]; exact lastV_none (by rw [show xs = done by simpa using hxs.out]; exact hno.out)
      have q : ¬ ((0 : Int) ≤ -1) := by decide
      go_wp2_with fail
      go_ret
      first | exact ⟨_, _, rfl, .inl ⟨rfl, rfl, rfl⟩, rfl⟩ | exact ⟨_, rfl, ⟨.slice none 0 0, .inl ⟨rfl, rfl, rfl⟩⟩⟩ | exact ⟨_, rfl, ⟨.slice none 0 0, .inl ⟨rfl, rfl, rfl⟩⟩, rfl⟩
    · rw [List.concat_eq_append] at hxs
      have hl1 : (r.concat x).length = r.length + 1 := by simp
      have hxs1 := hid (show xs = r ++ x :: done by rw [hxs.out]; simp)
      have hrl : r.length < xs.length := by rw [hxs1.out]; simp
      obtain ⟨ad, v2, rfl, d0, d1, d2, d3, k2⟩ := vd_at hC hxs1.out
      have p0 : (0 : Int) ≤ r.length := by omega
      have p1 : (r.length : Int) < xs.length := by omega
      by_cases hn : x.name = s
      · obtain rfl : L = some x := by rw [← hL.out, hxs1.out]; exact lastV_some hno.out hn
        have t1 : (x.name.toList == s.toList) = true := by rw [str_beq, decide_eq_true hn]
        have hn' := hid hn
        clear hn
        go_wp2_with fail
        go_ret
        exact ⟨_, v2, rfl, .inr ⟨x, _, rfl, rfl, d1, d2, k2⟩, rfl⟩
      · have t1 : (x.name.toList == s.toList) = false := by rw [str_beq, decide_eq_false hn]
        have hno' := hid (show ∀ d ∈ x :: done, d.name ≠ s by
          intro d hd
          rcases List.mem_cons.1 hd with rfl | hd
          · exact hn
          · exact hno.out d hd)
        clear hn
        go_wp2_with fail
        go_roundg r.length
        case measure => simp
        case rel => exact ⟨r, x :: done, rfl, hxs1, by simp, hno', rfl⟩
end Go.Proofs.Ytmjkjlifhlemlaa.H
