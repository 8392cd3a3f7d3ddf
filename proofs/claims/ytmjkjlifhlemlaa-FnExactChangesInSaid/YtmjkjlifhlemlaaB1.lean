/- slices.Grow and slices.Concat at strings; names of two lists together. -/
import Derived.Test.YtmjkjlifhlemlaaH1
set_option linter.unusedVariables false
set_option linter.unusedSimpArgs false
set_option maxRecDepth 100000
set_option maxHeartbeats 400000
namespace Go.Proofs.Ytmjkjlifhlemlaa.H
open Go.RowKit Go.Proofs.YtmjkjlifhlemlaaW.PrintWords Go.Proofs.YtmjkjlifhlemlaaW.PrintLast Go.Proofs.Ytmjkjlifhlemlaa.Base
theorem grown_empty {α : Type} (d : Kd α) (e : Nat) (z : Array Value) (w : World) (n cap : Nat) (hz : z.size = d.sz) (h1 : n ≤ cap) (h2 : cap ≤ maxLen) :
    d.R e ((w.alloc (.cells (Builtin.zeroCells z n ++ Builtin.zeroCells z (cap - n)) e)).drew) w.heap.size (fun _ => True) (.slice (some ⟨w.heap.size, 0, none⟩) 0 cap) [] := by
  have hz2 : (Builtin.zeroCells z n ++ Builtin.zeroCells z (cap - n)).size = cap * d.sz := by
    rw [Array.size_append, size_zeroCells, size_zeroCells, hz, ← Nat.add_mul]
    congr 1
    omega
  have hh : ((w.alloc (.cells (Builtin.zeroCells z n ++ Builtin.zeroCells z (cap - n)) e)).drew).heap[w.heap.size]? = some (.cells (Builtin.zeroCells z n ++ Builtin.zeroCells z (cap - n)) e (0, 0)) := Array.getElem?_push_size
  have ho : ((w.alloc (.cells (Builtin.zeroCells z n ++ Builtin.zeroCells z (cap - n)) e)).drew).ownsRow w.heap.size e d.sz (.slice (some ⟨w.heap.size, 0, none⟩) 0 cap) 0 [] :=
    ⟨by simp, .inr ⟨w.heap.size, cap, _, rfl, Nat.le_refl _, hh, Nat.zero_le _, h2, hz2, by simp⟩⟩
  exact ⟨fun _ _ => trivial, [], ho, Reps.none _ _⟩
theorem growS (n : Nat) (w : World) (hn : n ≤ 4194304) :
    Calls Try.prog 44 #[.slice none 0 0, .int .i64 n] w fun e w' => ∃ v', e = .returned v' ∧ kS.R 9 w' w.heap.size (fun _ => True) v' [] ∧ Below w.heap.size w w' := by
  by_cases h0 : n = 0
  · subst h0
    go_enter Try.func44, Try.ntmps44
    go_wp2_with fail
    go_ret
    exact ⟨_, rfl, Kd.R_nil _ _ _ _ _, bel⟩
  · have hp : (0 : Int) < n := by omega
    have h0' := hid h0
    clear h0
    go_enter Try.func44, Try.ntmps44
    have hb : Try.t9.bytes = 16 := rfl
    have hc := nextslicecap_zero (need := n) (by omega)
    have g1 := grownCap_ge w n 0 9
    have g2 := grownCap_le_maxLen w n 0 9 (by unfold maxLen; omega)
    unfold grownCap at g1 g2
    have hc1 : ¬ (281474976710656 < Builtin.nextslicecap n 0 * 16) := by rw [hc]; omega
    have hc2 : ¬ ((281474976710656 : Int) < n * 16) := by omega
    go_wp2_with fail
    generalize (Question.appendCap n 0 9).cut (w.tape w.drawn (Question.appendCap n 0 9)) = cp at *
    go_ret
    exact ⟨_, rfl, grown_empty kS _ _ w n cp rfl g1 g2, bel⟩
theorem lst_at {α : Type} {e : Nat} {d : Kd α} {w : World} {A : Option Addr} {n : Nat} {xss done rest : List (List α)} {xs : List α} (h : (K.aslice e d).C w A n xss) (hx : xss = done ++ xs :: rest) :
    ∃ ad A' c', A = some ad ∧ w.cell? (ad.add done.length) = some (.slice A' xs.length c') ∧ xs.length ≤ c' ∧ d.C w A' xs.length xs := by
  obtain ⟨ad, c, e, _, hK, hc0⟩ := C_at h hx
  have hc : ∀ j u, c[j]? = some u → w.cell? (ad.add (done.length * 1 + j)) = some u := hc0
  obtain ⟨A', c', rfl, hl, hC⟩ := hK
  exact ⟨ad, A', c', e, by have := hc 0 _ rfl; rwa [Nat.mul_one, Nat.add_zero] at this, hl, hC⟩
section
variable {P : Program} {ops : Array Oper} {rest : List Oper} {o : Oper} {a : Act} {Q : Exit → Act → World → Prop} {α : Type}
/-- append(out, ys...), ys read: elements without rows of their own. -/
theorem R_rows (d : Kd α) {w0 W : World} {base : Nat} (t e : TypeId) {s x : Operand} {z : Value} {bytes : Nat} (ho : o.op = .call { callee := .builtin .append, args := #[s, x], argTypes := #[t, t] }) (hgd : o.guard = none)
    (ht : P.underlying t = some (.slice e)) (hinfo : (P.info? e).map (fun i => (i.zero, i.size, i.bytes)) = some (some z, d.sz, bytes)) (hz : z.cells.size = d.sz) (hs0 : 0 < d.sz) (hb0 : 0 < bytes)
    {v : Value} {xs ys : List α} {A : Option Addr} {m c : Nat} (hs : a.eval s = v) (hx : a.eval x = .slice A m c) (HO : d.R e W base (fun _ => True) v xs) (HC : d.C W A m ys)
    (hKM : ∀ x cs, d.K W x cs → d.M W base (fun _ => False) x cs) (HB : Below base w0 W) (hbase : base ≤ W.heap.size) (hl : (xs.length + m) * bytes ≤ 140737488355328)
    (h : ∀ v1 w1, d.R e w1 base (fun _ => True) v1 (xs ++ ys) → Below base w0 w1 → W.grownBy w1 v.ownBlock → wpList P ops Q rest (a.put o.dst v1) w1) : wpList P ops Q (o :: rest) a W :=
  Kd.R_append_rows d base hgd s x t e z bytes ho ht hinfo hz hs0 hb0 v xs ys A m c _ (fun _ => False) hs hx HO HC hKM (fun _ hk => hk.elim) (fun _ _ => trivial) HB hbase hl (fun v1 w1 h1 h2 h3 _ => h v1 w1 h1 h2 h3)
end
def sumLen {α : Type} : List (List α) → Nat
  | [] => 0
  | x :: r => x.length + sumLen r
theorem sumLen_app {α : Type} : ∀ xs ys : List (List α), sumLen (xs ++ ys) = sumLen xs + sumLen ys
  | [], ys => by simp [sumLen]
  | x :: r, ys => by simp [sumLen, sumLen_app r ys]; omega
theorem flat_len {α : Type} : ∀ xs : List (List α), xs.flatten.length = sumLen xs
  | [] => rfl
  | x :: r => by simp [sumLen, flat_len r]
theorem concatS (E : Nat) (v : Value) (xss : List (List ByteArray)) (w : World) (hx : In (K.aslice E kS) w v xss) (hn : sumLen xss ≤ 4194304) (hl : xss.length ≤ 4194304) :
    Calls Try.prog 34 #[v] w fun e w' => ∃ v', e = .returned v' ∧ kS.R 9 w' w.heap.size (fun _ => True) v' xss.flatten ∧ Below w.heap.size w w' := by
  obtain ⟨A, c, rfl, hc, hC⟩ := hx
  go_enter Try.func34, Try.ntmps34
  go_wp2_with fail
  go_loopw [3, 5, 11] (fun vn _ vi wr => ∃ done rest : List (List ByteArray), Hid (xss = done ++ rest) ∧ vi = .int .i64 done.length ∧ vn = .int .i64 (sumLen done) ∧ Below w.heap.size w wr) (fun _ _ vi _ => xss.length - (intOf vi).toNat)
  case atStart => exact ⟨[], xss, rfl, rfl, rfl, bel⟩
  case round =>
    obtain ⟨done, rest, hx, rfl, rfl, hb⟩ := hrel
    have hsum : sumLen done + sumLen rest ≤ 4194304 := by rw [← sumLen_app, ← hx.out]; exact hn
    cases rest with
    | cons x rest =>
      have hlt : done.length < xss.length := by rw [hx.out]; simp
      obtain ⟨ad, A', c', rfl, d0, hcx, hCx⟩ := lst_at (Kd.C_below hC hb) hx.out
      have hsx : sumLen done + x.length ≤ 4194304 := by have h2 : sumLen (x :: rest) = x.length + sumLen rest := rfl; omega
      go_wp2_with fail
      go_roundw
      case rel => exact ⟨done ++ [x], rest, hid (by rw [hx.out]; simp), by simp, by rw [sumLen_app]; simp [sumLen], hb⟩
      case measure => simp [intOf]; omega
    | nil =>
      have hlt : ¬ done.length < xss.length := by rw [hx.out]; simp
      have hd : sumLen done ≤ 4194304 := by omega
      go_wp2_with fail
      refine (growS (sumLen done) _ hd).mono ?_
      rintro e w1 ⟨v1, rfl, ho1, hb1⟩
      have ho1 := Kd.R_lower ho1 hb.size
      have hb1' := hb1.after hb
      clear hx hlt hsum hd
      go_wp2_with fail
      go_loopw [6, 8, 27] (fun vo _ vi wr => ∃ done rest : List (List ByteArray), Hid (xss = done ++ rest) ∧ vi = .int .i64 done.length ∧ kS.R 9 wr w.heap.size (fun _ => True) vo done.flatten ∧ Below w.heap.size w wr) (fun _ _ vi _ => xss.length - (intOf vi).toNat)
      case atStart => exact ⟨[], xss, rfl, rfl, ho1, hb1'⟩
      case round =>
        obtain ⟨done, rest, hx, rfl, ho, hb⟩ := hrel
        have hsum : sumLen done + sumLen rest ≤ 4194304 := by rw [← sumLen_app, ← hx.out]; exact hn
        cases rest with
        | nil =>
          have hlt : ¬ done.length < xss.length := by rw [hx.out]; simp
          go_wp2_with fail
          go_ret
          exact ⟨_, rfl, by rw [hx.out, List.append_nil]; exact ho, hb⟩
        | cons x rest =>
          have hlt : done.length < xss.length := by rw [hx.out]; simp
          obtain ⟨ad, A', c', rfl, d0, hcx, hCx⟩ := lst_at (Kd.C_below hC hb) hx.out
          have hfl := flat_len done
          have hsx : sumLen done + x.length ≤ 4194304 := by have h2 : sumLen (x :: rest) = x.length + sumLen rest := rfl; omega
          go_wp2_with (at_builtin; refine R_rows kS (w0 := w) 37 9 rfl rfl Try.underlying37 infoS rfl (by decide) (by decide) rfl rfl ho hCx (fun _ _ hk => hk) hb hb.size (by omega) ?_; intro v2 w2 ho2 hb2 hg2; clear ho)
          go_roundw
          case rel => exact ⟨done ++ [x], rest, hid (by rw [hx.out]; simp), by simp, by simpa using ho2, hb2⟩
          case measure => simp [intOf]; omega
end Go.Proofs.Ytmjkjlifhlemlaa.H
