/- The reference's l28Apart: what one list of labels lacks of another. -/
import Derived.Test.YtmjkjlifhlemlaaC6
set_option linter.unusedVariables false
set_option linter.unusedSimpArgs false
set_option maxRecDepth 100000
set_option maxHeartbeats 2000000
namespace Go.Proofs.Ytmjkjlifhlemlaa.H
open Go.RowKit Go.Proofs.YtmjkjlifhlemlaaW.PrintWords Go.Proofs.YtmjkjlifhlemlaaW.PrintLast Go.Proofs.Ytmjkjlifhlemlaa.Base
theorem lbls_law (xs : List Lbl) : (lbls xs).Pairwise (fun a b => ltL a b = true) ∧ ∀ z, z ∈ lbls xs ↔ z ∈ xs := by
  rw [lbls_srt xs xs.length (Nat.le_refl _)]
  have h := Plain.srt_law leL_tot leL_tr leL_anti xs.length xs (Nat.le_refl _)
  refine ⟨h.1.imp (fun {a b} hab => ?_), h.2⟩
  obtain ⟨h1, h2⟩ := hab
  apply Classical.byContradiction
  intro h3
  exact h2 (ltL_tri a b (Bool.eq_false_iff.2 h3) (by unfold leL at h1; simpa using h1))
theorem ltL_ne {x y : Lbl} (h : ltL x y = true) : x ≠ y := fun e => by rw [e, ltL_irr] at h; cases h
/-- out = append(out, x), x of plain cells; which blocks are out's. -/
theorem R_pushO {P : Program} {ops : Array Oper} {rest' : List Oper} {o : Oper} {a : Act} {Q : Exit → Act → World → Prop} {α : Type} (d : Kd α) {w0 W : World} {base : Nat} (t e : TypeId) {s x : Operand} {z : Value} {bytes : Nat} (ho : o.op = .call { callee := .builtin .append, args := #[s, x], argTypes := #[t, t] }) (hgd : o.guard = none)
    (ht : P.underlying t = some (.slice e)) (hinfo : (P.info? e).map (fun i => (i.zero, i.size, i.bytes)) = some (some z, d.sz, bytes)) (hz : z.cells.size = d.sz) (hs0 : 0 < d.sz) (hb0 : 0 < bytes)
    {v : Value} {xs : List α} (p : α) {cs : List Value} {ok : Nat → Prop} (hs : a.eval s = v) (hx : a.eval x = .slice (some ⟨W.heap.size, 0, none⟩) 1 1) (hp : d.M W base (fun _ => False) p cs)
    (hfresh : ∀ k, W.heap.size ≤ k → ok k) (HO : d.R e W base ok v xs) (HB : Below base w0 W) (hbase : base ≤ W.heap.size) (hl : (xs.length + 1) * bytes ≤ 140737488355328)
    (h : ∀ v1 w1, d.R e w1 base ok v1 (xs ++ [p]) → Below base w0 w1 → W.grownBy w1 v.ownBlock → wpList P ops Q rest' (a.put o.dst v1) w1) : wpList P ops Q (o :: rest') a (W.alloc (.cells cs.toArray e)) :=
  Kd.R_append d base hgd s x t e z bytes ho ht hinfo hz hs0 hb0 v xs p cs _ _ hs hx hp (fun _ hk => hk.elim) hfresh HO HB hbase hl (fun v1 w1 h1 h2 h3 _ => h v1 w1 h1 h2 h3)
def hdLt : List Lbl → Lbl → Bool
  | [], _ => false
  | y :: _, z => ltL y z
def hdEq : List Lbl → Lbl → Bool
  | [], _ => false
  | y :: _, z => decide (y = z)
theorem specApart (u v : Value) (xs ys : List Lbl) (w : World) (hx : In kLbl w u xs) (hy : In kLbl w v ys) (hl : xs.length ≤ 1048576) (hl2 : ys.length ≤ 1048576) :
    Calls Try.prog 16 #[u, v] w fun e w' => ∃ v', e = .returned v' ∧ kLbl.R 62 w' w.heap.size (fun _ => True) v' (lack xs ys) ∧ Below w.heap.size w w' := by
  have kx := hx; have ky := hy
  obtain ⟨A0, c0, rfl, -, -⟩ := kx
  obtain ⟨A1, c1, rfl, -, -⟩ := ky
  go_enter Try.func16, Try.ntmps16
  go_wp2_with fail
  have he := R_empty kLbl 62 w (Nat.le_refl _)
  have hb0 : Below w.heap.size w (w.alloc (.cells #[] 62)) := bel
  obtain ⟨wa, hwa⟩ : ∃ wa, wa = w.alloc (.cells #[] 62) := ⟨_, rfl⟩
  rw [← hwa] at he hb0 ⊢
  replace hwa := hid hwa
  refine (specLSorted xs.length _ xs wa (hx.below hb0) (Nat.le_refl _) (by omega)).mono ?_
  rintro e w1 ⟨v1, rfl, ho1, hb1⟩
  rw [← lbls_srt xs xs.length (Nat.le_refl _)] at ho1
  obtain ⟨A2, c2, rfl⟩ := Kd.R_slice ho1
  replace he := Kd.R_below he hb1
  have hb1' := hb1.after hb0
  go_wp2_with fail
  refine (specLSorted ys.length _ ys w1 (hy.below hb1') (Nat.le_refl _) (by omega)).mono ?_
  rintro e w2 ⟨v2, rfl, ho2, hb2⟩
  rw [← lbls_srt ys ys.length (Nat.le_refl _)] at ho2
  obtain ⟨A3, c3, rfl⟩ := Kd.R_slice ho2
  replace he := Kd.R_below he hb2
  have hb2' := hb2.after hb1'
  replace ho1 := Kd.R_below ho1 hb2
  have sp1 : kLbl.R 62 w2 w.heap.size (fun k => wa.heap.size ≤ k ∧ k < w2.heap.size) _ _ := R_span ho1 hb0.size
  have sp2 : kLbl.R 62 w2 w.heap.size (fun k => wa.heap.size ≤ k ∧ k < w2.heap.size) _ _ := Kd.R_mono (R_span ho2 hb1'.size) (fun k hk => ⟨Nat.le_trans hb1.size hk.1, hk.2⟩)
  have he2 : kLbl.R 62 w2 w.heap.size (fun k => k < wa.heap.size ∨ w2.heap.size ≤ k) _ _ := ⟨fun k hk => by simp [Value.ownBlock] at hk; subst hk; left; rw [hwa.out]; simp, he.2.imp_ (fun p c hp => by obtain ⟨_, _, rfl, rfl, rfl⟩ := hp; exact kLbl_M p)⟩
  have hlx := lbls_len xs
  have hly := lbls_len ys
  obtain ⟨hpx, -⟩ := lbls_law xs
  obtain ⟨hpy, hmy⟩ := lbls_law ys
  have hlack := hid (show lack xs ys = (lbls xs).filter (fun z => !(lbls ys).contains z) by
    unfold lack
    apply List.filter_congr
    intro z _
    have := hmy z
    simp [this])
  generalize lbls xs = ps at *
  generalize lbls ys = qs at *
  have hpx := hid hpx
  have hpy := hid hpy
  have hw2 := hid hb2'
  have sp1' := hid sp1
  have sp2' := hid sp2
  clear hmy ho1 ho2 hb1 hb2 hb1' hb0 hb2' he sp1 sp2
  rename_i hpx0 hpy0
  clear hpx0 hpy0
  have hpsl : ps.length ≤ 1048576 := by omega
  have hqsl : qs.length ≤ 1048576 := by omega
  have hbase := hw2.out.size
  go_wp2_with fail
  go_loopg [5, 8, 9] ps.length (fun q vo vk vi wr => ∃ dx rx dy ry O : List Lbl, q = rx.length ∧ Hid (O = dx.filter (fun z => !qs.contains z)) ∧ O.length ≤ dx.length ∧ Hid (ps = dx ++ rx) ∧ Hid (qs = dy ++ ry) ∧ vk = .int .i64 dy.length ∧ vi = .int .i64 dx.length ∧ Hid (∀ d ∈ dy, ∀ z ∈ rx, ltL d z = true) ∧ Hid (kLbl.R 62 wr w.heap.size (fun k => wa.heap.size ≤ k ∧ k < w2.heap.size) (.slice A2 ps.length c2) ps) ∧ Hid (kLbl.R 62 wr w.heap.size (fun k => wa.heap.size ≤ k ∧ k < w2.heap.size) (.slice A3 qs.length c3) qs) ∧ kLbl.R 62 wr w.heap.size (fun k => k < wa.heap.size ∨ w2.heap.size ≤ k) vo O ∧ w2.heap.size ≤ wr.heap.size ∧ Below w.heap.size w wr)
  case atStart => exact ⟨[], ps, [], qs, [], rfl, hid rfl, Nat.le_refl _, hid rfl, hid rfl, rfl, rfl, hid (fun d hd => by cases hd), sp1', sp2', he2, Nat.le_refl _, hw2.out⟩
  case round =>
    obtain ⟨dx, rx, dy, ry, O, rfl, hO, hOl, hxs, hys, rfl, rfl, hlt1, hsx, hsy, ho, hw2r, hbw⟩ := hrel
    cases rx with
    | nil =>
      have hli : ¬ dx.length < ps.length := by rw [hxs.out]; simp
      have ho' := hid ho
      clear ho
      go_wp2_with fail
      go_ret
      exact ⟨_, rfl, by rw [hlack.out, show ps = dx by simpa using hxs.out, ← hO.out]; exact Kd.R_mono ho'.out (fun _ _ => trivial), hbw⟩
    | cons z rx =>
      obtain ⟨wq, hwq⟩ : ∃ w', w' = wr := ⟨_, rfl⟩
      subst hwq
      have hli : dx.length < ps.length := by rw [hxs.out]; simp
      have ho' := hid ho
      obtain ⟨Ao, co, rfl⟩ := Kd.R_slice ho
      clear ho
      go_wp2_with fail
      go_loopg [8] ry.length (fun q vk wx => ∃ dy ry : List Lbl, q = ry.length ∧ Hid (qs = dy ++ ry) ∧ vk = .int .i64 dy.length ∧ Hid (∀ d ∈ dy, ltL d z = true) ∧ Below wq.heap.size wq wx)
      case atStart => exact ⟨dy, ry, rfl, hys, rfl, hid (fun d hd => hlt1.out d hd z (by simp)), bel⟩
      case round =>
        clear hys hlt1 
        obtain ⟨dy, ry, rfl, hys, rfl, hlt2, hbx⟩ := hrel
        have hdx := hid (show dx.length + (z :: rx).length = ps.length by rw [hxs.out]; simp)
        have hdy := hid (show dy.length + ry.length = qs.length by rw [hys.out]; simp)
        have hdy2 : dy.length ≤ qs.length := by have := hdy.out; omega
        have hCx4 := Kd.C_below (Kd.R_reads' hsx.out).2.2 hbx
        have hCy4 := Kd.C_below (Kd.R_reads' hsy.out).2.2 hbx
        obtain ⟨adx, rfl, z0, z1⟩ := lbl_at hCx4 hxs.out
        have p0 : (0 : Int) ≤ dx.length := by omega
        have p1 : (dx.length : Int) < ps.length := by omega
        obtain ⟨tk, htk⟩ : ∃ tk : Bool, tk = hdLt ry z := ⟨_, rfl⟩
        replace htk := hid htk
        go_upto_region 8 with fail
        go_cut [35] (fun b wx => b = Value.bool tk ∧ Below wr.heap.size wr wx)
        case first =>
          replace htk := htk.out
          cases ry with
          | nil =>
            subst htk
            have hlk : ¬ dy.length < qs.length := by have := hdy.out; simp at this; omega
            have q1 : decide ((dy.length : Int) < qs.length) = false := by simp; omega
            have q2 : decide (dy.length < qs.length) = false := by simp; omega
            clear hlk
            go_quiet (fail)
            go_wp2_with fail
            go_meet
            case rel => exact ⟨rfl, bel⟩
          | cons y0 ry =>
            have hlk : dy.length < qs.length := by have := hdy.out; simp at this; omega
            obtain ⟨ady, rfl, y1, y2⟩ := lbl_at hCy4 hys.out
            have q1 : decide ((dy.length : Int) < qs.length) = true := by simp; omega
            have q2 : decide (dy.length < qs.length) = true := by simp; omega
            have p2 : (0 : Int) ≤ dy.length := by omega
            have p3 : (dy.length : Int) < qs.length := by omega
            subst htk
            clear hlk
            go_region_held3 (fun w' => Below wr.heap.size wr w' ∧ w'.cell? (adx.add (dx.length * 2)) = some (.int .i64 z.kind) ∧ w'.cell? ⟨(adx.add (dx.length * 2)).block, (adx.add (dx.length * 2)).off + 1, none⟩ = some (.string z.name) ∧ w'.cell? (ady.add (dy.length * 2)) = some (.int .i64 y0.kind) ∧ w'.cell? ⟨(ady.add (dy.length * 2)).block, (ady.add (dy.length * 2)).off + 1, none⟩ = some (.string y0.name)) (first | exact ⟨bel, by assumption, by assumption, by assumption, by assumption⟩ | (refine ⟨bel, ?_⟩; go_keep) | go_keep)
              (first | (go_at_call 31; refine (specLess y0 z _).mono ?_; rintro e w3 ⟨rfl, hb3⟩; have hb9 : Below wr.heap.size wr w3 := hb3.after bel; have k1 := pw_cell_below hb3 (by assumption : _ = some (Value.int .i64 z.kind)); have k2 := pw_cell_below hb3 (by assumption : _ = some (Value.string z.name)); have k3 := pw_cell_below hb3 (by assumption : _ = some (Value.int .i64 y0.kind)); have k4 := pw_cell_below hb3 (by assumption : _ = some (Value.string y0.name))))
            go_wp2_with fail
            go_meet
            case rel => exact ⟨rfl, hb9⟩
        case rest =>
          obtain ⟨w5, hw5⟩ : ∃ w5, w5 = wc := ⟨_, rfl⟩
          subst hw5
          obtain ⟨rfl, hb5⟩ := hcut
          have hb5' := hb5.after hbx
          cases tk with
          | true =>
            cases ry with
            | nil => exact absurd htk.out (by simp [hdLt])
            | cons y0 ry =>
              have hlt3 := hid (show ∀ d ∈ dy ++ [y0], ltL d z = true by
                intro d hd
                rcases List.mem_append.1 hd with hd | hd
                · exact hlt2.out d hd
                · rw [List.mem_singleton.1 hd]; exact htk.out.symm)
              have hys' := hid (show qs = (dy ++ [y0]) ++ ry by rw [hys.out]; simp)
              clear z0 z1
              go_wp2_with fail
              go_roundg ry.length
              case measure => simp
              case rel => exact ⟨dy ++ [y0], ry, rfl, hys', by simp, hlt3, hb5'⟩
          | false =>
            have hCx5 := Kd.C_below hCx4 hb5
            have hCy5 := Kd.C_below hCy4 hb5
            obtain ⟨adx', e9, z0, z1⟩ := lbl_at hCx5 hxs.out
            injection e9 with e9
            subst e9
            have hmem := hid (show qs.contains z = hdEq ry z by
              have h1 := hys.out
              have h2 := hpy.out
              rw [h1] at h2 ⊢
              have hd : z ∉ dy := fun h => ltL_ne (hlt2.out z h) rfl
              cases ry with
              | nil => simpa [hdEq] using hd
              | cons y0 ry =>
                by_cases e : y0 = z
                · subst e; simp [hdEq]
                · have h3 : ltL y0 z = false := htk.out.symm
                  have h4 : ltL z y0 = true := by
                    apply Classical.byContradiction
                    intro h5
                    exact e (ltL_tri _ _ h3 (Bool.eq_false_iff.2 h5))
                  have h6 := (List.pairwise_append.1 h2).2.1
                  have h7 : z ∉ ry := fun h => by
                    have h8 := (List.pairwise_cons.1 h6).1 z h
                    rw [h8] at h3; cases h3
                  simp [hdEq, hd, h7, e, Ne.symm e])
            obtain ⟨tp, htp⟩ : ∃ tp : Bool, tp = !hdEq ry z := ⟨_, rfl⟩
            replace htp := hid htp
            have hlt4 := hid (show ∀ d ∈ dy, ∀ z' ∈ rx, ltL d z' = true by
              intro d hd z' hz'
              have h2 := hpx.out
              rw [hxs.out] at h2
              exact ltL_tr d z z' (hlt2.out d hd) ((List.pairwise_cons.1 (List.pairwise_append.1 h2).2.1).1 z' hz'))
            have hxs' := hid (show ps = (dx ++ [z]) ++ rx by rw [hxs.out]; simp)
            have hbw5 := hbw.trans (hb5'.mono hbw.size)
            have ho5 := hid (Kd.R_below ho'.out hb5')
            have hsx5 := hid (Kd.R_below hsx.out hb5')
            have hsy5 := hid (Kd.R_below hsy.out hb5')
            have hs5 := hb5'.size
            clear hb5 hb5' hbx hCx4 hCy4
            go_upto_region 10 with fail
            go_cut [52] (fun b wx => b = Value.bool tp ∧ ∃ m : Nat, wx = World.drewN w5 m)
            case first =>
              replace htp := htp.out
              cases ry with
              | nil =>
                subst htp
                have hlk : ¬ dy.length < qs.length := by have := hdy.out; simp at this; omega
                have q1 : decide ((qs.length : Int) ≤ dy.length) = true := by simp; omega
                have q2 : decide (qs.length ≤ dy.length) = true := by simp; omega
                clear hlk
                go_quiet (fail)
                go_wp2_with fail
                go_meet
                case rel => exact ⟨rfl, _, rfl⟩
              | cons y0 ry =>
                have hlk : dy.length < qs.length := by have := hdy.out; simp at this; omega
                obtain ⟨ady, rfl, y1, y2⟩ := lbl_at hCy5 hys.out
                have q1 : decide ((qs.length : Int) ≤ dy.length) = false := by simp; omega
                have q2 : decide (qs.length ≤ dy.length) = false := by simp; omega
                have p2 : (0 : Int) ≤ dy.length := by omega
                have p3 : (dy.length : Int) < qs.length := by omega
                have t1 := eqLblRun y0 z
                have t2 : decide (y0 = z) = !tp := by rw [htp]; simp [hdEq]
                rw [t2] at t1
                clear hlk htp t2
                go_quiet (fail)
                go_wp2_with fail
                go_meet
                case rel => exact ⟨by simp, _, rfl⟩
            case rest =>
              obtain ⟨rfl, m, rfl⟩ := hcut
              have hbw6 := pw_below_drewN hbw5 m
              have hs6 := hbw6.size
              replace ho5 := hid (Kd.R_drewN ho5.out m)
              replace hsx5 := hid (Kd.R_drewN hsx5.out m)
              replace hsy5 := hid (Kd.R_drewN hsy5.out m)
              have hs7 : w2.heap.size ≤ (World.drewN w5 m).heap.size := by simp; omega
              cases tp with
              | false =>
                have hf := hid (show O = (dx ++ [z]).filter (fun z => !qs.contains z) by
                  have h := htp.out
                  rw [← hmem.out] at h
                  rw [List.filter_append, ← hO.out]
                  simp at h
                  simp [h])
                clear z0 z1
                go_wp2_with fail
                go_roundg rx.length
                case measure => simp
                case rel => exact ⟨dx ++ [z], rx, dy, ry, O, rfl, hf, by simp; omega, hxs', hys, rfl, by simp, hlt4, hsx5, hsy5, ho5.out, hs7, hbw6⟩
              | true =>
                have hf := hid (show O ++ [z] = (dx ++ [z]).filter (fun z => !qs.contains z) by
                  have h := htp.out
                  rw [← hmem.out] at h
                  rw [List.filter_append, ← hO.out]
                  simp at h
                  simp [h])
                have ho6 := ho5.out
                have hown := hid ((Kd.R_own ho6).imp fun _ h => h)
                have hok := hid ho6.1
                go_wp2_with (at_builtin; refine R_pushO kLbl (w0 := w) 38 62 rfl rfl Try.underlying38 infoLbl rfl (by decide) (by decide) z rfl rfl (kLbl_M _) (fun k hk => .inr (Nat.le_trans hs7 hk)) ho6 hbw6 hs6 (by omega) ?_; intro v3 w7 ho3 hb3 hg3; clear ho6)
                have hsx7 := hid (Kd.R_grown hsx5.out hg3 (fun k hk he => by have := hok.out k he.symm; omega))
                have hsy7 := hid (Kd.R_grown hsy5.out hg3 (fun k hk he => by have := hok.out k he.symm; omega))
                have hs8 := Nat.le_trans hs7 hg3.size
                clear z0 z1 hg3
                go_roundg rx.length
                case measure => simp
                case rel => exact ⟨dx ++ [z], rx, dy, ry, O ++ [z], rfl, hf, by simp; omega, hxs', hys, rfl, by simp, hlt4, hsx7, hsy7, ho3, hs8, hb3⟩
end Go.Proofs.Ytmjkjlifhlemlaa.H
