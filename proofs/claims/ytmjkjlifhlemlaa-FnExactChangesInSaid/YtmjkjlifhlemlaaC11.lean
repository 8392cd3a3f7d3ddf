/- The program's ChangesIn. -/
import Derived.Test.YtmjkjlifhlemlaaC9
import Derived.Test.YtmjkjlifhlemlaaC10
set_option linter.unusedVariables false
set_option linter.unusedSimpArgs false
set_option maxRecDepth 100000
set_option maxHeartbeats 4000000
namespace Go.Proofs.Ytmjkjlifhlemlaa.H
open Go.RowKit Go.Proofs.YtmjkjlifhlemlaaW.PrintWords Go.Proofs.YtmjkjlifhlemlaaW.PrintLast Go.Proofs.Ytmjkjlifhlemlaa.Base
theorem some_of_name {a b : List Vd} {n : ByteArray} (h : n ∈ namesV a b) : (lastV a n).isSome = true ∨ (lastV b n).isSome = true := by
  unfold namesV at h
  rw [namesOf_srt _ _ (Nat.le_refl _), (Plain.srt_law leB_tot leB_tr leB_anti _ _ (Nat.le_refl _)).2] at h
  have key : ∀ c : List Vd, n ∈ c.map (·.name) → (lastV c n).isSome = true := by
    intro c hc
    obtain ⟨x, hx, rfl⟩ := List.mem_map.1 hc
    unfold lastV
    rw [List.find?_isSome]
    exact ⟨x, List.mem_reverse.2 hx, by simp⟩
  rcases List.mem_append.1 h with h | h
  · exact .inl (key a h)
  · exact .inr (key b h)
theorem implChanges (T : Nat) (u v : Value) (xs ys : List Vd) (w : World) (hx : In (kVd T) w u xs) (hy : In (kVd T) w v ys) (hl : xs.length ≤ 1048576) (hl2 : ys.length ≤ 1048576) (hi : ∀ x ∈ xs, x.labels.length ≤ 1048576) (hi2 : ∀ x ∈ ys, x.labels.length ≤ 1048576) :
    Calls Try.prog 7 #[u, v] w fun e w' => ∃ v', e = .returned v' ∧ (kChg 62).S 46 w' w.heap.size (fun _ => True) v' (chgs xs ys) ∧ Below w.heap.size w w' := by
  have kx := hx; have ky := hy
  obtain ⟨A0, c0, rfl, hc0, hC0⟩ := kx
  obtain ⟨A1, c1, rfl, hc1, hC1⟩ := ky
  by_cases hbig : 30 < xs.length ∨ 30 < ys.length
  · have H := hid (show chgs xs ys = [] from if_pos hbig)
    go_enter Try.func7, Try.ntmps7
    go_upto_region 1 with fail
    go_cut [21] (fun b wx => b = Value.bool true ∧ wx = w)
    case first =>
      by_cases h1 : 30 < xs.length
      · have h1' : (30 : Int) < xs.length := by omega
        clear hbig
        go_wp2_with fail
        go_meet
        case rel => exact ⟨rfl, rfl⟩
      · have h2' : 30 < ys.length := by omega
        have h1' : ¬ (30 : Int) < xs.length := by omega
        have h3' : (30 : Int) < ys.length := by omega
        clear hbig
        go_wp2_with fail
        go_meet
        case rel => exact ⟨rfl, rfl⟩
    case rest =>
      obtain ⟨rfl, rfl⟩ := hcut
      go_wp2_with fail
      go_ret
      exact ⟨_, rfl, by rw [H.out]; exact Kd.S_nil _ _ _ _ _, bel⟩
  · have hx30 : xs.length ≤ 30 := by omega
    have hy30 : ys.length ≤ 30 := by omega
    have H := hid (show chgs xs ys = chgsOf xs ys (namesV xs ys) from if_neg hbig)
    have h1' : ¬ (30 : Int) < xs.length := by omega
    have h2' : ¬ (30 : Int) < ys.length := by omega
    clear hbig
    have hxn := kVn_of hx
    have hyn := kVn_of hy
    go_enter Try.func7, Try.ntmps7
    go_wp2_with fail
    have hn0 := R_emptyAt kS 9 (W := w) rfl
    have hn0' : kS.R 9 (w.alloc (Obj.cells #[] 9)) w.heap.size (fun k => k < w.heap.size + 1) (.slice (some ⟨w.heap.size, 0, none⟩) 0 0) [] := ⟨fun k hk => by simp [Value.ownBlock] at hk; omega, hn0.2.imp_ (fun _ _ hp => hp)⟩
    have hb0 : Below w.heap.size w (w.alloc (Obj.cells #[] 9)) := bel
    have hB1 : (w.alloc (Obj.cells #[] 9)).heap.size = w.heap.size + 1 := by simp
    obtain ⟨X, hX⟩ : ∃ X, X = xs.map (·.name) := ⟨_, rfl⟩
    obtain ⟨Y, hY⟩ : ∃ Y, Y = ys.map (·.name) := ⟨_, rfl⟩
    have hlX : X.length = xs.length := by rw [hX]; simp
    have hlY : Y.length = ys.length := by rw [hY]; simp
    rw [← hX, ← hlX] at hxn
    rw [← hY, ← hlY] at hyn
    have h1 := concatV 0 _ [X, Y] _ (inTwoK (t := 26) (hxn.below hb0) (hyn.below hb0)) (by simp [sumLen]; omega) (by simp)
    rw [hlX, hlY, show [X, Y].flatten = X ++ Y by simp] at h1
    simp only [hB1] at h1
    generalize w.alloc (Obj.cells #[] 9) = wa at *
    refine h1.mono ?_
    clear h1
    rintro e w1 ⟨v1, rfl, ho1, hb1⟩
    obtain ⟨A2, c2, rfl⟩ := Kd.R_slice ho1
    have hbw1 : Below w.heap.size w w1 := hb1.after (hb0.trans ((below_alloc (Below.refl _ _) _).mono (by omega)))
    have hba1 : Below wa.heap.size wa w1 := hb1.after (below_alloc (Below.refl _ _) _)
    have hz1 : w.heap.size + 1 ≤ w1.heap.size := by have := hba1.size; omega
    have hV := hid (show kVn.R 40 w1 w.heap.size (fun k => w.heap.size + 1 ≤ k ∧ k < w1.heap.size) (.slice A2 (X ++ Y).length c2) (X ++ Y) from Kd.R_lower (Kd.R_mono (Kd.R_bound ho1) (fun k hk => ⟨by have := hk.2.1; simp at this; omega, hk.2.2.1⟩)) (by simp; omega))
    have hN := hid (show kS.R 9 w1 w.heap.size (fun k => k < w.heap.size + 1 ∨ w1.heap.size ≤ k) (.slice (some ⟨w.heap.size, 0, none⟩) 0 0) [] from Kd.R_mono (Kd.R_below hn0' hba1) (fun k hk => .inl hk))
    have hzs : namesV xs ys = namesOf (X ++ Y) := by rw [hX, hY]; rfl
    have hzl : (X ++ Y).length ≤ 60 := by simp; omega
    replace hzs := hid hzs
    obtain ⟨zs, hzs2⟩ : ∃ zs, X ++ Y = zs := ⟨_, rfl⟩
    rw [hzs2] at hV hzs hzl
    have hzs3 := hid hzs2
    have hzlen : (X ++ Y).length = zs.length := by rw [hzs2]
    rw [hzs2]
    clear ho1 hb1 hn0 hn0' hxn hyn hX hY hzs2
    clear hzlen
    replace hlX := hid hlX
    replace hlY := hid hlY
    go_wp2_with fail
    go_loopg [5, 28] zs.length (fun q vn vi wr => ∃ (done rest : List ByteArray), q = rest.length ∧ Hid (zs = done ++ rest) ∧ vi = .int .i64 done.length ∧ Hid (kVn.R 40 wr w.heap.size (fun k => w.heap.size + 1 ≤ k ∧ k < w1.heap.size) (.slice A2 zs.length c2) zs) ∧ kS.R 9 wr w.heap.size (fun k => k < w.heap.size + 1 ∨ w1.heap.size ≤ k) vn done ∧ w1.heap.size ≤ wr.heap.size ∧ Below w.heap.size w wr)
    case atStart => exact ⟨[], zs, rfl, hid rfl, rfl, hV, hN.out, Nat.le_refl _, hbw1⟩
    case round =>
      clear hV hN hbw1
      obtain ⟨done, rest, rfl, hz, rfl, hV, hR, hsz, hbw⟩ := hrel
      have hzl2 := hid (congrArg List.length hz.out)
      have hbs := hbw.size
      cases rest with
      | cons x rest =>
        have hlt : done.length < zs.length := by rw [hz.out]; simp
        have hCv := (Kd.R_reads' hV.out).2.2
        obtain ⟨ad, i, A3, m, c, j, rfl, d0, d1, d2, d3⟩ := vn_at hCv hz.out
        have hz' := hid (show zs = (done ++ [x]) ++ rest by rw [hz.out]; simp)
        have hok := hid hR.1
        have hfr : ∀ k, (wr.alloc (Obj.cells #[Value.string x, Value.int .i64 i, Value.slice A3 m c, Value.int .i64 j] 40)).heap.size ≤ k → (k < w.heap.size + 1 ∨ w1.heap.size ≤ k) := fun k hk => .inr (by simp at hk; omega)
        go_wp2_with (at_builtin; refine R_pushO kS (w0 := w) 37 9 rfl rfl Try.underlying37 infoS rfl (by decide) (by decide) x rfl (by exact congrArg (fun n => Value.slice (some ⟨n, 0, none⟩) 1 1) (show wr.heap.size + 1 = (World.alloc _ _).heap.size from (Array.size_push _).symm)) rfl hfr (Kd.R_alloc hR _) (hbw.alloc hbs _) (Nat.le_trans hbs (by simp)) (by omega) ?_; intro v3 w6 ho3 hb3 hg3; clear hR)
        have hV6 := hid (Kd.R_grown (Kd.R_alloc hV.out _) hg3 (fun k hk he => by have := hok.out k he.symm; omega))
        have hz6 : w1.heap.size ≤ w6.heap.size := by have := hg3.size; simp at this; omega
        clear hg3 d0 d1 d2 d3
        go_roundg rest.length
        case measure => simp
        case rel => exact ⟨done ++ [x], rest, rfl, hz', by simp, hV6, ho3, hz6, hb3⟩
      | nil =>
        have hlt : ¬ done.length < zs.length := by have := hzl2.out; simp at this; omega
        have hzd : zs = done := by simpa using hz.out
        obtain ⟨A4, c4, rfl⟩ := Kd.R_slice hR
        have hIn := In.ofR hR
        subst hzd
        obtain ⟨wq, hwq⟩ : ∃ w', w' = wr := ⟨_, rfl⟩
        subst hwq
        have hS0 : (kChg 62).S 46 (wq.alloc (Obj.cells #[] 46)) w.heap.size (fun k => k < wq.heap.size + 1) (.slice (some ⟨wq.heap.size, 0, none⟩) 0 0) [] := Kd.S_lower (Kd.S_mono (Kd.S_bound (S_emptyAt _ _ rfl)) (fun k hk => by have := hk.2.2.1; simpa using this)) hbs
        have hbq : Below wq.heap.size wq (wq.alloc (Obj.cells #[] 46)) := bel
        have hBq : (wq.alloc (Obj.cells #[] 46)).heap.size = wq.heap.size + 1 := by simp
        replace hS0 := hid hS0
        have hIn' := hIn.below hbq
        have hnil : In kS (wq.alloc (Obj.cells #[] 46)) (.slice none 0 0) [] := ⟨none, 0, rfl, Nat.le_refl _, Kd.C_nil _ _⟩
        have h1 := implNames _ _ zs [] _ hIn' hnil (by simp; omega)
        rw [List.append_nil, ← hzs.out] at h1
        clear hIn hIn' hnil hR hV
        go_wp2_with fail
        generalize wq.alloc (Obj.cells #[] 46) = wb at *
        refine h1.mono ?_
        clear h1
        rintro e w2 ⟨vn, rfl, hn, hb2⟩
        have hnl := namesV_len xs ys
        have hb2' : Below w.heap.size w w2 := hb2.after (hbq.after hbw)
        have hz2 := hb2.size
        have hspn := hid (show kS.R 9 w2 w.heap.size (fun k => wq.heap.size + 1 ≤ k ∧ k < w2.heap.size) vn (namesV xs ys) from Kd.R_lower (Kd.R_mono (R_span hn (Nat.le_refl _)) (fun k hk => ⟨Nat.le_trans (by omega) hk.1, hk.2⟩)) (by omega))
        have hS2 := hid (show (kChg 62).S 46 w2 w.heap.size (fun k => k < wq.heap.size + 1 ∨ w2.heap.size ≤ k) (.slice (some ⟨wq.heap.size, 0, none⟩) 0 0) [] from Kd.S_mono (Kd.S_below hS0.out hb2) (fun k hk => .inl hk))
        obtain ⟨An, cn, rfl⟩ := Kd.R_slice hn
        have hns60 : (namesV xs ys).length ≤ 60 := by omega
        have hall := hid (fun n => some_of_name (a := xs) (b := ys) (n := n))
        replace hzs := hid (Eq.refl (namesV xs ys))
        obtain ⟨nn, hnn0⟩ : ∃ nn, nn = namesV xs ys := ⟨_, rfl⟩
        rw [← hnn0] at hspn hns60 hall H ⊢
        clear hn hb2 hnl hnn0 hzs
        go_wp2_with fail
        go_loopg [8, 42] nn.length (fun q vo vi wz => ∃ (done rest : List ByteArray) (O : List Chg), q = rest.length ∧ Hid (nn = done ++ rest) ∧ vi = .int .i64 done.length ∧ Hid (O = chgsOf xs ys done) ∧ O.length ≤ done.length ∧ Hid (kS.R 9 wz w.heap.size (fun k => wq.heap.size + 1 ≤ k ∧ k < w2.heap.size) (.slice An nn.length cn) nn) ∧ Hid ((kChg 62).S 46 wz w.heap.size (fun k => k < wq.heap.size + 1 ∨ w2.heap.size ≤ k) vo O) ∧ w2.heap.size ≤ wz.heap.size ∧ Below w.heap.size w wz)
        case atStart => exact ⟨[], nn, [], rfl, hid rfl, rfl, hid rfl, Nat.le_refl _, hspn, hS2, Nat.le_refl _, hb2'⟩
        case round =>
          clear hspn hS2 hb2' hS0
          obtain ⟨done, rest, O, rfl, hnn, rfl, hO, hOl, hsn, hS, hzs, hbz⟩ := hrel
          have hnl := hid (congrArg List.length hnn.out)
          obtain ⟨we, hwe⟩ : ∃ w', w' = wr := ⟨_, rfl⟩
          subst hwe
          cases rest with
          | nil =>
            have hlt : ¬ done.length < nn.length := by have := hnl.out; simp at this; omega
            go_wp2_with fail
            go_ret
            exact ⟨_, rfl, by rw [H.out, show nn = done by simpa using hnn.out, ← hO.out]; exact Kd.S_mono hS.out (fun _ _ => trivial), hbz⟩
          | cons n rest =>
            have hlt : done.length < nn.length := by have := hnl.out; simp at this; omega
            have hsome := hid (hall.out n (by rw [hnn.out]; simp))
            have hCn := (Kd.R_reads' hsn.out).2.2
            obtain ⟨adn, rfl, dn⟩ := str_at hCn hnn.out
            have h1 := implLast T _ n xs we (hx.below hbz) hl
            have h2 := implLast T _ n ys we (hy.below hbz) hl2
            obtain ⟨ox, hox⟩ : ∃ o, o = lastV xs n := ⟨_, rfl⟩
            obtain ⟨oy, hoy⟩ : ∃ o, o = lastV ys n := ⟨_, rfl⟩
            rw [← hox] at h1
            rw [← hoy] at h2
            rw [← hox, ← hoy] at hsome
            replace hox := hid hox
            replace hoy := hid hoy
            have hbx := hid (show (labs ox).length ≤ 1048576 by rw [hox.out]; exact labs_le hi)
            have hby := hid (show (labs oy).length ≤ 1048576 by rw [hoy.out]; exact labs_le hi2)
            go_wp2_with fail
            refine h1.mono ?_
            clear h1
            rintro e w9 ⟨p1, l1, rfl, hP1, rfl⟩
            go_wp2_with fail
            refine h2.mono ?_
            clear h2
            rintro e w10 ⟨p2, l2, rfl, hP2, rfl⟩
            have k1 : In kLbl w10 l1 (labs ox) := hP1.labs
            have k2 : In kLbl w10 l2 (labs oy) := hP2.labs
            obtain ⟨Ax, cx, rfl, -, -⟩ := k1
            obtain ⟨Ay, cy, rfl, -, -⟩ := k2
            go_wp2_with fail
            have q1 := implCode hP1
            have q2 := implCode hP2
            have q3 := implLabs hP2
            have q4 := implLabs hP1
            rw [show ((ox.map (·.code)).getD (-1)) = oldC ox from rfl] at q1
            rw [show ((oy.map (·.code)).getD (-1)) = oldC oy from rfl] at q2
            obtain ⟨oc, hoc⟩ : ∃ c, c = oldC ox := ⟨_, rfl⟩
            obtain ⟨nc, hnc⟩ : ∃ c, c = oldC oy := ⟨_, rfl⟩
            rw [← hoc] at q1
            rw [← hnc] at q2
            replace hoc := hid hoc
            replace hnc := hid hnc
            refine q1.mono ?_
            rintro e w' ⟨rfl, rfl⟩
            go_wp2_with fail
            refine q2.mono ?_
            rintro e w' ⟨rfl, rfl⟩
            go_wp2_with fail
            refine q3.mono ?_
            rintro e w' ⟨rfl, rfl⟩
            go_wp2_with fail
            refine q4.mono ?_
            rintro e wE ⟨rfl, rfl⟩
            go_wp2_with fail
            clear q1 q2 q3 q4
            refine (implLacking _ _ (labs oy) (labs ox) _ hP2.labs hP1.labs hby.out hbx.out).mono ?_
            rintro e w6 ⟨v3, rfl, ho3, hb6⟩
            obtain ⟨A6, c6, rfl⟩ := Kd.R_slice ho3
            replace hP1 := hP1.below hb6
            replace hP2 := hP2.below hb6
            go_wp2_with fail
            refine (implLabs hP1).mono ?_
            rintro e w' ⟨rfl, rfl⟩
            go_wp2_with fail
            refine (implLabs hP2).mono ?_
            rintro e wF ⟨rfl, rfl⟩
            go_wp2_with fail
            refine (implLacking _ _ (labs ox) (labs oy) _ hP1.labs hP2.labs hbx.out hby.out).mono ?_
            rintro e w7 ⟨v4, rfl, ho4, hb7⟩
            obtain ⟨A7, c7, rfl⟩ := Kd.R_slice ho4
            have hb67 := hb7.after hb6
            have hz6 := hb6.size
            have hz7 := hb7.size
            have hbz7 := hb67.after hbz
            have hp := hid (show chgOf xs ys n = (⟨n, oc, nc, lack (labs oy) (labs ox), lack (labs ox) (labs oy)⟩ : Chg) by unfold chgOf; rw [hoc.out, hnc.out, hox.out, hoy.out])
            have hkeep := hid (show isChg xs ys n = ((ox.isSome != oy.isSome) || (oc != nc) || decide (0 < (lack (labs oy) (labs ox)).length + (lack (labs ox) (labs oy)).length)) by unfold isChg; rw [hoc.out, hnc.out, hox.out, hoy.out])
            have hl3 := hid (Nat.le_trans (lack_len (labs oy) (labs ox)) hby.out)
            have hl4 := hid (Nat.le_trans (lack_len (labs ox) (labs oy)) hbx.out)
            have hR3 := hid (show kLbl.R 62 w7 w.heap.size (fun k => (wE.heap.size ≤ k) ∧ k < wF.heap.size) _ _ from Kd.R_below (R_span (base := w.heap.size) ho3 hbz.size) hb7)
            have hR4 := hid (show kLbl.R 62 w7 w.heap.size (fun k => (wE.heap.size ≤ k) ∧ wF.heap.size ≤ k) _ _ from Kd.R_mono (R_span (base := w.heap.size) ho4 (by omega)) (fun k hk => ⟨by have := hk.1; omega, hk.1⟩))
            have hS7 := hid (Kd.S_old hS.out hb67)
            have hN7 := hid (Kd.R_below hsn.out hb67)
            clear ho3 ho4 hb6 hb7
            have hwf := hid (show wE.heap.size ≤ wF.heap.size ∧ wF.heap.size ≤ w7.heap.size from ⟨by omega, by omega⟩)
            generalize lack (labs oy) (labs ox) = m3 at *
            generalize lack (labs ox) (labs oy) = m4 at *
            obtain ⟨kp, hkp⟩ : ∃ k, k = isChg xs ys n := ⟨_, rfl⟩
            replace hkp := hid hkp
            have hdn := hid (show nn = (done ++ [n]) ++ rest by rw [hnn.out]; simp)
            clear dn hCn
            go_upto_region 15 with fail
            go_cut [90] (fun p wx => p = Value.bool kp ∧ wx = w7.alloc (Obj.cells #[Value.string n, Value.int .i64 oc, Value.int .i64 nc, Value.slice A6 m3.length c6, Value.slice A7 m4.length c7] 46))
            case first =>
              have hk := hkeep.out
              rw [← hkp.out] at hk
              have hl3' := hl3.out
              have hl4' := hl4.out
              have hso := hsome.out
              clear hoc hnc hox hoy hbx hby hp hkeep
              rcases hP1 with ⟨e1, rfl, -⟩ | ⟨x1, a1, e1, rfl, -, -, -⟩
              · rcases hP2 with ⟨e2, rfl, -⟩ | ⟨x2, a2, e2, rfl, -, -, -⟩
                · rw [e1, e2] at hso; simp at hso
                · rw [e1, e2] at hk
                  clear e1 e2 hso
                  obtain rfl : kp = true := by rw [hk]; simp
                  clear hk
                  go_wp2_with fail
                  go_meet
                  case rel => exact ⟨rfl, rfl⟩
              · rcases hP2 with ⟨e2, rfl, -⟩ | ⟨x2, a2, e2, rfl, -, -, -⟩
                · rw [e1, e2] at hk
                  clear e1 e2 hso
                  obtain rfl : kp = true := by rw [hk]; simp
                  clear hk
                  go_wp2_with fail
                  go_meet
                  case rel => exact ⟨rfl, rfl⟩
                · rw [e1, e2] at hk
                  clear e1 e2 hso
                  by_cases he : oc = nc
                  · have q1 : (oc != nc) = false := by simpa using he
                    by_cases hz : 0 < m3.length + m4.length
                    · obtain rfl : kp = true := by rw [hk, decide_eq_true hz]; simp
                      have q2 : (0 : Int) < (m3.length : Int) + m4.length := by omega
                      clear hk he
                      go_wp2_with fail
                      go_meet
                      case rel => exact ⟨rfl, rfl⟩
                    · obtain rfl : kp = false := by rw [hk, q1, decide_eq_false hz]; rfl
                      have q2 : ¬ (0 : Int) < (m3.length : Int) + m4.length := by omega
                      clear hk he
                      go_wp2_with fail
                      go_meet
                      case rel => exact ⟨rfl, rfl⟩
                  · have q1 : (oc != nc) = true := by simpa using he
                    obtain rfl : kp = true := by rw [hk, q1]; simp
                    clear hk he
                    go_wp2_with fail
                    go_meet
                    case rel => exact ⟨rfl, rfl⟩
            case rest =>
              obtain ⟨rfl, rfl⟩ := hcut
              have hbz8 : Below w.heap.size w (w7.alloc (Obj.cells #[Value.string n, Value.int .i64 oc, Value.int .i64 nc, Value.slice A6 m3.length c6, Value.slice A7 m4.length c7] 46)) := below_then hbz7 (by have := hbz7.size; omega) (below_alloc (Below.refl _ _) _)
              have hwf1 := hwf.out.1
              have hwf2 := hwf.out.2
              have hs8 : (w7.alloc (Obj.cells #[Value.string n, Value.int .i64 oc, Value.int .i64 nc, Value.slice A6 m3.length c6, Value.slice A7 m4.length c7] 46)).heap.size = w7.heap.size + 1 := by simp
              have hzs8 : w2.heap.size ≤ (w7.alloc (Obj.cells #[Value.string n, Value.int .i64 oc, Value.int .i64 nc, Value.slice A6 m3.length c6, Value.slice A7 m4.length c7] 46)).heap.size := by rw [hs8]; omega
              cases kp with
              | false =>
                have hO' := hid (show O = chgsOf xs ys (done ++ [n]) by rw [hO.out]; unfold chgsOf; rw [List.filter_append, List.map_append]; simp [← hkp.out])
                replace hs8 := hid hs8
                go_wp2_with fail
                go_roundg rest.length
                case measure => simp
                case rel => exact ⟨done ++ [n], rest, O, rfl, hdn, by simp, hO', by simp; omega, hid (Kd.R_alloc hN7.out _), hid (Kd.S_alloc (Kd.S_mono hS7.out (fun k hk => hk.1)) _), hzs8, hbz8⟩
              | true =>
                have hO' := hid (show O ++ [chgOf xs ys n] = chgsOf xs ys (done ++ [n]) by rw [hO.out]; unfold chgsOf; rw [List.filter_append, List.map_append]; simp [← hkp.out])
                rw [hp.out] at hO'
                have hO60 : O.length ≤ 60 := by have := hnl.out; simp at this; omega
                have hbs8 := hbz8.size
                have hS8 := hid (Kd.S_alloc hS7.out (Obj.cells #[Value.string n, Value.int .i64 oc, Value.int .i64 nc, Value.slice A6 m3.length c6, Value.slice A7 m4.length c7] 46))
                have hN8 := hid (Kd.R_alloc hN7.out (Obj.cells #[Value.string n, Value.int .i64 oc, Value.int .i64 nc, Value.slice A6 m3.length c6, Value.slice A7 m4.length c7] 46))
                have hR38 := hid (Kd.R_alloc hR3.out (Obj.cells #[Value.string n, Value.int .i64 oc, Value.int .i64 nc, Value.slice A6 m3.length c6, Value.slice A7 m4.length c7] 46))
                have hR48 := hid (Kd.R_alloc hR4.out (Obj.cells #[Value.string n, Value.int .i64 oc, Value.int .i64 nc, Value.slice A6 m3.length c6, Value.slice A7 m4.length c7] 46))
                have hown := hid (fun k hk => (Kd.S_R hS8.out).1 k hk)
                replace hs8 := hid hs8
                go_wp2_with (at_builtin; refine Kd.S_append (kChg 62) (w0 := w) w.heap.size rfl _ _ 24 46 _ 80 rfl Try.underlying24 infoChg rfl (by show 0 < 5; omega) (by decide) _ O (⟨n, oc, nc, m3, m4⟩ : Chg) _ (fun k => k < wq.heap.size + 1 ∨ w2.heap.size ≤ k) (fun k => wE.heap.size ≤ k) rfl (by exact congrArg (fun n => Value.slice (some ⟨n, 0, none⟩) 1 1) (show w7.heap.size + 1 = (World.alloc _ _).heap.size from (Array.size_push _).symm)) (kChg_M (N := wF.heap.size) (Kd.R_mono hR38.out (fun k hk => hk)) (Kd.R_mono hR48.out (fun k hk => hk))) (fun k hk => ⟨.inr (by omega), fun he => by have := hown.out k he.symm; omega⟩) (fun k hk => .inr (by omega)) (Kd.S_mono hS8.out (fun k hk => ⟨hk.1, by have := hk.2; omega⟩)) hbz8 hbs8 (by omega) ?_; intro v11 w11 ho11 hb11 hg11 _)
                have hN11 := hid (Kd.R_grown hN8.out hg11 (fun k hk he => by have h := hown.out k he.symm; have h1 := h.1; have h2 := h.2; have h3 := hk.1; have h4 := hk.2; omega))
                have hz11 := hg11.size
                have hz11' : w2.heap.size ≤ w11.heap.size := by omega
                clear hg11
                go_roundg rest.length
                case measure => simp
                case rel => exact ⟨done ++ [n], rest, O ++ [(⟨n, oc, nc, m3, m4⟩ : Chg)], rfl, hdn, by simp, hO', by simp; omega, hN11, hid ho11, hz11', hb11⟩
end Go.Proofs.Ytmjkjlifhlemlaa.H
