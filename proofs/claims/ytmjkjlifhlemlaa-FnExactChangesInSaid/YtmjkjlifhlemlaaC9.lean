/- The reference's ChangesIn. -/
import Derived.Test.YtmjkjlifhlemlaaC8
import Derived.Test.YtmjkjlifhlemlaaH3
set_option linter.unusedVariables false
set_option linter.unusedSimpArgs false
set_option maxRecDepth 100000
set_option maxHeartbeats 4000000
namespace Go.Proofs.Ytmjkjlifhlemlaa.H
open Go.RowKit Go.Proofs.YtmjkjlifhlemlaaW.PrintWords Go.Proofs.YtmjkjlifhlemlaaW.PrintLast Go.Proofs.Ytmjkjlifhlemlaa.Base
def oldC (x : Option Vd) : Int := (x.map (·.code)).getD (-1)
def labs (x : Option Vd) : List Lbl := (x.map (·.labels)).getD []
def chgOf (a b : List Vd) (n : ByteArray) : Chg := ⟨n, oldC (lastV a n), oldC (lastV b n), lack (labs (lastV b n)) (labs (lastV a n)), lack (labs (lastV a n)) (labs (lastV b n))⟩
def isChg (a b : List Vd) (n : ByteArray) : Bool := ((lastV a n).isSome != (lastV b n).isSome) || (oldC (lastV a n) != oldC (lastV b n)) || decide (0 < (lack (labs (lastV b n)) (labs (lastV a n))).length + (lack (labs (lastV a n)) (labs (lastV b n))).length)
def namesV (a b : List Vd) : List ByteArray := namesOf (a.map (·.name) ++ b.map (·.name))
def chgsOf (a b : List Vd) (ns : List ByteArray) : List Chg := (ns.filter (isChg a b)).map (chgOf a b)
def chgs (a b : List Vd) : List Chg := if 30 < a.length ∨ 30 < b.length then [] else chgsOf a b (namesV a b)
theorem labs_getD (x : Option Vd) : (x.getD zVd).labels = labs x := by cases x <;> rfl
theorem labs_le {xs : List Vd} {n : ByteArray} {N : Nat} (h : ∀ x ∈ xs, x.labels.length ≤ N) : (labs (lastV xs n)).length ≤ N := by
  cases hx : lastV xs n with
  | none => simp [labs]
  | some x => exact h x (lastV_mem hx)
theorem setCell_self {w : World} {b o : Nat} {v : Value} (h : w.cell? ⟨b, o, none⟩ = some v) : w.setCell ⟨b, o, none⟩ v = w := by
  rw [Sort.setCell_eq]
  unfold Sort.mapBlock
  have hm : w.heap.modify b (Sort.onCells (·.setIfInBounds o v)) = w.heap := by
    apply Array.ext
    · simp
    · intro i h1 h2
      rw [Array.getElem_modify]
      split
      · next e =>
        subst e
        have hb : w.heap[b]? = some w.heap[b] := Array.getElem?_eq_getElem h2
        unfold World.cell? at h
        rw [hb] at h
        cases hob : w.heap[b] with
        | cells c e fr =>
          rw [hob] at h
          simp at h
          show Obj.cells (c.setIfInBounds o v) e fr = _
          congr 1
          apply Array.ext
          · simp
          · intro j h3 h4
            rw [Array.getElem_setIfInBounds]
            split
            · next e2 =>
              subst e2
              have := Array.getElem?_eq_getElem h4
              rw [this] at h
              injection h with h
              exact h.symm
            · rfl
        | _ => rfl
      · rfl
  rw [hm]
theorem namesV_len (a b : List Vd) : (namesV a b).length ≤ a.length + b.length := by
  unfold namesV
  rw [namesOf_srt _ _ (Nat.le_refl _)]
  have := Plain.srt_len leB (a.map (·.name) ++ b.map (·.name)).length (a.map (·.name) ++ b.map (·.name))
  simpa using this
theorem lack_len (xs ys : List Lbl) : (lack xs ys).length ≤ xs.length := Nat.le_trans (List.length_filter_le _ _) (lbls_len xs)
theorem S_emptyAt {α : Type} (d : Kd α) (e : Nat) {W : World} {n : Nat} (hn : W.heap.size = n) : d.S e (W.alloc (.cells #[] e)) n (fun _ => True) (.slice (some ⟨n, 0, none⟩) 0 0) [] := ⟨fun _ => 0, R_emptyAt _ _ hn⟩
theorem set_at {w : World} {b i : Nat} {t : Value} (h : w.cell? ⟨b, i, none⟩ = some t) (x : Value) : (w.setCell ⟨b, i, none⟩ x).cell? ⟨b, i, none⟩ = some x := World.cell?_setCell_same _ _ _ h
theorem set_by {w : World} {b i j : Nat} {t : Value} (h : w.cell? ⟨b, j, none⟩ = some t) (hij : i ≠ j) (x : Value) : (w.setCell ⟨b, i, none⟩ x).cell? ⟨b, j, none⟩ = some t := by
  rw [World.cell?_setCell_other _ _ _ _ (fun e => by injection e with _ e _; exact hij e)]; exact h
theorem box5_set {w : World} {b : Nat} {t0 t1 t2 t3 t4 : Value} (x0 x1 x2 x3 x4 : Value) (h0 : w.cell? ⟨b, 0, none⟩ = some t0) (h1 : w.cell? ⟨b, 1, none⟩ = some t1) (h2 : w.cell? ⟨b, 2, none⟩ = some t2) (h3 : w.cell? ⟨b, 3, none⟩ = some t3) (h4 : w.cell? ⟨b, 4, none⟩ = some t4) (hf : ∀ o, w.frozen? ⟨b, o, none⟩ = false) {W : World} (hW : W = ((((w.setCell ⟨b, 0, none⟩ x0).setCell ⟨b, 1, none⟩ x1).setCell ⟨b, 2, none⟩ x2).setCell ⟨b, 3, none⟩ x3).setCell ⟨b, 4, none⟩ x4) :
    W.cell? ⟨b, 0, none⟩ = some x0 ∧ W.cell? ⟨b, 1, none⟩ = some x1 ∧ W.cell? ⟨b, 2, none⟩ = some x2 ∧ W.cell? ⟨b, 3, none⟩ = some x3 ∧ W.cell? ⟨b, 4, none⟩ = some x4 ∧ (∀ o, W.frozen? ⟨b, o, none⟩ = false) ∧ W.heap.size = w.heap.size := by
  subst hW
  refine ⟨?_, ?_, ?_, ?_, ?_, fun o => by simp [*], by simp⟩
  · exact set_by (set_by (set_by (set_by (set_at h0 _) (by decide) _) (by decide) _) (by decide) _) (by decide) _
  · exact set_by (set_by (set_by (set_at (set_by h1 (by decide) _) _) (by decide) _) (by decide) _) (by decide) _
  · exact set_by (set_by (set_at (set_by (set_by h2 (by decide) _) (by decide) _) _) (by decide) _) (by decide) _
  · exact set_by (set_at (set_by (set_by (set_by h3 (by decide) _) (by decide) _) (by decide) _) _) (by decide) _
  · exact set_at (set_by (set_by (set_by (set_by h4 (by decide) _) (by decide) _) (by decide) _) (by decide) _) _
theorem R_far5 {e b base : Nat} {w : World} {ok : Nat → Prop} {v : Value} {xs : List Lbl} (h : kLbl.R e w base ok v xs) (hok : ∀ k, ok k → k ≠ b) (x0 x1 x2 x3 x4 : Value) : kLbl.R e (((((w.setCell ⟨b, 0, none⟩ x0).setCell ⟨b, 1, none⟩ x1).setCell ⟨b, 2, none⟩ x2).setCell ⟨b, 3, none⟩ x3).setCell ⟨b, 4, none⟩ x4) base ok v xs :=
  Kd.R_far (Kd.R_far (Kd.R_far (Kd.R_far (Kd.R_far h hok _) hok _) hok _) hok _) hok _
theorem specChanges (T : Nat) (u v : Value) (xs ys : List Vd) (w : World) (hx : In (kVd T) w u xs) (hy : In (kVd T) w v ys) (hl : xs.length ≤ 1048576) (hl2 : ys.length ≤ 1048576) (hi : ∀ x ∈ xs, x.labels.length ≤ 1048576) (hi2 : ∀ x ∈ ys, x.labels.length ≤ 1048576) :
    Calls Try.prog 5 #[u, v] w fun e w' => ∃ v', e = .returned v' ∧ (kChg 62).S 46 w' w.heap.size (fun _ => True) v' (chgs xs ys) ∧ Below w.heap.size w w' := by
  have kx := hx; have ky := hy
  obtain ⟨A0, c0, rfl, hc0, hC0⟩ := kx
  obtain ⟨A1, c1, rfl, hc1, hC1⟩ := ky
  by_cases hbig : 30 < xs.length ∨ 30 < ys.length
  · have H := hid (show chgs xs ys = [] from if_pos hbig)
    go_enter Try.func5, Try.ntmps5
    go_upto_region 2 with fail
    go_cut [23] (fun b wx => b = Value.bool true ∧ wx = w.alloc (.cells #[] 46))
    case first =>
      by_cases h1 : 30 < xs.length
      · have h1' : (30 : Int) < xs.length := by omega
        clear hbig
        go_wp2_with fail
        go_meet
        case rel => exact ⟨rfl, rfl⟩
      · have h2' : 30 < ys.length := by omega
        have h1' : ¬ (30 : Int) < xs.length := by omega
        have h3' : (30 : Int) < ys.length := by omega
        clear hbig
        go_wp2_with fail
        go_meet
        case rel => exact ⟨rfl, rfl⟩
    case rest =>
      obtain ⟨rfl, rfl⟩ := hcut
      go_wp2_with fail
      go_ret
      exact ⟨_, rfl, by rw [H.out]; exact S_emptyAt _ _ rfl, bel⟩
  · have hx30 : xs.length ≤ 30 := by omega
    have hy30 : ys.length ≤ 30 := by omega
    have H := hid (show chgs xs ys = chgsOf xs ys (namesV xs ys) from if_neg hbig)
    have h1' : ¬ (30 : Int) < xs.length := by omega
    have h2' : ¬ (30 : Int) < ys.length := by omega
    clear hbig
    go_enter Try.func5, Try.ntmps5
    go_wp2_with fail
    have hB1 : (w.alloc (Obj.cells #[] 46)).heap.size = w.heap.size + 1 := by simp
    have hb0 : Below w.heap.size w (w.alloc (Obj.cells #[] 46)) := bel
    have hS0 : (kChg 62).S 46 (w.alloc (Obj.cells #[] 46)) w.heap.size (fun _ => True) (.slice (some ⟨w.heap.size, 0, none⟩) 0 0) [] := S_emptyAt _ _ rfl
    generalize w.alloc (Obj.cells #[] 46) = wa at *
    have hn0 := R_emptyAt kS 9 hB1
    have hbn0 : Below (w.heap.size + 1) wa (wa.alloc (Obj.cells #[] 9)) := below_allocAt hB1 _
    have hS0' := hid hS0
    replace hb0 := hid hb0
    clear hS0
    have hup : ∀ {W : World}, Below (w.heap.size + 1) wa W → Below w.heap.size w W := fun h => hb0.out.trans (h.mono (Nat.le_succ _))
    go_loopg [6, 7] xs.length (fun q vn vi wr => ∃ (done rest : List Vd) (ns : List ByteArray), q = rest.length ∧ Hid (xs = done ++ rest) ∧ Hid (ns = done.map (·.name)) ∧ ns.length = done.length ∧ vi = .int .i64 done.length ∧ kS.R 9 wr (w.heap.size + 1) (fun _ => True) vn ns ∧ Below (w.heap.size + 1) wa wr)
    case atStart => exact ⟨[], xs, [], rfl, hid rfl, hid rfl, rfl, rfl, hn0, hbn0⟩
    case round =>
      clear hn0 hbn0
      obtain ⟨done, rest, ns, rfl, hxs, hns, hnl, rfl, hR, hbw⟩ := hrel
      have hsz := hbw.size
      cases rest with
      | cons x rest =>
        have hlt : done.length < xs.length := by rw [hxs.out]; simp
        have hC9 := Kd.C_below hC0 (hup hbw)
        obtain ⟨ad, v2, rfl, d0, d1, d2, d3, k2⟩ := vd_at hC9 hxs.out
        have hns' := hid (show ns ++ [x.name] = (done ++ [x]).map (·.name) by rw [hns.out]; simp)
        have hxs' := hid (show xs = (done ++ [x]) ++ rest by rw [hxs.out]; simp)
        go_wp2_with (at_builtin; refine R_push kS (w0 := wa) 37 9 rfl rfl Try.underlying37 infoS rfl (by decide) (by decide) x.name rfl rfl rfl hR hbw (by omega) (by omega) ?_; intro v3 w6 ho3 hb3 hg3; clear hR)
        go_roundg rest.length
        case measure => simp
        case rel => exact ⟨done ++ [x], rest, ns ++ [x.name], rfl, hxs', hns', by simp; omega, by simp, ho3, hb3⟩
      | nil =>
        have hlt : ¬ done.length < xs.length := by rw [hxs.out]; simp
        have hns1 := hid (show ns = xs.map (·.name) by rw [hns.out, show xs = done by simpa using hxs.out])
        have hxl : ns.length ≤ 30 := by rw [hnl]; have := congrArg List.length hxs.out; simp at this; omega
        clear hnl
        go_wp2_with fail
        go_loopg [6, 8] ys.length (fun q vn vi wr => ∃ (done rest : List Vd) (ms : List ByteArray), q = rest.length ∧ Hid (ys = done ++ rest) ∧ Hid (ms = ns ++ done.map (·.name)) ∧ ms.length = ns.length + done.length ∧ vi = .int .i64 done.length ∧ kS.R 9 wr (w.heap.size + 1) (fun _ => True) vn ms ∧ Below (w.heap.size + 1) wa wr)
        case atStart => exact ⟨[], ys, ns, rfl, hid rfl, hid (by simp), rfl, rfl, hR, hbw⟩
        case round =>
          clear hR hbw hsz
          obtain ⟨done, rest, ms, rfl, hys, hms, hml, rfl, hR, hbw⟩ := hrel
          have hsz := hbw.size
          have hyl := hid (congrArg List.length hys.out)
          cases rest with
          | cons x rest =>
            have hlt : done.length < ys.length := by rw [hys.out]; simp
            have hC9 := Kd.C_below hC1 (hup hbw)
            obtain ⟨ad, v2, rfl, d0, d1, d2, d3, k2⟩ := vd_at hC9 hys.out
            have hms' := hid (show ms ++ [x.name] = ns ++ (done ++ [x]).map (·.name) by rw [hms.out]; simp)
            have hys' := hid (show ys = (done ++ [x]) ++ rest by rw [hys.out]; simp)
            go_wp2_with (at_builtin; refine R_push kS (w0 := wa) 37 9 rfl rfl Try.underlying37 infoS rfl (by decide) (by decide) x.name rfl rfl rfl hR hbw (by omega) (by omega) ?_; intro v3 w6 ho3 hb3 hg3; clear hR)
            go_roundg rest.length
            case measure => simp
            case rel => exact ⟨done ++ [x], rest, ms ++ [x.name], rfl, hys', hms', by simp; omega, by simp, ho3, hb3⟩
          | nil =>
            have hlt : ¬ done.length < ys.length := by rw [hys.out]; simp
            have hms1 := hid (show ms = xs.map (·.name) ++ ys.map (·.name) by rw [hms.out, hns1.out, show ys = done by simpa using hys.out])
            have hml2 : ms.length ≤ 60 := by have := hyl.out; simp at this; omega
            obtain ⟨A2, c2, rfl⟩ := Kd.R_slice hR
            have hcall := specSorted ms.length _ ms wr (In.ofR hR) (Nat.le_refl _) (by omega)
            clear hml hR
            go_wp2_with fail
            refine hcall.mono ?_
            clear hcall
            rintro e w2 ⟨vn, rfl, hn, hb2⟩
            rw [← namesOf_srt ms ms.length (Nat.le_refl _), show namesOf ms = namesV xs ys by rw [hms1.out]; rfl] at hn
            have hnl := namesV_len xs ys
            have hb2' : Below (w.heap.size + 1) wa w2 := hbw.trans (hb2.mono (by omega))
            have hspn := hid (show kS.R 9 w2 w.heap.size (fun k => w.heap.size + 1 ≤ k ∧ k < w2.heap.size) vn (namesV xs ys) from Kd.R_lower (Kd.R_mono (R_span hn (Nat.le_refl _)) (fun k hk => ⟨Nat.le_trans (by omega) hk.1, hk.2⟩)) (by omega))
            have hS2 := hid (show (kChg 62).S 46 w2 w.heap.size (fun k => k < w.heap.size + 1 ∨ w2.heap.size ≤ k) (.slice (some ⟨w.heap.size, 0, none⟩) 0 0) [] from Kd.S_mono (Kd.S_step (Kd.S_bound hS0'.out) (fun k hk _ => hb2'.block k (by have := hk.2.2.1; omega))) (fun k hk => .inl (by have := hk.2.2.1; omega)))
            have hbw2 := hup hb2'
            obtain ⟨An, cn, rfl⟩ := Kd.R_slice hn
            have hns60 : (namesV xs ys).length ≤ 60 := by omega
            generalize namesV xs ys = nn at *
            clear hn hb2 hb2' hbw hms1 hml2 hms hns1 hns hnl hyl hxl hlt hsz
            go_wp2_with fail
            go_loopg [5, 9] nn.length (fun q vo vi wz => ∃ (done rest : List ByteArray) (O : List Chg), q = rest.length ∧ Hid (nn = done ++ rest) ∧ vi = .int .i64 done.length ∧ Hid (O = chgsOf xs ys done) ∧ O.length ≤ done.length ∧ Hid (kS.R 9 wz w.heap.size (fun k => w.heap.size + 1 ≤ k ∧ k < w2.heap.size) (.slice An nn.length cn) nn) ∧ Hid ((kChg 62).S 46 wz w.heap.size (fun k => k < w.heap.size + 1 ∨ w2.heap.size ≤ k) vo O) ∧ w2.heap.size ≤ wz.heap.size ∧ Below w.heap.size w wz)
            case atStart => exact ⟨[], nn, [], rfl, hid rfl, rfl, hid rfl, Nat.le_refl _, hspn, hS2, Nat.le_refl _, hbw2⟩
            case round =>
              clear hspn hS2 hbw2
              obtain ⟨done, rest, O, rfl, hnn, rfl, hO, hOl, hsn, hS, hzs, hbz⟩ := hrel
              have hnl := hid (congrArg List.length hnn.out)
              obtain ⟨wq, hwq⟩ : ∃ w', w' = wr := ⟨_, rfl⟩
              subst hwq
              cases rest with
              | nil =>
                have hlt : ¬ done.length < nn.length := by have := hnl.out; simp at this; omega
                go_wp2_with fail
                go_ret
                exact ⟨_, rfl, by rw [H.out, show nn = done by simpa using hnn.out, ← hO.out]; exact Kd.S_mono hS.out (fun _ _ => trivial), hbz⟩
              | cons n rest =>
                have hlt : done.length < nn.length := by have := hnl.out; simp at this; omega
                have hCn := (Kd.R_reads' hsn.out).2.2
                obtain ⟨adn, rfl, dn⟩ := str_at hCn hnn.out
                have h1 := specVerdictOf T _ n xs wq (hx.below hbz) hl hi
                obtain ⟨px, hpx⟩ : ∃ p, p = (lastV xs n).getD zVd := ⟨_, rfl⟩
                obtain ⟨ox, hox⟩ : ∃ p, p = (lastV xs n).isSome := ⟨_, rfl⟩
                rw [← hpx, ← hox] at h1
                replace hpx := hid hpx
                replace hox := hid hox
                obtain ⟨py, hpy⟩ : ∃ p, p = (lastV ys n).getD zVd := ⟨_, rfl⟩
                obtain ⟨oy, hoy⟩ : ∃ p, p = (lastV ys n).isSome := ⟨_, rfl⟩
                have h2 : ∀ W, Below w.heap.size w W → _ := fun W hW => specVerdictOf T _ n ys W (hy.below hW) hl2 hi2
                rw [← hpy, ← hoy] at h2
                replace hpy := hid hpy
                replace hoy := hid hoy
                have hlx := hid (show px.labels.length ≤ 1048576 by rw [hpx.out, labs_getD]; exact labs_le hi)
                have hly := hid (show py.labels.length ≤ 1048576 by rw [hpy.out, labs_getD]; exact labs_le hi2)
                go_wp2_with fail
                refine h1.mono ?_
                clear h1
                rintro e w3 ⟨vx, rfl, hRx, hb3⟩
                obtain ⟨Ax, cx, rfl⟩ := Kd.R_slice hRx
                have hbz3 := hb3.after hbz
                have hs3 := hb3.size
                have dn3 := pw_cell_below hb3 dn
                have dnb : (adn.add done.length).block < w3.heap.size := World.block_lt_of_cell? _ _ dn3
                go_wp2_with fail
                refine (h2 _ bel).mono ?_
                clear h2
                rintro e w4 ⟨vy, rfl, hRy, hb4⟩
                obtain ⟨Ay, cy, rfl⟩ := Kd.R_slice hRy
                have x0 := pw_cell_below hb4 (show World.cell? _ ⟨w3.heap.size, 1, none⟩ = some (.int .i64 px.code) by simp)
                have x1 := pw_cell_below hb4 (show World.cell? _ ⟨w3.heap.size, 2, none⟩ = some (.slice Ax px.labels.length cx) by simp)
                have dn4 := pw_cell_below hb4 (show World.cell? _ (adn.add done.length) = some (.string n) by rw [World.cell?_alloc_old _ _ _ (Nat.ne_of_lt dnb)]; exact dn3)
                have hbz4 := hb4.after (show Below w.heap.size w _ from bel)
                have hs4 : w3.heap.size < w4.heap.size := by have := hb4.size; simp at this; omega
                have dnb4 : (adn.add done.length).block < w4.heap.size := by omega
                have hRx4 := Kd.R_below (Kd.R_alloc hRx (Obj.cells #[.string px.name, .int .i64 px.code, .slice Ax px.labels.length cx, .int .i64 px.used] 40)) hb4
                have hRy4 := Kd.R_lower hRy (show wq.heap.size ≤ _ by simp; omega)
                have hq4 : Below wq.heap.size wq w4 := hb4.after (show Below wq.heap.size wq _ from bel)
                clear hRx hRy hb4 dn3 dnb dn hbz3
                go_wp2_with fail
                have y1 : (w4.alloc (Obj.cells #[Value.string py.name, Value.int IntKind.i64 py.code, Value.slice Ay py.labels.length cy, Value.int IntKind.i64 py.used] 40)).cell? ⟨w4.heap.size, 2, none⟩ = some (.slice Ay py.labels.length cy) := by simp
                have y0 : (w4.alloc (Obj.cells #[Value.string py.name, Value.int IntKind.i64 py.code, Value.slice Ay py.labels.length cy, Value.int IntKind.i64 py.used] 40)).cell? ⟨w4.heap.size, 1, none⟩ = some (.int .i64 py.code) := by simp
                have hb5 : Below w4.heap.size w4 (w4.alloc (Obj.cells #[Value.string py.name, Value.int IntKind.i64 py.code, Value.slice Ay py.labels.length cy, Value.int IntKind.i64 py.used] 40)) := bel
                have hs5 : (w4.alloc (Obj.cells #[Value.string py.name, Value.int IntKind.i64 py.code, Value.slice Ay py.labels.length cy, Value.int IntKind.i64 py.used] 40)).heap.size = w4.heap.size + 1 := by simp
                generalize w4.alloc (Obj.cells #[Value.string py.name, Value.int IntKind.i64 py.code, Value.slice Ay py.labels.length cy, Value.int IntKind.i64 py.used] 40) = w5 at *
                replace x0 := pw_cell_below hb5 x0
                replace x1 := pw_cell_below hb5 x1
                replace dn4 := pw_cell_below hb5 dn4
                have hRx5 := hid (Kd.R_below hRx4 hb5)
                have hRy5 := hid (Kd.R_below hRy4 hb5)
                have hbz5 := hb5.after hbz4
                have hq5 := hb5.after hq4
                clear hRx4 hRy4 hb5 hbz4 dnb4
                go_cut [14] (fun p wx => ∃ (b N : Nat) (v3 v4 : Value), p = .pointer (some ⟨b, 0, none⟩) ∧ wx.cell? ⟨b, 0, none⟩ = some (.string n) ∧ wx.cell? ⟨b, 1, none⟩ = some (.int .i64 (-1)) ∧ wx.cell? ⟨b, 2, none⟩ = some (.int .i64 (-1)) ∧ wx.cell? ⟨b, 3, none⟩ = some v3 ∧ wx.cell? ⟨b, 4, none⟩ = some v4 ∧ (∀ o, wx.frozen? ⟨b, o, none⟩ = false) ∧ w5.heap.size ≤ b ∧ b < wx.heap.size ∧ Below w5.heap.size w5 wx ∧
                  Hid (kLbl.R 62 wx w.heap.size (fun k => (w5.heap.size ≤ k ∧ k ≠ b) ∧ k < N) v3 (lack py.labels px.labels)) ∧ Hid (kLbl.R 62 wx w.heap.size (fun k => (w5.heap.size ≤ k ∧ k ≠ b) ∧ N ≤ k) v4 (lack px.labels py.labels)))
                case first =>
                  have dnb5 : (adn.add done.length).block < w5.heap.size := World.block_lt_of_cell? _ _ dn4
                  have xb5 : w3.heap.size < w5.heap.size := by omega
                  have yb5 : w4.heap.size < w5.heap.size := by omega
                  have hA : ∀ W, Below w5.heap.size w5 W → _ := fun W hW => specApart _ _ py.labels px.labels W ((In.ofR hRy5.out).below hW) ((In.ofR hRx5.out).below hW) hly.out hlx.out
                  have hB : ∀ W, Below w5.heap.size w5 W → _ := fun W hW => specApart _ _ px.labels py.labels W ((In.ofR hRx5.out).below hW) ((In.ofR hRy5.out).below hW) hlx.out hly.out
                  have hKeep : ∀ W', Below w5.heap.size w5 W' → (Below w5.heap.size w5 W' ∧ W'.cell? (adn.add done.length) = some (.string n) ∧ W'.cell? ⟨w3.heap.size, 2, none⟩ = some (.slice Ax px.labels.length cx) ∧ W'.cell? ⟨w4.heap.size, 2, none⟩ = some (.slice Ay py.labels.length cy)) := fun W' hQ => ⟨hQ, (hQ.cell (p := adn.add done.length) dnb5).trans dn4, (hQ.cell (p := ⟨w3.heap.size, 2, none⟩) xb5).trans x1, (hQ.cell (p := ⟨w4.heap.size, 2, none⟩) yb5).trans y1⟩
                  have hset : ∀ (W : World) (b o : Nat) (v : Value), w5.heap.size ≤ b → Below w5.heap.size w5 W → Below w5.heap.size w5 (W.setCell ⟨b, o, none⟩ v) := fun W b o v hb h => h.setCell hb v
                  have hwz := hbz5.size
                  have p0 : (0 : Int) ≤ done.length := by omega
                  have p1 : (done.length : Int) < nn.length := by omega
                  clear hl hl2 hi hi2 hx hc0 hC0 hy hc1 hC1 hx30 hy30 h1' h2' hB1 hS0' hup hb0 hxs hys hO hOl hsn hS hzs hbz hnn hnl hCn hpx hox hpy hoy hlx hly hRx5 hRy5 hns60 hbz5 hs3 hs4 hs5 x0 y0 hb3 hq4 hq5
                  go_region_held3 (fun w' => Below w5.heap.size w5 w' ∧ w'.cell? (adn.add done.length) = some (.string n) ∧ w'.cell? ⟨w3.heap.size, 2, none⟩ = some (.slice Ax px.labels.length cx) ∧ w'.cell? ⟨w4.heap.size, 2, none⟩ = some (.slice Ay py.labels.length cy)) ((refine hKeep _ ?_; repeat (first | with_reducible exact Below.refl _ _ | with_reducible assumption | with_reducible apply below_alloc | with_reducible apply below_drew | with_reducible apply pw_below_drewN | (with_reducible refine hset _ _ _ _ ?side ?_; case side => (first | exact Nat.le_refl _ | exact z60 | exact z70 | omega)))))
                    (first
                      | (go_at_call 16; refine (hA _ bel).mono ?_; clear hA; rintro e w6 ⟨v3, rfl, ho3, hb6⟩; obtain ⟨A6, c6, rfl⟩ := Kd.R_slice ho3; have hb66 : Below w5.heap.size w5 w6 := hb6.after bel; have k1 := (hb66.cell (p := adn.add done.length) dnb5).trans dn4; have k2 := (hb66.cell (p := ⟨w3.heap.size, 2, none⟩) xb5).trans x1; have k3 := (hb66.cell (p := ⟨w4.heap.size, 2, none⟩) yb5).trans y1; obtain ⟨hc6, hf6⟩ := bcell hb6; have z60 := hb66.size; (first | (have z6 : w5.heap.size < w6.heap.size := by have := hb6.size; (try simp at this); omega) | skip))
                      | (go_at_call 16; refine (hB _ bel).mono ?_; clear hB; rintro e w7 ⟨v4, rfl, ho4, hb7⟩; obtain ⟨A7, c7, rfl⟩ := Kd.R_slice ho4; have hb77 : Below w5.heap.size w5 w7 := hb7.after bel; have k4 := (hb77.cell (p := adn.add done.length) dnb5).trans dn4; have k5 := (hb77.cell (p := ⟨w3.heap.size, 2, none⟩) xb5).trans x1; have k6 := (hb77.cell (p := ⟨w4.heap.size, 2, none⟩) yb5).trans y1; obtain ⟨hc7, hf7⟩ := bcell hb7; have z70 := hb77.size; have z71 : w6.heap.size ≤ w7.heap.size := by (have := hb7.size; (try simp at this); omega); (first | (have z7 : w6.heap.size < w7.heap.size := by have := hb7.size; (try simp at this); omega) | skip); (first | (have z8 : w5.heap.size < w7.heap.size := by have := hb7.size; (try simp at this); omega) | skip)))
                  all_goals
                    have h67 : Below w6.heap.size w6 w7 := hb7.after bel
                  · have sp3 : kLbl.R 62 w7 w.heap.size (fun k => (w5.heap.size ≤ k ∧ k ≠ w7.heap.size) ∧ k < w6.heap.size) _ _ := Kd.R_below (Kd.R_mono (R_span (base := w.heap.size) ho3 (by first | exact hwz | (simp; omega))) (fun k hk => ⟨⟨by have h := hk.1; (try simp at h); omega, by have h := hk.2; omega⟩, hk.2⟩)) h67
                    have sp4 : kLbl.R 62 w7 w.heap.size (fun k => (w5.heap.size ≤ k ∧ k ≠ w7.heap.size) ∧ w6.heap.size ≤ k) _ _ := Kd.R_mono (R_span (base := w.heap.size) ho4 (by first | (simp; omega) | omega)) (fun k hk => by have h := hk.1; have h2 := hk.2; (try simp at h); exact ⟨⟨by omega, by omega⟩, by omega⟩)
                    go_wp2_with fail
                    go_meet
                    case rel => exact ⟨w7.heap.size, w6.heap.size, _, _, rfl, by simp, by simp, by simp, by simp, by simp, by simp, z70, by simp, below_alloc hb77 _, Kd.R_alloc sp3 _, Kd.R_alloc sp4 _⟩
                  · have sp3 : kLbl.R 62 w7 w.heap.size (fun k => (w5.heap.size ≤ k ∧ k ≠ w6.heap.size) ∧ k < w6.heap.size) _ _ := Kd.R_below (Kd.R_mono (R_span (base := w.heap.size) ho3 (by first | exact hwz | (simp; omega))) (fun k hk => ⟨⟨by have h := hk.1; (try simp at h); omega, by have h := hk.2; omega⟩, hk.2⟩)) h67
                    have sp4 : kLbl.R 62 w7 w.heap.size (fun k => (w5.heap.size ≤ k ∧ k ≠ w6.heap.size) ∧ w6.heap.size ≤ k) _ _ := Kd.R_mono (R_span (base := w.heap.size) ho4 (by first | (simp; omega) | omega)) (fun k hk => by have h := hk.1; have h2 := hk.2; (try simp at h); exact ⟨⟨by omega, by omega⟩, by omega⟩)
                    obtain ⟨r0, r1, r2, r3, r4, rf, rs⟩ := box5_set (b := w6.heap.size) (t0 := .string ⟨#[]⟩) (t1 := .int .i64 0) (t2 := .int .i64 0) (t3 := .slice none 0 0) (t4 := .slice none 0 0) (.string n) (.int .i64 (-1)) (.int .i64 (-1)) (.slice A6 (lack py.labels px.labels).length c6) (.slice A7 (lack px.labels py.labels).length c7) (pw_cell_below hb7 (by simp)) (pw_cell_below hb7 (by simp)) (pw_cell_below hb7 (by simp)) (pw_cell_below hb7 (by simp)) (pw_cell_below hb7 (by simp)) (fun o => (hb7.frozen (p := ⟨w6.heap.size, o, none⟩) (by simp)).trans (by simp)) rfl
                    have sp3' := R_far5 sp3 (fun k hk => hk.1.2) (.string n) (.int .i64 (-1)) (.int .i64 (-1)) (.slice A6 (lack py.labels px.labels).length c6) (.slice A7 (lack px.labels py.labels).length c7)
                    have sp4' := R_far5 sp4 (fun k hk => hk.1.2) (.string n) (.int .i64 (-1)) (.int .i64 (-1)) (.slice A6 (lack py.labels px.labels).length c6) (.slice A7 (lack px.labels py.labels).length c7)
                    have hbe := hset _ w6.heap.size 4 (.slice A7 (lack px.labels py.labels).length c7) z60 (hset _ w6.heap.size 3 (.slice A6 (lack py.labels px.labels).length c6) z60 (hset _ w6.heap.size 2 (.int .i64 (-1)) z60 (hset _ w6.heap.size 1 (.int .i64 (-1)) z60 (hset _ w6.heap.size 0 (.string n) z60 hb77))))
                    generalize ((((w7.setCell ⟨w6.heap.size, 0, none⟩ (.string n)).setCell ⟨w6.heap.size, 1, none⟩ (.int .i64 (-1))).setCell ⟨w6.heap.size, 2, none⟩ (.int .i64 (-1))).setCell ⟨w6.heap.size, 3, none⟩ (.slice A6 (lack py.labels px.labels).length c6)).setCell ⟨w6.heap.size, 4, none⟩ (.slice A7 (lack px.labels py.labels).length c7) = w8 at *
                    have z7 : w6.heap.size < w7.heap.size := by have := hb7.size; simp at this; omega
                    clear hc6 hf6 hc7 hf7
                    go_wp2_with fail
                    go_meet
                    case rel => exact ⟨w6.heap.size, w6.heap.size, _, _, rfl, r0, r1, r2, r3, r4, rf, z60, by rw [rs]; exact z7, hbe, sp3', sp4'⟩
                  · have sp3 : kLbl.R 62 w7 w.heap.size (fun k => (w5.heap.size ≤ k ∧ k ≠ w5.heap.size) ∧ k < w6.heap.size) _ _ := Kd.R_below (Kd.R_mono (R_span (base := w.heap.size) ho3 (by first | (simp; omega) | omega)) (fun k hk => ⟨⟨by have h := hk.1; (try simp at h); omega, by have h := hk.1; (try simp at h); omega⟩, hk.2⟩)) h67
                    have sp4 : kLbl.R 62 w7 w.heap.size (fun k => (w5.heap.size ≤ k ∧ k ≠ w5.heap.size) ∧ w6.heap.size ≤ k) _ _ := Kd.R_mono (R_span (base := w.heap.size) ho4 (by first | (simp; omega) | omega)) (fun k hk => by have h := hk.1; have h2 := hk.2; (try simp at h); exact ⟨⟨by omega, by omega⟩, by omega⟩)
                    obtain ⟨r0, r1, r2, r3, r4, rf, rs⟩ := box5_set (b := w5.heap.size) (t0 := .string ⟨#[]⟩) (t1 := .int .i64 0) (t2 := .int .i64 0) (t3 := .slice none 0 0) (t4 := .slice none 0 0) (.string n) (.int .i64 (-1)) (.int .i64 (-1)) (.slice A6 (lack py.labels px.labels).length c6) (.slice A7 (lack px.labels py.labels).length c7) (pw_cell_below h67 (pw_cell_below hb6 (by simp))) (pw_cell_below h67 (pw_cell_below hb6 (by simp))) (pw_cell_below h67 (pw_cell_below hb6 (by simp))) (pw_cell_below h67 (pw_cell_below hb6 (by simp))) (pw_cell_below h67 (pw_cell_below hb6 (by simp))) (fun o => (h67.frozen (p := ⟨w5.heap.size, o, none⟩) z6).trans ((hb6.frozen (p := ⟨w5.heap.size, o, none⟩) (by simp)).trans (by simp))) rfl
                    have sp3' := R_far5 sp3 (fun k hk => hk.1.2) (.string n) (.int .i64 (-1)) (.int .i64 (-1)) (.slice A6 (lack py.labels px.labels).length c6) (.slice A7 (lack px.labels py.labels).length c7)
                    have sp4' := R_far5 sp4 (fun k hk => hk.1.2) (.string n) (.int .i64 (-1)) (.int .i64 (-1)) (.slice A6 (lack py.labels px.labels).length c6) (.slice A7 (lack px.labels py.labels).length c7)
                    have hbe := hset _ w5.heap.size 4 (.slice A7 (lack px.labels py.labels).length c7) (Nat.le_refl _) (hset _ w5.heap.size 3 (.slice A6 (lack py.labels px.labels).length c6) (Nat.le_refl _) (hset _ w5.heap.size 2 (.int .i64 (-1)) (Nat.le_refl _) (hset _ w5.heap.size 1 (.int .i64 (-1)) (Nat.le_refl _) (hset _ w5.heap.size 0 (.string n) (Nat.le_refl _) hb77))))
                    generalize ((((w7.setCell ⟨w5.heap.size, 0, none⟩ (.string n)).setCell ⟨w5.heap.size, 1, none⟩ (.int .i64 (-1))).setCell ⟨w5.heap.size, 2, none⟩ (.int .i64 (-1))).setCell ⟨w5.heap.size, 3, none⟩ (.slice A6 (lack py.labels px.labels).length c6)).setCell ⟨w5.heap.size, 4, none⟩ (.slice A7 (lack px.labels py.labels).length c7) = w8 at *
                    clear hc6 hf6 hc7 hf7
                    go_wp2_with fail
                    go_meet
                    case rel => exact ⟨w5.heap.size, w6.heap.size, _, _, rfl, r0, r1, r2, r3, r4, rf, Nat.le_refl _, by rw [rs]; omega, hbe, sp3', sp4'⟩
                case rest =>
                  obtain ⟨w8, hw8⟩ : ∃ w', w' = wc := ⟨_, rfl⟩
                  subst hw8
                  obtain ⟨b, N, v3, v4, rfl, c0, c1', c2', c3', c4', cf, hb0b, hbb, hb8, hR3, hR4⟩ := hcut
                  have hxb5 : w3.heap.size < w5.heap.size := by omega
                  have hyb5 : w4.heap.size < w5.heap.size := by omega
                  have x08 := (hb8.cell (p := ⟨w3.heap.size, 1, none⟩) hxb5).trans x0
                  have y08 := (hb8.cell (p := ⟨w4.heap.size, 1, none⟩) hyb5).trans y0
                  have hxbb : ¬ (b = w3.heap.size) := by omega
                  have hybb : ¬ (b = w4.heap.size) := by omega
                  have hcx := hid (show ox = true → oldC (lastV xs n) = px.code by intro h; rw [hox.out] at h; rw [hpx.out]; cases hq : lastV xs n with | none => rw [hq] at h; cases h | some q => rfl)
                  have hcx2 := hid (show ox = false → oldC (lastV xs n) = -1 by intro h; rw [hox.out] at h; cases hq : lastV xs n with | none => rfl | some q => rw [hq] at h; cases h)
                  have hcy := hid (show oy = true → oldC (lastV ys n) = py.code by intro h; rw [hoy.out] at h; rw [hpy.out]; cases hq : lastV ys n with | none => rw [hq] at h; cases h | some q => rfl)
                  have hcy2 := hid (show oy = false → oldC (lastV ys n) = -1 by intro h; rw [hoy.out] at h; cases hq : lastV ys n with | none => rfl | some q => rw [hq] at h; cases h)
                  obtain ⟨oc, hoc⟩ : ∃ c, c = oldC (lastV xs n) := ⟨_, rfl⟩
                  obtain ⟨nc, hnc⟩ : ∃ c, c = oldC (lastV ys n) := ⟨_, rfl⟩
                  rw [← hoc] at hcx hcx2
                  rw [← hnc] at hcy hcy2
                  replace hoc := hid hoc
                  replace hnc := hid hnc
                  have cf1 := cf 1
                  have cf2 := cf 2
                  go_upto_if 95 with fail
                  go_cut [] (fun wx => wx = w8.setCell ⟨b, 1, none⟩ (.int .i64 oc))
                  case first =>
                    cases ox with
                    | true =>
                      have e1 := hcx.out rfl
                      subst e1
                      go_wp2_with fail
                      go_meet
                      case rel => exact rfl
                    | false =>
                      have e1 := hcx2.out rfl
                      subst e1
                      have e2 := hid (setCell_self c1')
                      go_wp2_with fail
                      go_meet
                      case rel => exact e2.out.symm
                  case rest =>
                    subst hcut
                    go_upto_if 99 with fail
                    go_cut [] (fun wx => wx = (w8.setCell ⟨b, 1, none⟩ (.int .i64 oc)).setCell ⟨b, 2, none⟩ (.int .i64 nc))
                    case first =>
                      have c29 := set_by c2' (show 1 ≠ 2 by decide) (.int .i64 oc)
                      cases oy with
                      | true =>
                        have e1 := hcy.out rfl
                        subst e1
                        go_wp2_with fail
                        go_meet
                        case rel => exact rfl
                      | false =>
                        have e1 := hcy2.out rfl
                        subst e1
                        have e2 := hid (setCell_self c29)
                        clear c29
                        go_wp2_with fail
                        go_meet
                        case rel => exact e2.out.symm
                    case rest =>
                      subst hcut
                      obtain ⟨A8, c8, rfl⟩ := Kd.R_slice hR3.out
                      obtain ⟨A9, c9, rfl⟩ := Kd.R_slice hR4.out
                      have hl3 := hid (Nat.le_trans (lack_len py.labels px.labels) hly.out)
                      have hl4 := hid (Nat.le_trans (lack_len px.labels py.labels) hlx.out)
                      have hp := hid (show chgOf xs ys n = (⟨n, oc, nc, lack py.labels px.labels, lack px.labels py.labels⟩ : Chg) by unfold chgOf; rw [hoc.out, hnc.out, hpx.out, hpy.out, labs_getD, labs_getD])
                      have hkeep := hid (show isChg xs ys n = ((ox != oy) || (oc != nc) || decide (0 < (lack py.labels px.labels).length + (lack px.labels py.labels).length)) by unfold isChg; rw [hox.out, hoy.out, hoc.out, hnc.out, hpx.out, hpy.out, labs_getD, labs_getD])
                      have hR3' := Kd.R_far (Kd.R_far hR3.out (p := ⟨b, 1, none⟩) (fun k hk => hk.1.2) (.int .i64 oc)) (p := ⟨b, 2, none⟩) (fun k hk => hk.1.2) (.int .i64 nc)
                      have hR4' := Kd.R_far (Kd.R_far hR4.out (p := ⟨b, 1, none⟩) (fun k hk => hk.1.2) (.int .i64 oc)) (p := ⟨b, 2, none⟩) (fun k hk => hk.1.2) (.int .i64 nc)
                      have d0 := set_by (set_by c0 (show 1 ≠ 0 by decide) (.int .i64 oc)) (show 2 ≠ 0 by decide) (.int .i64 nc)
                      have d1 := set_by (set_at c1' (.int .i64 oc)) (show 2 ≠ 1 by decide) (.int .i64 nc)
                      have d2 := set_at (set_by c2' (show 1 ≠ 2 by decide) (.int .i64 oc)) (.int .i64 nc)
                      have d3 := set_by (set_by c3' (show 1 ≠ 3 by decide) (.int .i64 oc)) (show 2 ≠ 3 by decide) (.int .i64 nc)
                      have d4 := set_by (set_by c4' (show 1 ≠ 4 by decide) (.int .i64 oc)) (show 2 ≠ 4 by decide) (.int .i64 nc)
                      have hs10 : ((w8.setCell ⟨b, 1, none⟩ (.int .i64 oc)).setCell ⟨b, 2, none⟩ (.int .i64 nc)).heap.size = w8.heap.size := by simp
                      have hq8 := hb8.after hq5
                      have hqz := hq5.size
                      have hS10 := Kd.S_far (Kd.S_far (Kd.S_old hS.out hq8) (p := ⟨b, 1, none⟩) (fun k hk => by have := hk.2; show k ≠ b; omega) (.int .i64 oc)) (p := ⟨b, 2, none⟩) (fun k hk => by have := hk.2; show k ≠ b; omega) (.int .i64 nc)
                      have hN10 := Kd.R_far (Kd.R_far (Kd.R_below hsn.out hq8) (p := ⟨b, 1, none⟩) (fun k hk => by have := hk.2; show k ≠ b; omega) (.int .i64 oc)) (p := ⟨b, 2, none⟩) (fun k hk => by have := hk.2; show k ≠ b; omega) (.int .i64 nc)
                      have hwb : w.heap.size ≤ b := by have := hbz.size; omega
                      have hbz10 : Below w.heap.size w ((w8.setCell ⟨b, 1, none⟩ (.int .i64 oc)).setCell ⟨b, 2, none⟩ (.int .i64 nc)) := ((hb8.after hbz5).setCell hwb _).setCell hwb _
                      generalize (w8.setCell ⟨b, 1, none⟩ (.int .i64 oc)).setCell ⟨b, 2, none⟩ (.int .i64 nc) = w10 at *
                      generalize lack py.labels px.labels = m3 at *
                      generalize lack px.labels py.labels = m4 at *
                      clear c0 c1' c2' c3' c4' cf cf1 cf2 x08 y08 hR3 hR4 hcx hcx2 hcy hcy2 hb8 hq8 hq5 hbz5 x0 x1 y0 y1 dn4 hRx5 hRy5 hlx hly hox hoy hpx hpy
                      have hs10a := Nat.le_of_eq hs10
                      have hs10b := Nat.le_of_eq hs10.symm
                      replace hs10 := hid hs10
                      replace hR3' := hid hR3'
                      replace hR4' := hid hR4'
                      replace hS10 := hid hS10
                      replace hN10 := hid hN10
                      obtain ⟨kp, hkp⟩ : ∃ k, k = isChg xs ys n := ⟨_, rfl⟩
                      replace hkp := hid hkp
                      have hdn := hid (show nn = (done ++ [n]) ++ rest by rw [hnn.out]; simp)
                      go_upto_region 24 with fail
                      go_cut [122] (fun p wx => p = Value.bool kp ∧ wx = w10)
                      case first =>
                        have hk := hkeep.out
                        rw [← hkp.out] at hk
                        have hl3' := hl3.out
                        have hl4' := hl4.out
                        cases ox with
                        | true =>
                          cases oy with
                          | true =>
                            by_cases he : oc = nc
                            · have q1 : (oc != nc) = false := by simpa using he
                              by_cases hz : 0 < m3.length + m4.length
                              · obtain rfl : kp = true := by rw [hk, decide_eq_true hz]; simp
                                have q2 : (0 : Int) < (m3.length : Int) + m4.length := by omega
                                clear hk he
                                go_wp2_with fail
                                go_meet
                                case rel => exact ⟨rfl, rfl⟩
                              · obtain rfl : kp = false := by rw [hk, q1, decide_eq_false hz]; rfl
                                have q2 : ¬ (0 : Int) < (m3.length : Int) + m4.length := by omega
                                clear hk he
                                go_wp2_with fail
                                go_meet
                                case rel => exact ⟨rfl, rfl⟩
                            · have q1 : (oc != nc) = true := by simpa using he
                              obtain rfl : kp = true := by rw [hk, q1]; simp
                              clear hk he
                              go_wp2_with fail
                              go_meet
                              case rel => exact ⟨rfl, rfl⟩
                          | false =>
                            obtain rfl : kp = true := by rw [hk]; simp
                            clear hk
                            go_wp2_with fail
                            go_meet
                            case rel => exact ⟨rfl, rfl⟩
                        | false =>
                          cases oy with
                          | true =>
                            obtain rfl : kp = true := by rw [hk]; simp
                            clear hk
                            go_wp2_with fail
                            go_meet
                            case rel => exact ⟨rfl, rfl⟩
                          | false =>
                            by_cases he : oc = nc
                            · have q1 : (oc != nc) = false := by simpa using he
                              by_cases hz : 0 < m3.length + m4.length
                              · obtain rfl : kp = true := by rw [hk, decide_eq_true hz]; simp
                                have q2 : (0 : Int) < (m3.length : Int) + m4.length := by omega
                                clear hk he
                                go_wp2_with fail
                                go_meet
                                case rel => exact ⟨rfl, rfl⟩
                              · obtain rfl : kp = false := by rw [hk, q1, decide_eq_false hz]; rfl
                                have q2 : ¬ (0 : Int) < (m3.length : Int) + m4.length := by omega
                                clear hk he
                                go_wp2_with fail
                                go_meet
                                case rel => exact ⟨rfl, rfl⟩
                            · have q1 : (oc != nc) = true := by simpa using he
                              obtain rfl : kp = true := by rw [hk, q1]; simp
                              clear hk he
                              go_wp2_with fail
                              go_meet
                              case rel => exact ⟨rfl, rfl⟩
                      case rest =>
                        obtain ⟨rfl, hw10⟩ := hcut
                        subst hw10
                        cases kp with
                        | false =>
                          have hO' := hid (show O = chgsOf xs ys (done ++ [n]) by rw [hO.out]; unfold chgsOf; rw [List.filter_append, List.map_append]; simp [← hkp.out])
                          go_wp2_with fail
                          go_roundg rest.length
                          case measure => simp
                          case rel => exact ⟨done ++ [n], rest, O, rfl, hdn, by simp, hO', by simp; omega, hN10, hid (Kd.S_mono hS10.out (fun k hk => hk.1)), by omega, hbz10⟩
                        | true =>
                          have hO' := hid (show O ++ [chgOf xs ys n] = chgsOf xs ys (done ++ [n]) by rw [hO.out]; unfold chgsOf; rw [List.filter_append, List.map_append]; simp [← hkp.out])
                          rw [hp.out] at hO'
                          have hO60 : O.length ≤ 60 := by omega
                          have hbs10 := hbz10.size
                          have hown := hid (fun k hk => (Kd.S_R hS10.out).1 k hk)
                          go_wp2_with (at_builtin; (refine Kd.S_append (kChg 62) (w0 := w) w.heap.size rfl _ _ 24 46 _ 80 rfl Try.underlying24 infoChg rfl (by show 0 < 5; omega) (by decide) _ O (⟨n, oc, nc, m3, m4⟩ : Chg) _ (fun k => k < w.heap.size + 1 ∨ w2.heap.size ≤ k) (fun k => wq.heap.size ≤ k) rfl rfl (kChg_M (N := N) (Kd.R_mono hR3'.out (fun k hk => ⟨by have := hk.1.1; omega, hk.2⟩)) (Kd.R_mono hR4'.out (fun k hk => ⟨by have := hk.1.1; omega, hk.2⟩))) (fun k hk => ⟨.inr (by omega), fun he => by have := hown.out k he.symm; omega⟩) (fun k hk => .inr (by omega)) (Kd.S_mono hS10.out (fun k hk => ⟨hk.1, by have := hk.2; omega⟩)) hbz10 hbs10 (by omega) ?_; intro v11 w11 ho11 hb11 hg11 _))
                          have hN11 := hid (Kd.R_grown hN10.out hg11 (fun k hk he => by have h := hown.out k he.symm; have h1 := h.1; have h2 := h.2; have h3 := hk.1; have h4 := hk.2; omega))
                          have hz11 := hg11.size
                          clear hg11
                          have hz11' : w2.heap.size ≤ w11.heap.size := by omega
                          go_roundg rest.length
                          case measure => simp
                          case rel => exact ⟨done ++ [n], rest, O ++ [(⟨n, oc, nc, m3, m4⟩ : Chg)], rfl, hdn, by simp, hO', by simp; omega, hN11, hid ho11, hz11', hb11⟩
end Go.Proofs.Ytmjkjlifhlemlaa.H
