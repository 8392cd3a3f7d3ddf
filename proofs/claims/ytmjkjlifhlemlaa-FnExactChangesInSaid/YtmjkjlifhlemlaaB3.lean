/- The reference's sort of names, walked: what it hands back is Plain.srt. -/
import Derived.Test.YtmjkjlifhlemlaaB1
import Derived.Test.YtmjkjlifhlemlaaPl
import Derived.Deep.DeepCutAuto
import Derived.Deep.LoopGhost
set_option linter.unusedVariables false
set_option linter.unusedSimpArgs false
set_option maxRecDepth 100000
set_option maxHeartbeats 2000000
namespace Go.Proofs.Ytmjkjlifhlemlaa.H
open Go.RowKit Go.Proofs.YtmjkjlifhlemlaaW.PrintWords Go.Proofs.YtmjkjlifhlemlaaW.PrintLast Go.Proofs.Ytmjkjlifhlemlaa.Base
def leB (a b : ByteArray) : Bool := Op.bytesLess a.toList b.toList || a.toList == b.toList
theorem specSorted : ∀ (n : Nat) (v : Value) (xs : List ByteArray) (w : World), In kS w v xs → xs.length ≤ n → xs.length ≤ 4194304 →
    Calls Try.prog 14 #[v] w fun e w' => ∃ v', e = .returned v' ∧ kS.R 9 w' w.heap.size (fun _ => True) v' (Plain.srt leB n xs) ∧ Below w.heap.size w w' := by
  intro n
  induction n with
  | zero =>
    intro v xs w hx hn hl
    obtain rfl : xs = [] := List.eq_nil_of_length_eq_zero (by omega)
    obtain ⟨A, c, rfl, hc, hC⟩ := hx
    go_enter Try.func14, Try.ntmps14
    go_wp2_with (at_builtin; refine R_rows kS (w0 := w) 37 9 rfl rfl Try.underlying37 infoS rfl (by decide) (by decide) rfl rfl (R_empty kS _ _ (Nat.le_refl _)) (Kd.C_alloc hC _) (fun _ _ hk => hk) bel (by simp) (by simp) ?_; intro v1 w1 ho1 hb1 hg1)
    go_ret
    exact ⟨_, rfl, ho1, hb1⟩
  | succ n ih =>
    intro v xs w hx hn hl
    have hx0 := hx
    obtain ⟨A, c, rfl, hc, hC⟩ := hx
    by_cases h2 : xs.length < 2
    · have h2' : ((xs.length : Int) < 2) := by omega
      have hS := hid (show Plain.srt leB (n + 1) xs = xs by unfold Plain.srt; rw [if_pos h2])
      go_enter Try.func14, Try.ntmps14
      go_wp2_with (at_builtin; refine R_rows kS (w0 := w) 37 9 rfl rfl Try.underlying37 infoS rfl (by decide) (by decide) rfl rfl (R_empty kS _ _ (Nat.le_refl _)) (Kd.C_alloc hC _) (fun _ _ hk => hk) bel (by simp) (by simp; omega) ?_; intro v1 w1 ho1 hb1 hg1)
      go_ret
      exact ⟨_, rfl, by rw [hS.out]; exact ho1, hb1⟩
    · have h2' : ¬ ((xs.length : Int) < 2) := by omega
      go_enter Try.func14, Try.ntmps14
      go_wp2_with fail
      have hT : In kS w (.slice A (xs.length / 2) c) (xs.take (xs.length / 2)) := by
        have hl2 : (xs.take (xs.length / 2)).length = xs.length / 2 := by rw [List.length_take]; omega
        have := Kd.C_take hC (m := xs.length / 2) (by omega)
        exact ⟨A, c, by rw [hl2], by omega, by rw [hl2]; simpa [hl2] using this⟩
      refine (ih _ _ _ hT (by rw [List.length_take]; omega) (by rw [List.length_take]; omega)).mono ?_
      rintro e w1 ⟨v1, rfl, ho1, hb1⟩
      have hD : In kS w1 (.slice (Option.map (fun x => x.add (xs.length / 2)) A) (xs.length - xs.length / 2) (c - xs.length / 2)) (xs.drop (xs.length / 2)) := by
        have hl2 : (xs.drop (xs.length / 2)).length = xs.length - xs.length / 2 := List.length_drop
        have h := Kd.C_drop (Kd.C_below hC hb1) (m := xs.length / 2) (c := c) (by omega) hc
        rw [if_neg (by omega)] at h
        refine ⟨_, c - xs.length / 2, by rw [hl2], by omega, ?_⟩
        have e1 : (fun x : Addr => x.add (xs.length / 2 * kS.sz)) = (fun x : Addr => x.add (xs.length / 2)) := funext fun x => by show x.add (xs.length / 2 * 1) = _; rw [Nat.mul_one]
        rw [e1] at h
        exact h
      go_wp2_with fail
      refine (ih _ _ _ hD (by rw [List.length_drop]; omega) (by rw [List.length_drop]; omega)).mono ?_
      rintro e w2 ⟨v2, rfl, ho2, hb2⟩
      have hA := ho1
      have ho1 := Kd.R_below ho1 hb2
      have hb2' := hb2.after hb1
      have hS := hid (show Plain.srt leB (n + 1) xs = Plain.mrg leB [] (Plain.srt leB n (xs.take (xs.length / 2))) (Plain.srt leB n (xs.drop (xs.length / 2))) by rw [Plain.srt, if_neg h2])
      have hl1 := Plain.srt_len leB n (xs.take (xs.length / 2))
      have hl2 := Plain.srt_len leB n (xs.drop (xs.length / 2))
      rw [List.length_take] at hl1
      rw [List.length_drop] at hl2
      generalize Plain.srt leB n (xs.take (xs.length / 2)) = ps at *
      generalize Plain.srt leB n (xs.drop (xs.length / 2)) = qs at *
      obtain ⟨A1, c1, rfl, hc1, hC1⟩ := In.ofR ho1
      obtain ⟨A2, c2, rfl, hc2, hC2⟩ := In.ofR ho2
      clear hA ho1 ho2
      go_wp2_with fail
      go_loopg [5, 6, 7] (ps.length + qs.length) (fun g vo vi vk wr => ∃ out da ra db rb, g = ra.length + rb.length ∧ Hid (ps = da ++ ra) ∧ Hid (qs = db ++ rb) ∧ vi = .int .i64 da.length ∧ vk = .int .i64 db.length ∧ kS.R 9 wr w2.heap.size (fun _ => True) vo out ∧ out.length ≤ da.length + db.length ∧ Hid (Plain.srt leB (n + 1) xs = Plain.mrg leB out ra rb) ∧ Below w2.heap.size w2 wr)
      case atStart => exact ⟨[], [], ps, [], qs, rfl, rfl, rfl, rfl, rfl, R_empty _ _ _ (Nat.le_refl _), Nat.le_refl _, hS, bel⟩
      case round =>
        obtain ⟨out, da, ra, db, rb, rfl, hxa, hxb, rfl, rfl, ho, hol, hH, hbw⟩ := hrel
        have hbs := hbw.size
        have hda := hid (show da.length + ra.length = ps.length by rw [hxa.out]; simp)
        have hdb := hid (show db.length + rb.length = qs.length by rw [hxb.out]; simp)
        have hda2 : da.length ≤ ps.length := by have := hda.out; omega
        have hdb2 : db.length ≤ qs.length := by have := hdb.out; omega
        have hCa := Kd.C_below (Kd.C_below hC1 (Below.refl _ _)) hbw
        have hCb := Kd.C_below hC2 hbw
        obtain ⟨nz, hnz⟩ : ∃ nz : Bool, nz = !(ra.isEmpty && rb.isEmpty) := ⟨_, rfl⟩
        replace hnz := hid hnz
        go_upto_region 8 with fail
        go_cut [37] (fun b wx => b = Value.bool nz ∧ wx = wr)
        case first =>
          replace hnz := hnz.out
          cases ra with
          | nil =>
            have hli : ¬ da.length < ps.length := by replace hda := hda.out; simp at hda; omega
            cases rb with
            | nil =>
              have hlk : ¬ db.length < qs.length := by replace hdb := hdb.out; simp at hdb; omega
              subst hnz
              go_wp2_with fail
              go_meet
              case rel => exact ⟨rfl, rfl⟩
            | cons y rb =>
              have hlk : db.length < qs.length := by replace hdb := hdb.out; simp at hdb; omega
              subst hnz
              go_wp2_with fail
              go_meet
              case rel => exact ⟨rfl, rfl⟩
          | cons x ra =>
            have hli : da.length < ps.length := by replace hda := hda.out; simp at hda; omega
            subst hnz
            go_wp2_with fail
            go_meet
            case rel => exact ⟨rfl, rfl⟩
        case rest =>
          obtain ⟨rfl, rfl⟩ := hcut
          by_cases hend : ra = [] ∧ rb = []
          · obtain ⟨rfl, rfl⟩ := hend
            obtain rfl : nz = false := hnz.out
            go_wp2_with fail
            go_ret
            exact ⟨_, rfl, by rw [hH.out, Plain.mrg]; exact Kd.R_lower ho hb2'.size, hbw.after hb2'⟩
          · obtain rfl : nz = true := by rw [hnz.out]; cases ra <;> cases rb <;> simp at hend ⊢
            clear hnz
            obtain ⟨tk, htk⟩ : ∃ tk : Bool, tk = (match ra, rb with | _, [] => true | [], _ => false | x :: _, y :: _ => leB x y) := ⟨_, rfl⟩
            replace htk := hid htk
            replace hend := hid hend
            go_upto_region 10 with fail
            go_cut [58] (fun b wx => b = Value.bool tk ∧ ∃ m : Nat, wx = World.drewN wc m)
            case first =>
              replace hend := hend.out
              replace htk := htk.out
              cases ra with
              | nil =>
                cases rb with
                | nil => exact absurd ⟨rfl, rfl⟩ hend
                | cons y rb =>
                  subst htk
                  have hli : ¬ da.length < ps.length := by replace hda := hda.out; simp at hda; omega
                  have hlk : db.length < qs.length := by replace hdb := hdb.out; simp at hdb; omega
                  have q1 : decide ((qs.length : Int) ≤ db.length) = false := by replace hdb := hdb.out; simp at hdb; simp; omega
                  have q2 : decide ((da.length : Int) < ps.length) = false := by replace hda := hda.out; simp at hda; simp; omega
                  have q3 : decide (qs.length ≤ db.length) = false := by simp; omega
                  have q4 : decide (da.length < ps.length) = false := by simp; omega
                  clear hli hlk
                  clear hend
                  go_quiet (fail)
                  go_wp2_with fail
                  go_meet
                  case rel => exact ⟨rfl, _, rfl⟩
              | cons x ra =>
                obtain ⟨ada, rfl, da0⟩ := str_at hCa hxa.out
                have p0 : (0 : Int) ≤ da.length := by omega
                have p1 : (da.length : Int) < ps.length := by replace hda := hda.out; simp at hda; omega
                cases rb with
                | nil =>
                  subst htk
                  have hli : da.length < ps.length := by replace hda := hda.out; simp at hda; omega
                  have hlk : ¬ db.length < qs.length := by replace hdb := hdb.out; simp at hdb; omega
                  have q1 : decide ((qs.length : Int) ≤ db.length) = true := by replace hdb := hdb.out; simp at hdb; simp; omega
                  have q3 : decide (qs.length ≤ db.length) = true := by simp; omega
                  clear hli hlk
                  clear hend
                  go_quiet (fail)
                  go_wp2_with fail
                  go_meet
                  case rel => exact ⟨rfl, _, rfl⟩
                | cons y rb =>
                  obtain ⟨adb, rfl, db0⟩ := str_at hCb hxb.out
                  have p2 : (0 : Int) ≤ db.length := by omega
                  have p3 : (db.length : Int) < qs.length := by replace hdb := hdb.out; simp at hdb; omega
                  have q1 : decide ((qs.length : Int) ≤ db.length) = false := by simp; omega
                  have q2 : decide ((da.length : Int) < ps.length) = true := by simp; omega
                  have hli : da.length < ps.length := by omega
                  have hlk : db.length < qs.length := by omega
                  have q3 : decide (qs.length ≤ db.length) = false := by simp; omega
                  have q4 : decide (da.length < ps.length) = true := by simp; omega
                  subst htk
                  clear hli hlk
                  clear hend
                  go_quiet (fail)
                  go_wp2_with fail
                  go_meet
                  case rel => exact ⟨rfl, _, rfl⟩
            case rest =>
              obtain ⟨rfl, m, rfl⟩ := hcut
              go_upto_if 58 with fail
              go_cut [6, 7, 8] (fun vi vk vs wx => wx = World.drewN wc m ∧ ∃ (s : ByteArray) (da' ra' db' rb' : List ByteArray), vs = .string s ∧ Hid (ps = da' ++ ra') ∧ Hid (qs = db' ++ rb') ∧ vi = .int .i64 da'.length ∧ vk = .int .i64 db'.length ∧ Hid (Plain.mrg leB out ra rb = Plain.mrg leB (Plain.step out s) ra' rb') ∧ da'.length + db'.length = da.length + db.length + 1 ∧ ra'.length + rb'.length < ra.length + rb.length)
              case first =>
                replace hend := hend.out
                replace htk := htk.out
                cases ra with
                | nil =>
                  cases rb with
                  | nil => exact absurd ⟨rfl, rfl⟩ hend
                  | cons y rb =>
                    subst htk
                    obtain ⟨adb, rfl, db0⟩ := str_at hCb hxb.out
                    have p2 : (0 : Int) ≤ db.length := by omega
                    have p3 : (db.length : Int) < qs.length := by replace hdb := hdb.out; simp at hdb; omega
                    have hN := hid (show Plain.mrg leB out [] (y :: rb) = Plain.mrg leB (Plain.step out y) [] rb by rw [Plain.mrg])
                    have hxb' := hid (show qs = (db ++ [y]) ++ rb by rw [hxb.out]; simp)
                    clear hend
                    go_wp2_with fail
                    go_meet
                    case rel => exact ⟨rfl, y, da, [], db ++ [y], rb, rfl, hxa, hxb', rfl, by simp, hN, by simp; omega, by simp⟩
                | cons x ra =>
                  obtain ⟨ada, rfl, da0⟩ := str_at hCa hxa.out
                  have p0 : (0 : Int) ≤ da.length := by omega
                  have p1 : (da.length : Int) < ps.length := by replace hda := hda.out; simp at hda; omega
                  have hxa' := hid (show ps = (da ++ [x]) ++ ra by rw [hxa.out]; simp)
                  cases rb with
                  | nil =>
                    subst htk
                    have hN := hid (show Plain.mrg leB out (x :: ra) [] = Plain.mrg leB (Plain.step out x) ra [] by rw [Plain.mrg])
                    clear hend
                    go_wp2_with fail
                    go_meet
                    case rel => exact ⟨rfl, x, da ++ [x], ra, db, [], rfl, hxa', hxb, by simp, rfl, hN, by simp; omega, by simp⟩
                  | cons y rb =>
                    obtain ⟨adb, rfl, db0⟩ := str_at hCb hxb.out
                    have p2 : (0 : Int) ≤ db.length := by omega
                    have p3 : (db.length : Int) < qs.length := by replace hdb := hdb.out; simp at hdb; omega
                    have hxb' := hid (show qs = (db ++ [y]) ++ rb by rw [hxb.out]; simp)
                    replace htk : tk = leB x y := htk
                    clear hend
                    by_cases hle : leB x y = true
                    · have hN := hid (show Plain.mrg leB out (x :: ra) (y :: rb) = Plain.mrg leB (Plain.step out x) ra (y :: rb) by rw [Plain.mrg, if_pos hle])
                      rw [hle] at htk
                      subst htk
                      clear hle
                      go_wp2_with fail
                      go_meet
                      case rel => exact ⟨rfl, x, da ++ [x], ra, db, y :: rb, rfl, hxa', hxb, by simp, rfl, hN, by simp; omega, by simp⟩
                    · have hN := hid (show Plain.mrg leB out (x :: ra) (y :: rb) = Plain.mrg leB (Plain.step out y) (x :: ra) rb by rw [Plain.mrg, if_neg hle])
                      rw [Bool.eq_false_iff.2 hle] at htk
                      subst htk
                      clear hle
                      go_wp2_with fail
                      go_meet
                      case rel => exact ⟨rfl, y, da, x :: ra, db ++ [y], rb, rfl, hxa, hxb', rfl, by simp, hN, by simp; omega, by simp⟩
              case rest =>
                obtain ⟨rfl, s, da', ra', db', rb', rfl, hxa', hxb', rfl, rfl, hN, hl1', hms⟩ := hcut
                have hl1' := hid hl1'
                replace hN := hid (hH.out.trans hN.out)
                obtain ⟨tp, htp⟩ : ∃ p : Bool, p = decide (out.getLast? ≠ some s) := ⟨_, rfl⟩
                replace htp := hid htp
                obtain ⟨Ao, co, rfl, hco, hCo⟩ := In.ofR ho
                have ho0' := hid ho
                have hbw0 := hid hbw
                have hbs : w2.heap.size ≤ (World.drewN wc m).heap.size := by simpa using hbs
                go_upto_region 15 with fail
                go_cut [83] (fun b wx => b = Value.bool tp ∧ ∃ m' : Nat, wx = World.drewN wc m')
                case first =>
                  replace htp := htp.out
                  rcases List.eq_nil_or_concat out with ho0 | ⟨o', l, ho0⟩
                  · have z0 : out.length = 0 := by rw [ho0]; rfl
                    rw [ho0] at htp
                    clear ho0 hend
                    subst htp
                    go_wp2_with fail
                    go_meet
                    case rel => exact ⟨rfl, m, rfl⟩
                  · rw [List.concat_eq_append] at ho0
                    have z1 : out.length = o'.length + 1 := by rw [ho0]; simp
                    obtain ⟨ado, rfl, dl⟩ := str_at (done := o') (rest := []) (x := l) hCo ho0
                    have z2 : (((o'.length : Int) + 1) == 0) = false := beq_eq_false_iff_ne.2 (by omega)
                    rw [ho0, List.getLast?_concat] at htp
                    have t1 : (l.toList == s.toList) = !tp := by rw [str_beq, htp]; simp
                    clear ho0 hend htp
                    cases tp
                    · go_wp2_with fail
                      go_meet
                      case rel => exact ⟨rfl, m, rfl⟩
                    · go_wp2_with fail
                      go_meet
                      case rel => exact ⟨rfl, m, rfl⟩
                case rest =>
                  obtain ⟨rfl, m', rfl⟩ := hcut
                  replace ho := Kd.R_drewN ho0'.out m'
                  replace hbw := pw_below_drewN hbw0.out m'
                  cases tp
                  · have hst := hid (show Plain.step out s = out by have h := htp.out; unfold Plain.step; rw [if_pos (by simpa using h)])
                    go_wp2_with fail
                    go_roundg (ra'.length + rb'.length)
                    case measure => exact hms
                    case rel => exact ⟨out, da', ra', db', rb', rfl, hxa', hxb', rfl, rfl, ho, by have := hl1'.out; omega, hid (by rw [hN.out, hst.out]), hbw⟩
                  · have hst := hid (show Plain.step out s = out ++ [s] by have h := htp.out; unfold Plain.step; rw [if_neg (by simpa using h)])
                    go_wp2_with (at_builtin; refine R_push kS (w0 := w2) 37 9 rfl rfl Try.underlying37 infoS rfl (by decide) (by decide) s rfl rfl rfl ho hbw (by simpa using hbs) (by omega) ?_; intro v3 w3 ho3 hb3 hg3; clear ho)
                    go_roundg (ra'.length + rb'.length)
                    case measure => exact hms
                    case rel => exact ⟨out ++ [s], da', ra', db', rb', rfl, hxa', hxb', rfl, rfl, ho3, by have := hl1'.out; simp; omega, hid (by rw [hN.out, hst.out]), hb3⟩
end Go.Proofs.Ytmjkjlifhlemlaa.H
