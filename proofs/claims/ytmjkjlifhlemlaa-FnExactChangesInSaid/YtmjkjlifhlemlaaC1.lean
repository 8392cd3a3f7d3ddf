/- The reference's order and sort of labels, walked: Plain.srt leL. -/
import Derived.Test.YtmjkjlifhlemlaaB1
import Derived.Test.YtmjkjlifhlemlaaH2
import Derived.Test.YtmjkjlifhlemlaaPl
import Derived.Test.YtmjkjlifhlemlaaWEqStruct
import Derived.Deep.DeepCutAuto
import Derived.Deep.LoopGhost
import Derived.Deep.RegionWith
set_option linter.unusedVariables false
set_option linter.unusedSimpArgs false
set_option maxRecDepth 100000
set_option maxHeartbeats 2000000
namespace Go.Proofs.Ytmjkjlifhlemlaa.H
open Go.RowKit Go.Proofs.YtmjkjlifhlemlaaW.PrintWords Go.Proofs.YtmjkjlifhlemlaaW.PrintLast Go.Proofs.Ytmjkjlifhlemlaa.Base
def ltL (x y : Lbl) : Bool := decide (x.kind < y.kind) || (decide (x.kind = y.kind) && Op.bytesLess x.name.toList y.name.toList)
def leL (x y : Lbl) : Bool := !ltL y x
theorem box2_set {w : World} {b : Nat} {t0 t1 : Value} (x0 x1 : Value) (h0 : w.cell? ⟨b, 0, none⟩ = some t0) (h1 : w.cell? ⟨b, 1, none⟩ = some t1) :
    ((w.setCell ⟨b, 0, none⟩ x0).setCell ⟨b, 1, none⟩ x1).cell? ⟨b, 0, none⟩ = some x0 ∧ ((w.setCell ⟨b, 0, none⟩ x0).setCell ⟨b, 1, none⟩ x1).cell? ⟨b, 1, none⟩ = some x1 := by
  have e1 : ((w.setCell ⟨b, 0, none⟩ x0)).cell? ⟨b, 1, none⟩ = some t1 := by rw [World.cell?_setCell_other _ _ _ _ (by simp)]; exact h1
  exact ⟨by rw [World.cell?_setCell_other _ _ _ _ (by simp)]; exact World.cell?_setCell_same _ _ _ h0, World.cell?_setCell_same _ _ _ e1⟩
theorem eqLblRun (x y : Lbl) (w : World) : (Op.equalIn 10000 62 (.agg #[.int .i64 x.kind, .string x.name]) (.agg #[.int .i64 y.kind, .string y.name])).run Try.prog w = .ok (decide (x = y)) w := by
  rw [Lbl.eq_of]
  refine eqA_of Try.underlying62 (by kernel_rfl) ?_
  refine eqf_cons (by rfl) (by rfl) (by rfl) (r := decide (x.kind = y.kind)) (s := decide (x.name = y.name)) ?_ ?_
  · exact (run_equalIn_int w _ _ _ .i64 _ _ Try.underlying3).trans rfl
  · refine eqf_last (by rfl) (by rfl) (by rfl) ?_
    exact (run_equalIn_string w _ _ _ _ Try.underlying9).trans (by rw [str_beq])
theorem specLess (x y : Lbl) (w : World) : Calls Try.prog 31 #[.agg #[.int .i64 x.kind, .string x.name], .agg #[.int .i64 y.kind, .string y.name]] w fun e w' => e = .returned (.bool (ltL x y)) ∧ Below w.heap.size w w' := by
  go_enter Try.func31, Try.ntmps31
  go_wp2_with fail
  all_goals
    go_ret
    exact ⟨ret_bool (by unfold ltL; simp [*]), bel⟩
theorem lbl_half {w : World} {A : Option Addr} {c : Nat} {xs : List Lbl} (hc : xs.length ≤ c) (hC : kLbl.C w A xs.length xs) (h2 : 2 ≤ xs.length) :
    In kLbl w (.slice A (xs.length / 2) c) (xs.take (xs.length / 2)) ∧ In kLbl w (.slice (Option.map (fun x => x.add (xs.length / 2 * 2)) A) (xs.length - xs.length / 2) (c - xs.length / 2)) (xs.drop (xs.length / 2)) := by
  constructor
  · have hl2 : (xs.take (xs.length / 2)).length = xs.length / 2 := by rw [List.length_take]; omega
    have := Kd.C_take hC (m := xs.length / 2) (by omega)
    exact ⟨A, c, by rw [hl2], by omega, by rw [hl2]; simpa [hl2] using this⟩
  · have hl2 : (xs.drop (xs.length / 2)).length = xs.length - xs.length / 2 := List.length_drop
    have h := Kd.C_drop hC (m := xs.length / 2) (c := c) (by omega) hc
    rw [if_neg (by omega)] at h
    exact ⟨_, c - xs.length / 2, by rw [hl2]; rfl, by omega, h⟩
theorem R_rowsL {P : Program} {ops : Array Oper} {rest : List Oper} {o : Oper} {a : Act} {Q : Exit → Act → World → Prop} {w0 W : World} {base : Nat} (t e : TypeId) {s x : Operand} {z : Value} (ho : o.op = .call { callee := .builtin .append, args := #[s, x], argTypes := #[t, t] }) (hgd : o.guard = none)
    (ht : P.underlying t = some (.slice e)) (hinfo : (P.info? e).map (fun i => (i.zero, i.size, i.bytes)) = some (some z, 2, 24)) (hz : z.cells.size = 2)
    {v : Value} {xs ys : List Lbl} {A : Option Addr} {m c : Nat} (hs : a.eval s = v) (hx : a.eval x = .slice A m c) (HO : kLbl.R e W base (fun _ => True) v xs) (HC : kLbl.C W A m ys)
    (HB : Below base w0 W) (hbase : base ≤ W.heap.size) (hl : xs.length + m ≤ 1000000000)
    (h : ∀ v1 w1, kLbl.R e w1 base (fun _ => True) v1 (xs ++ ys) → Below base w0 w1 → W.grownBy w1 v.ownBlock → wpList P ops Q rest (a.put o.dst v1) w1) : wpList P ops Q (o :: rest) a W :=
  R_rows kLbl t e ho hgd ht hinfo hz (by decide) (by decide) hs hx HO HC (fun x cs hk => by obtain ⟨_, _, rfl, rfl, rfl⟩ := hk; exact kLbl_M x) HB hbase (by omega) h
theorem specLSorted : ∀ (n : Nat) (v : Value) (xs : List Lbl) (w : World), In kLbl w v xs → xs.length ≤ n → xs.length ≤ 4194304 →
    Calls Try.prog 30 #[v] w fun e w' => ∃ v', e = .returned v' ∧ kLbl.R 62 w' w.heap.size (fun _ => True) v' (Plain.srt leL n xs) ∧ Below w.heap.size w w' := by
  intro n
  induction n with
  | zero =>
    intro v xs w hx hn hl
    obtain rfl : xs = [] := List.eq_nil_of_length_eq_zero (by omega)
    obtain ⟨A, c, rfl, hc, hC⟩ := hx
    go_enter Try.func30, Try.ntmps30
    go_wp2_with (at_builtin; refine R_rowsL (w0 := w) 38 62 rfl rfl Try.underlying38 infoLbl rfl rfl rfl (R_empty kLbl _ _ (Nat.le_refl _)) (Kd.C_alloc hC _) bel (by simp) (by simp) ?_; intro v1 w1 ho1 hb1 hg1)
    go_ret
    exact ⟨_, rfl, ho1, hb1⟩
  | succ n ih =>
    intro v xs w hx hn hl
    have hx0 := hx
    obtain ⟨A, c, rfl, hc, hC⟩ := hx
    by_cases h2 : xs.length < 2
    · have h2' : ((xs.length : Int) < 2) := by omega
      have hS := hid (show Plain.srt leL (n + 1) xs = xs by unfold Plain.srt; rw [if_pos h2])
      go_enter Try.func30, Try.ntmps30
      go_wp2_with (at_builtin; refine R_rowsL (w0 := w) 38 62 rfl rfl Try.underlying38 infoLbl rfl rfl rfl (R_empty kLbl _ _ (Nat.le_refl _)) (Kd.C_alloc hC _) bel (by simp) (by simp; omega) ?_; intro v1 w1 ho1 hb1 hg1)
      go_ret
      exact ⟨_, rfl, by rw [hS.out]; exact ho1, hb1⟩
    · have h2' : ¬ ((xs.length : Int) < 2) := by omega
      go_enter Try.func30, Try.ntmps30
      go_wp2_with fail
      refine (ih _ _ _ (lbl_half hc hC (by omega)).1 (by rw [List.length_take]; omega) (by rw [List.length_take]; omega)).mono ?_
      rintro e w1 ⟨v1, rfl, ho1, hb1⟩
      have hD := (lbl_half hc (Kd.C_below hC hb1) (by omega)).2
      go_wp2_with fail
      refine (ih _ _ _ hD (by rw [List.length_drop]; omega) (by rw [List.length_drop]; omega)).mono ?_
      rintro e w2 ⟨v2, rfl, ho2, hb2⟩
      have hA := ho1
      have ho1 := Kd.R_below ho1 hb2
      have hb2' := hb2.after hb1
      have hS := hid (show Plain.srt leL (n + 1) xs = Plain.mrg leL [] (Plain.srt leL n (xs.take (xs.length / 2))) (Plain.srt leL n (xs.drop (xs.length / 2))) by rw [Plain.srt, if_neg h2])
      have hl1 := Plain.srt_len leL n (xs.take (xs.length / 2))
      have hl2 := Plain.srt_len leL n (xs.drop (xs.length / 2))
      rw [List.length_take] at hl1
      rw [List.length_drop] at hl2
      generalize Plain.srt leL n (xs.take (xs.length / 2)) = ps at *
      generalize Plain.srt leL n (xs.drop (xs.length / 2)) = qs at *
      obtain ⟨A1, c1, rfl, hc1, hC1⟩ := In.ofR ho1
      obtain ⟨A2, c2, rfl, hc2, hC2⟩ := In.ofR ho2
      clear hA ho1 ho2
      go_wp2_with fail
      go_loopg [5, 6, 7] (ps.length + qs.length) (fun g vo vi vk wr => ∃ out da ra db rb, g = ra.length + rb.length ∧ Hid (ps = da ++ ra) ∧ Hid (qs = db ++ rb) ∧ vi = .int .i64 da.length ∧ vk = .int .i64 db.length ∧ kLbl.R 62 wr w2.heap.size (fun _ => True) vo out ∧ out.length ≤ da.length + db.length ∧ Hid (Plain.srt leL (n + 1) xs = Plain.mrg leL out ra rb) ∧ Below w2.heap.size w2 wr)
      case atStart => exact ⟨[], [], ps, [], qs, rfl, rfl, rfl, rfl, rfl, R_empty _ _ _ (Nat.le_refl _), Nat.le_refl _, hS, bel⟩
      case round =>
        obtain ⟨out, da, ra, db, rb, rfl, hxa, hxb, rfl, rfl, ho, hol, hH, hbw⟩ := hrel
        have hbs := hbw.size
        have hda := hid (show da.length + ra.length = ps.length by rw [hxa.out]; simp)
        have hdb := hid (show db.length + rb.length = qs.length by rw [hxb.out]; simp)
        have hda2 : da.length ≤ ps.length := by have := hda.out; omega
        have hdb2 : db.length ≤ qs.length := by have := hdb.out; omega
        have hCa := Kd.C_below (Kd.C_below hC1 (Below.refl _ _)) hbw
        have hCb := Kd.C_below hC2 hbw
        obtain ⟨nz, hnz⟩ : ∃ nz : Bool, nz = !(ra.isEmpty && rb.isEmpty) := ⟨_, rfl⟩
        replace hnz := hid hnz
        go_upto_region 8 with fail
        go_cut [37] (fun b wx => b = Value.bool nz ∧ wx = wr)
        case first =>
          replace hnz := hnz.out
          cases ra with
          | nil =>
            have hli : ¬ da.length < ps.length := by replace hda := hda.out; simp at hda; omega
            cases rb with
            | nil =>
              have hlk : ¬ db.length < qs.length := by replace hdb := hdb.out; simp at hdb; omega
              subst hnz
              go_wp2_with fail
              go_meet
              case rel => exact ⟨rfl, rfl⟩
            | cons y rb =>
              have hlk : db.length < qs.length := by replace hdb := hdb.out; simp at hdb; omega
              subst hnz
              go_wp2_with fail
              go_meet
              case rel => exact ⟨rfl, rfl⟩
          | cons x ra =>
            have hli : da.length < ps.length := by replace hda := hda.out; simp at hda; omega
            subst hnz
            go_wp2_with fail
            go_meet
            case rel => exact ⟨rfl, rfl⟩
        case rest =>
          obtain ⟨rfl, rfl⟩ := hcut
          by_cases hend : ra = [] ∧ rb = []
          · obtain ⟨rfl, rfl⟩ := hend
            obtain rfl : nz = false := hnz.out
            go_wp2_with fail
            go_ret
            exact ⟨_, rfl, by rw [hH.out, Plain.mrg]; exact Kd.R_lower ho hb2'.size, hbw.after hb2'⟩
          · obtain rfl : nz = true := by rw [hnz.out]; cases ra <;> cases rb <;> simp at hend ⊢
            clear hnz
            obtain ⟨w4, hw4⟩ : ∃ w4, w4 = wc := ⟨_, rfl⟩
            subst hw4
            obtain ⟨tk, htk⟩ : ∃ tk : Bool, tk = (match ra, rb with | _, [] => true | [], _ => false | x :: _, y :: _ => leL x y) := ⟨_, rfl⟩
            replace htk := hid htk
            replace hend := hid hend
            go_upto_region 10 with fail
            go_cut [60] (fun b wx => b = Value.bool tk ∧ Below w4.heap.size w4 wx ∧ w4.heap.size < wx.heap.size ∧ wx.cell? ⟨w4.heap.size, 0, none⟩ = some (.int .i64 0) ∧ wx.cell? ⟨w4.heap.size, 1, none⟩ = some (.string ⟨#[]⟩) ∧ ∀ o, wx.frozen? ⟨w4.heap.size, o, none⟩ = false)
            case first =>
              replace hend := hend.out
              replace htk := htk.out
              have hz0 : w4.heap.size < (w4.alloc (Obj.cells #[Value.int IntKind.i64 0, Value.string { data := #[] }] 62)).heap.size := by simp
              have hb0 : Below w4.heap.size w4 (w4.alloc (Obj.cells #[Value.int IntKind.i64 0, Value.string { data := #[] }] 62)) := bel
              have hx0 : (w4.alloc (Obj.cells #[Value.int IntKind.i64 0, Value.string { data := #[] }] 62)).cell? ⟨w4.heap.size, 0, none⟩ = some (.int .i64 0) := by simp
              have hx1 : (w4.alloc (Obj.cells #[Value.int IntKind.i64 0, Value.string { data := #[] }] 62)).cell? ⟨w4.heap.size, 1, none⟩ = some (.string ⟨#[]⟩) := by simp
              have hfz : ∀ o, (w4.alloc (Obj.cells #[Value.int IntKind.i64 0, Value.string { data := #[] }] 62)).frozen? ⟨w4.heap.size, o, none⟩ = false := by intro o; simp
              generalize w4.alloc (Obj.cells #[Value.int IntKind.i64 0, Value.string { data := #[] }] 62) = wa at *
              have hCa := Kd.C_below hCa hb0
              have hCb := Kd.C_below hCb hb0
              cases ra with
              | nil =>
                cases rb with
                | nil => exact absurd ⟨rfl, rfl⟩ hend
                | cons y rb =>
                  subst htk
                  have hli : ¬ da.length < ps.length := by replace hda := hda.out; simp at hda; omega
                  have hlk : db.length < qs.length := by replace hdb := hdb.out; simp at hdb; omega
                  have q1 : decide ((qs.length : Int) ≤ db.length) = false := by replace hdb := hdb.out; simp at hdb; simp; omega
                  have q2 : decide ((da.length : Int) < ps.length) = false := by replace hda := hda.out; simp at hda; simp; omega
                  have q3 : decide (qs.length ≤ db.length) = false := by simp; omega
                  have q4 : decide (da.length < ps.length) = false := by simp; omega
                  clear hli hlk
                  clear hend
                  go_quiet (fail)
                  go_wp2_with fail
                  go_meet
                  case rel => exact ⟨rfl, pw_below_drewN hb0 _, by simpa using hz0, by simpa using hx0, by simpa using hx1, fun o => by simpa using hfz o⟩
              | cons x ra =>
                obtain ⟨ada, rfl, da0, da1⟩ := lbl_at hCa hxa.out
                have p0 : (0 : Int) ≤ da.length := by omega
                have p1 : (da.length : Int) < ps.length := by replace hda := hda.out; simp at hda; omega
                cases rb with
                | nil =>
                  subst htk
                  have hli : da.length < ps.length := by replace hda := hda.out; simp at hda; omega
                  have hlk : ¬ db.length < qs.length := by replace hdb := hdb.out; simp at hdb; omega
                  have q1 : decide ((qs.length : Int) ≤ db.length) = true := by replace hdb := hdb.out; simp at hdb; simp; omega
                  have q3 : decide (qs.length ≤ db.length) = true := by simp; omega
                  clear hli hlk hend
                  go_quiet (fail)
                  go_wp2_with fail
                  go_meet
                  case rel => exact ⟨rfl, pw_below_drewN hb0 _, by simpa using hz0, by simpa using hx0, by simpa using hx1, fun o => by simpa using hfz o⟩
                | cons y rb =>
                  obtain ⟨adb, rfl, db0, db1⟩ := lbl_at hCb hxb.out
                  have p2 : (0 : Int) ≤ db.length := by omega
                  have p3 : (db.length : Int) < qs.length := by replace hdb := hdb.out; simp at hdb; omega
                  have q1 : decide ((qs.length : Int) ≤ db.length) = false := by simp; omega
                  have q2 : decide ((da.length : Int) < ps.length) = true := by simp; omega
                  have hli : da.length < ps.length := by omega
                  have hlk : db.length < qs.length := by omega
                  have q3 : decide (qs.length ≤ db.length) = false := by simp; omega
                  have q4 : decide (da.length < ps.length) = true := by simp; omega
                  subst htk
                  clear hli hlk hend
                  go_region_held3 (fun w' => Below wa.heap.size wa w' ∧ w'.cell? (ada.add (da.length * 2)) = some (.int .i64 x.kind) ∧ w'.cell? ⟨(ada.add (da.length * 2)).block, (ada.add (da.length * 2)).off + 1, none⟩ = some (.string x.name) ∧ w'.cell? (adb.add (db.length * 2)) = some (.int .i64 y.kind) ∧ w'.cell? ⟨(adb.add (db.length * 2)).block, (adb.add (db.length * 2)).off + 1, none⟩ = some (.string y.name)) (first | exact ⟨bel, by assumption, by assumption, by assumption, by assumption⟩ | (refine ⟨bel, ?_⟩; go_keep) | go_keep)
                    (first | (go_at_call 31; refine (specLess y x _).mono ?_; rintro e w3 ⟨rfl, hb3⟩; have hb9 : Below wa.heap.size wa w3 := hb3.after bel; have k1 := pw_cell_below hb3 (by assumption : _ = some (Value.int .i64 x.kind)); have k2 := pw_cell_below hb3 (by assumption : _ = some (Value.string x.name)); have k3 := pw_cell_below hb3 (by assumption : _ = some (Value.int .i64 y.kind)); have k4 := pw_cell_below hb3 (by assumption : _ = some (Value.string y.name))))
                  go_wp2_with fail
                  go_meet
                  case rel => exact ⟨rfl, hb9.after hb0, Nat.lt_of_lt_of_le hz0 hb9.size, (hb9.cell (p := ⟨w4.heap.size, 0, none⟩) hz0).trans hx0, (hb9.cell (p := ⟨w4.heap.size, 1, none⟩) hz0).trans hx1, fun o => (hb9.frozen (p := ⟨w4.heap.size, o, none⟩) hz0).trans (hfz o)⟩
            case rest =>
              obtain ⟨w3, hw3⟩ : ∃ w3, w3 = wc := ⟨_, rfl⟩
              subst hw3
              obtain ⟨rfl, hbx, hzx, hx0, hx1, hfz⟩ := hcut
              have hfz0 := hfz 0
              have hfz1 := hfz 1
              have hCa := Kd.C_below hCa hbx
              have hCb := Kd.C_below hCb hbx
              go_upto_if 60 with fail
              go_cut [6, 7] (fun vi vk wx => ∃ (s : Lbl) (da' ra' db' rb' : List Lbl), Hid (ps = da' ++ ra') ∧ Hid (qs = db' ++ rb') ∧ vi = .int .i64 da'.length ∧ vk = .int .i64 db'.length ∧ Hid (Plain.mrg leL out ra rb = Plain.mrg leL (Plain.step out s) ra' rb') ∧ da'.length + db'.length = da.length + db.length + 1 ∧ ra'.length + rb'.length < ra.length + rb.length ∧
                  Below w4.heap.size w4 wx ∧ w4.heap.size < wx.heap.size ∧ wx.cell? ⟨w4.heap.size, 0, none⟩ = some (.int .i64 s.kind) ∧ wx.cell? ⟨w4.heap.size, 1, none⟩ = some (.string s.name))
              case first =>
                replace hend := hend.out
                replace htk := htk.out
                cases ra with
                | nil =>
                  cases rb with
                  | nil => exact absurd ⟨rfl, rfl⟩ hend
                  | cons y rb =>
                    subst htk
                    obtain ⟨adb, rfl, db0, db1⟩ := lbl_at hCb hxb.out
                    have p2 : (0 : Int) ≤ db.length := by omega
                    have p3 : (db.length : Int) < qs.length := by have hdb := hdb.out; simp at hdb; omega
                    have hN := hid (show Plain.mrg leL out [] (y :: rb) = Plain.mrg leL (Plain.step out y) [] rb by rw [Plain.mrg])
                    have hxb' := hid (show qs = (db ++ [y]) ++ rb by rw [hxb.out]; simp)
                    clear hend
                    go_wp2_with fail
                    go_meet
                    case rel => exact ⟨y, da, [], db ++ [y], rb, hxa, hxb', rfl, by simp, hN, by simp; omega, by simp, bel, by simpa using hzx, (box2_set _ _ hx0 hx1).1, (box2_set _ _ hx0 hx1).2⟩
                | cons x ra =>
                  obtain ⟨ada, rfl, da0, da1⟩ := lbl_at hCa hxa.out
                  have p0 : (0 : Int) ≤ da.length := by omega
                  have p1 : (da.length : Int) < ps.length := by have hda := hda.out; simp at hda; omega
                  have hxa' := hid (show ps = (da ++ [x]) ++ ra by rw [hxa.out]; simp)
                  cases rb with
                  | nil =>
                    subst htk
                    have hN := hid (show Plain.mrg leL out (x :: ra) [] = Plain.mrg leL (Plain.step out x) ra [] by rw [Plain.mrg])
                    clear hend
                    go_wp2_with fail
                    go_meet
                    case rel => exact ⟨x, da ++ [x], ra, db, [], hxa', hxb, by simp, rfl, hN, by simp; omega, by simp, bel, by simpa using hzx, (box2_set _ _ hx0 hx1).1, (box2_set _ _ hx0 hx1).2⟩
                  | cons y rb =>
                    obtain ⟨adb, rfl, db0, db1⟩ := lbl_at hCb hxb.out
                    have p2 : (0 : Int) ≤ db.length := by omega
                    have p3 : (db.length : Int) < qs.length := by have hdb := hdb.out; simp at hdb; omega
                    have hxb' := hid (show qs = (db ++ [y]) ++ rb by rw [hxb.out]; simp)
                    replace htk : tk = leL x y := htk
                    clear hend
                    by_cases hle : leL x y = true
                    · have hN := hid (show Plain.mrg leL out (x :: ra) (y :: rb) = Plain.mrg leL (Plain.step out x) ra (y :: rb) by rw [Plain.mrg, if_pos hle])
                      rw [hle] at htk
                      subst htk
                      clear hle
                      go_wp2_with fail
                      go_meet
                      case rel => exact ⟨x, da ++ [x], ra, db, y :: rb, hxa', hxb, by simp, rfl, hN, by simp; omega, by simp, bel, by simpa using hzx, (box2_set _ _ hx0 hx1).1, (box2_set _ _ hx0 hx1).2⟩
                    · have hN := hid (show Plain.mrg leL out (x :: ra) (y :: rb) = Plain.mrg leL (Plain.step out y) (x :: ra) rb by rw [Plain.mrg, if_neg hle])
                      rw [Bool.eq_false_iff.2 hle] at htk
                      subst htk
                      clear hle
                      go_wp2_with fail
                      go_meet
                      case rel => exact ⟨y, da, x :: ra, db ++ [y], rb, hxa, hxb', rfl, by simp, hN, by simp; omega, by simp, bel, by simpa using hzx, (box2_set _ _ hx0 hx1).1, (box2_set _ _ hx0 hx1).2⟩
              case rest =>
                obtain ⟨s, da', ra', db', rb', hxa', hxb', rfl, rfl, hN, hl1', hms, hbx', hzx', hx0', hx1'⟩ := hcut
                obtain ⟨w5, hw5⟩ : ∃ w5, w5 = wc := ⟨_, rfl⟩
                subst hw5
                clear hbx hzx hx0 hx1 hfz hfz0 hfz1 hCa hCb
                replace hl1' := hid hl1'
                replace hN := hid (hH.out.trans hN.out)
                obtain ⟨tp, htp⟩ : ∃ p : Bool, p = decide (out.getLast? ≠ some s) := ⟨_, rfl⟩
                replace htp := hid htp
                replace ho := Kd.R_below ho hbx'
                replace hbw := hbw.trans (hbx'.mono hbs)
                have hbs5 : w2.heap.size ≤ w5.heap.size := hbw.size
                obtain ⟨Ao, co, rfl, hco, hCo⟩ := In.ofR ho
                have ho0' := hid ho
                have hbw0 := hid hbw
                go_upto_region 15 with fail
                go_cut [85] (fun b wx => b = Value.bool tp ∧ ∃ m' : Nat, wx = World.drewN w5 m')
                case first =>
                  replace htp := htp.out
                  rcases List.eq_nil_or_concat out with ho0 | ⟨o', l, ho0⟩
                  · have z0 : out.length = 0 := by rw [ho0]; rfl
                    rw [ho0] at htp
                    clear ho0 hend
                    subst htp
                    go_quiet (fail)
                    go_wp2_with fail
                    go_meet
                    case rel => exact ⟨rfl, _, rfl⟩
                  · rw [List.concat_eq_append] at ho0
                    have z1 : out.length = o'.length + 1 := by rw [ho0]; simp
                    obtain ⟨ado, rfl, dl0, dl1⟩ := lbl_at (done := o') (rest := []) (x := l) hCo ho0
                    have z2 : (((o'.length : Int) + 1) == 0) = false := beq_eq_false_iff_ne.2 (by omega)
                    rw [ho0, List.getLast?_concat] at htp
                    have t1 := eqLblRun l s
                    have t2 : decide (l = s) = !tp := by rw [htp]; simp
                    rw [t2] at t1
                    have p4 : (0 : Int) ≤ o'.length := by omega
                    have p5 : (o'.length : Int) ≤ 9223372036854775806 := by omega
                    have p6 : (o'.length : Int) < (o'.length : Int) + 1 := by omega
                    clear ho0 hend htp t2
                    go_quiet (fail)
                    go_wp2_with fail
                    go_meet
                    case rel => exact ⟨rfl, _, rfl⟩
                case rest =>
                  obtain ⟨rfl, m', rfl⟩ := hcut
                  replace ho := Kd.R_drewN ho0'.out m'
                  replace hbw := pw_below_drewN hbw0.out m'
                  cases tp
                  · have hst := hid (show Plain.step out s = out by have h := htp.out; unfold Plain.step; rw [if_pos (by simpa using h)])
                    go_wp2_with fail
                    go_roundg (ra'.length + rb'.length)
                    case measure => exact hms
                    case rel => exact ⟨out, da', ra', db', rb', rfl, hxa', hxb', rfl, rfl, ho, by have := hl1'.out; omega, hid (by rw [hN.out, hst.out]), hbw⟩
                  · have hst := hid (show Plain.step out s = out ++ [s] by have h := htp.out; unfold Plain.step; rw [if_neg (by simpa using h)])
                    go_wp2_with (at_builtin; refine R_push kLbl (w0 := w2) 38 62 rfl rfl Try.underlying38 infoLbl rfl (by decide) (by decide) s rfl rfl (kLbl_M _) ho hbw (by simpa using hbs5) (by omega) ?_; intro v3 w6 ho3 hb3 hg3; clear ho)
                    go_roundg (ra'.length + rb'.length)
                    case measure => exact hms
                    case rel => exact ⟨out ++ [s], da', ra', db', rb', rfl, hxa', hxb', rfl, rfl, ho3, by have := hl1'.out; simp; omega, hid (by rw [hN.out, hst.out]), hb3⟩
end Go.Proofs.Ytmjkjlifhlemlaa.H
