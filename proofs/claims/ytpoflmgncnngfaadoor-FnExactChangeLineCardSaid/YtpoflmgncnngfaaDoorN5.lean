/- Labels: their words, checks and texts, the reference's and the program's. -/
import Derived.Test.YtpoflmgncnngfaaDoorN4
import Derived.Test.YtpoflmgncnngfaaDoorBy
set_option linter.unusedVariables false
set_option linter.unusedSimpArgs false
set_option maxRecDepth 100000
set_option maxHeartbeats 400000
namespace Go.Proofs.YtpoflmgncnngfaaDoor.H
open Go.RowKit Go.Proofs.YtpoflmgncnngfaaDoorW.PrintWords Go.Proofs.YtpoflmgncnngfaaDoorW.PrintLast Go.Proofs.YtpoflmgncnngfaaDoor.Base
def inR (n lo hi : Int) : Bool := decide (lo ≤ n) && decide (n ≤ hi)
theorem specIn (n lo hi : Int) (w : World) : Calls Tryd.prog 32 #[.int .i64 n, .int .i64 lo, .int .i64 hi] w fun e w' => e = .returned (.bool (inR n lo hi)) ∧ w' = w := by
  unfold inR
  go_enter Tryd.func32, Tryd.ntmps32
  go_wp2
  all_goals (go_ret; exact ⟨ret_bool (by simp_all <;> omega), rfl⟩)
theorem implIn (n lo hi : Int) (w : World) : Calls Tryd.prog 45 #[.int .i64 n, .int .i64 lo, .int .i64 hi] w fun e w' => e = .returned (.bool (inR n lo hi)) ∧ w' = w := by
  unfold inR
  go_enter Tryd.func45, Tryd.ntmps45
  go_wp2
  all_goals (go_ret; exact ⟨ret_bool (by simp_all <;> omega), rfl⟩)
theorem implKind (n : Int) (w : World) : Calls Tryd.prog 35 #[.int .i64 n] w fun e w' => e = .returned (.bool (inR n 1 5)) ∧ w' = w := by
  go_enter Tryd.func35, Tryd.ntmps35
  go_wp2_with fail
  refine (implIn _ _ _ _).mono ?_
  rintro e w1 ⟨rfl, rfl⟩
  go_wp2
  go_ret
  exact ⟨rfl, rfl⟩
def word (k : Int) : ByteArray :=
  if k = 1 then ⟨#[97, 120, 105, 111, 109]⟩ else if k = 2 then ⟨#[111, 112, 97, 113, 117, 101]⟩ else if k = 3 then ⟨#[117, 110, 115, 97, 102, 101]⟩ else if k = 4 then ⟨#[110, 111, 117, 110, 105, 118]⟩ else ⟨#[110, 111, 112, 111, 115]⟩
theorem word_size (k : Int) : (word k).size ≤ 6 := by unfold word; repeat' split
                                                      all_goals decide
theorem specWord (k : Int) (w : World) : Calls Tryd.prog 25 #[.int .i64 k] w fun e w' => e = .returned (.string (word k)) ∧ w' = w := by
  unfold word
  go_enter Tryd.func25, Tryd.ntmps25
  go_wp2
  all_goals (go_ret; exact ⟨ret_str (by simp_all), rfl⟩)
theorem implWord (k : Int) (w : World) (h1 : 1 ≤ k) (h5 : k ≤ 5) : Calls Tryd.prog 28 #[.int .i64 k] w fun e w' => e = .returned (.string (word k)) ∧ Below w.heap.size w w' := by
  obtain ⟨m, rfl⟩ : ∃ m : Nat, k = (m : Int) + 1 := ⟨(k - 1).toNat, by omega⟩
  have hm : m < 5 := by omega
  match m, hm with
  | 0, _ => go_enter Tryd.func28, Tryd.ntmps28; go_wp2; go_ret; exact ⟨rfl, bel⟩
  | 1, _ => go_enter Tryd.func28, Tryd.ntmps28; go_wp2; go_ret; exact ⟨rfl, bel⟩
  | 2, _ => go_enter Tryd.func28, Tryd.ntmps28; go_wp2; go_ret; exact ⟨rfl, bel⟩
  | 3, _ => go_enter Tryd.func28, Tryd.ntmps28; go_wp2; go_ret; exact ⟨rfl, bel⟩
  | 4, _ => go_enter Tryd.func28, Tryd.ntmps28; go_wp2; go_ret; exact ⟨rfl, bel⟩
def lblOk (l : Lbl) : Bool := inR l.kind 1 5 && nameOk l.name
theorem specLblOk (l : Lbl) (w : World) (hs : strOk l.name) : Calls Tryd.prog 24 #[.agg #[.int .i64 l.kind, .string l.name]] w fun e w' => e = .returned (.bool (lblOk l)) ∧ Below w.heap.size w w' := by
  unfold lblOk
  go_enter Tryd.func24, Tryd.ntmps24
  go_wp2_with fail
  refine (specIn _ _ _ _).mono ?_
  rintro e w1 ⟨rfl, rfl⟩
  cases hk : inR l.kind 1 5 with
  | false => go_wp2_with fail; go_ret; exact ⟨ret_bool (by simp [hk]), bel⟩
  | true =>
    go_wp2_with fail
    refine (specNameOk _ _ hs).mono ?_
    rintro e w1 ⟨rfl, hb1⟩
    go_wp2_with fail
    go_ret
    exact ⟨ret_bool (by simp [hk]), hb1.after bel⟩
theorem implLblOk (l : Lbl) (w : World) (hs : strOk l.name) (hsh : w.ShapedOpen Tryd.prog) : Calls Tryd.prog 27 #[.agg #[.int .i64 l.kind, .string l.name]] w fun e w' => e = .returned (.bool (lblOk l)) ∧ Below w.heap.size w w' := by
  unfold lblOk
  go_enter Tryd.func27, Tryd.ntmps27
  go_wp2_with fail
  refine (implKind _ _).mono ?_
  rintro e w1 ⟨rfl, rfl⟩
  cases hk : inR l.kind 1 5 with
  | false => go_wp2_with fail; go_ret; exact ⟨ret_bool (by simp [hk]), bel⟩
  | true =>
    go_wp2_with fail
    refine (implNameOk _ _ hs (hsh.below bel)).mono ?_
    rintro e w1 ⟨rfl, hb1⟩
    go_wp2_with fail
    go_ret
    exact ⟨ret_bool (by simp [hk]), hb1.after bel⟩
def lblText (l : Lbl) : ByteArray := word l.kind ++ ⟨#[58]⟩ ++ l.name
theorem nameOk_size {s : ByteArray} (h : nameOk s = true) : s.size ≤ 40 := by
  unfold nameOk at h
  simp only [Bool.and_eq_true, decide_eq_true_eq] at h
  exact h.1
theorem lblOk_kind {l : Lbl} (h : lblOk l = true) : 1 ≤ l.kind ∧ l.kind ≤ 5 := by
  unfold lblOk inR at h
  simp only [Bool.and_eq_true, decide_eq_true_eq] at h
  exact h.1
theorem lblOk_size {l : Lbl} (h : lblOk l = true) : l.name.size ≤ 40 := by
  unfold lblOk at h
  simp only [Bool.and_eq_true] at h
  exact nameOk_size h.2
theorem lblText_size {l : Lbl} (h : lblOk l = true) : (lblText l).size ≤ 47 := by
  have h1 := lblOk_size h
  have h2 := word_size l.kind
  unfold lblText
  rw [ByteArray.size_append, ByteArray.size_append]
  show _ + 1 + _ ≤ _
  omega
def lblTold (l : Lbl) : ByteArray := if lblOk l then lblText l else ⟨#[]⟩
theorem specLblText (l : Lbl) (w : World) (hs : strOk l.name) : Calls Tryd.prog 18 #[.agg #[.int .i64 l.kind, .string l.name]] w fun e w' => e = .returned (.tuple #[.string (lblTold l), .bool (lblOk l)]) ∧ Below w.heap.size w w' := by
  go_enter Tryd.func18, Tryd.ntmps18
  go_wp2_with fail
  refine (specLblOk l _ hs).mono ?_
  rintro e w1 ⟨rfl, hb1⟩
  obtain ⟨hc1, hf1⟩ := bcell hb1
  have hz1 : w.heap.size < w1.heap.size := by have := hb1.size; simp at this; omega
  have hb1 : Below w.heap.size w w1 := hb1.after bel
  cases hk : lblOk l with
  | false =>
    go_wp2_with fail
    refine bodyPost_ret (v := .tuple #[.string ⟨#[]⟩, .bool false]) (by simp [results, Tryd.results18, go_sem, *]) rfl ⟨by unfold lblTold; rw [hk]; rfl, bel⟩
  | true =>
    have h40 := lblOk_size hk
    have h6 := word_size l.kind
    have hT := hid (show lblTold l = word l.kind ++ ⟨#[58]⟩ ++ l.name by unfold lblTold; rw [hk]; rfl)
    go_wp2_with fail
    go_quiet ((go_at_call 25; exact Calls.quiet_of_same (specWord _ _)))
    go_wp2
    refine bodyPost_ret (v := .tuple #[.string (word l.kind ++ ⟨#[58]⟩ ++ l.name), .bool true]) (by simp [results, Tryd.results18, go_sem, *]) rfl ⟨by rw [hT.out, hk], bel⟩
theorem implLblText (l : Lbl) (w : World) (hs : strOk l.name) (hsh : w.ShapedOpen Tryd.prog) : Calls Tryd.prog 21 #[.agg #[.int .i64 l.kind, .string l.name]] w fun e w' => e = .returned (.tuple #[.string (lblTold l), .bool (lblOk l)]) ∧ Below w.heap.size w w' := by
  go_enter Tryd.func21, Tryd.ntmps21
  go_wp2_with fail
  refine (implLblOk l _ hs (hsh.below bel)).mono ?_
  rintro e w1 ⟨rfl, hb1⟩
  obtain ⟨hc1, hf1⟩ := bcell hb1
  have hz1 : w.heap.size < w1.heap.size := by have := hb1.size; simp at this; omega
  have hb1 : Below w.heap.size w w1 := hb1.after bel
  cases hk : lblOk l with
  | false =>
    go_wp2_with fail
    refine bodyPost_ret (v := .tuple #[.string ⟨#[]⟩, .bool false]) (by simp [results, Tryd.results21, go_sem, *]) rfl ⟨by unfold lblTold; rw [hk]; rfl, bel⟩
  | true =>
    have h40 := lblOk_size hk
    have hkd := lblOk_kind hk
    have h6 := word_size l.kind
    have hT := hid (show lblTold l = word l.kind ++ ⟨#[58]⟩ ++ l.name by unfold lblTold; rw [hk]; rfl)
    have c0 : w1.cell? ⟨w.heap.size, 0, none⟩ = some (.int .i64 l.kind) := by rw [hc1 _ _ (by simp)]; simp
    have c1 : w1.cell? ⟨w.heap.size, 1, none⟩ = some (.string l.name) := by rw [hc1 _ _ (by simp)]; simp
    clear hc1 hf1
    have f1 : ¬ (9223372036854775807 < (word l.kind).size + 1) := by omega
    have f2 : ¬ (9223372036854775807 < (word l.kind).size + 1 + l.name.size) := by omega
    go_wp2_with fail
    go_region_held3 (fun w' => Below w.heap.size w w' ∧ w'.cell? ⟨w.heap.size, 0, none⟩ = some (.int .i64 l.kind) ∧ w'.cell? ⟨w.heap.size, 1, none⟩ = some (.string l.name)) (first | exact ⟨bel, by assumption, by assumption⟩ | (refine ⟨bel, ?_, ?_⟩ <;> go_keep) | go_keep)
      (first | (go_at_call 28; refine (implWord _ _ hkd.1 hkd.2).mono ?_; rintro e w2 ⟨rfl, hb2⟩; have hb9 : Below w.heap.size w w2 := hb2.after bel; have hc8 := pw_cell_below hb2 (by assumption : _ = some (Value.int .i64 l.kind)); have hc9 := pw_cell_below hb2 (by assumption : _ = some (Value.string l.name))))
    have hb8 : Below w.heap.size w _ := And.left (by assumption)
    go_wp2
    refine bodyPost_ret (v := .tuple #[.string (word l.kind ++ ⟨#[58]⟩ ++ l.name), .bool true]) (by simp [results, Tryd.results21, go_sem, *]) rfl ⟨by rw [hT.out, hk], hb8⟩
end Go.Proofs.YtpoflmgncnngfaaDoor.H
