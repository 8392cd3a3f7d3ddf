/- Plain: the orders of names and of labels; what is left of a sorted list when each run is cut to one. -/
import Derived.Test.YtmjkjlifhlemlaaB2
import Derived.Test.YtmjkjlifhlemlaaB3
import Derived.Test.YtmjkjlifhlemlaaC2
import Derived.Lib.SlicesCompact
import Derived.Lib.OwnBridge
set_option linter.unusedVariables false
set_option linter.unusedSimpArgs false
namespace Go.Proofs.Ytmjkjlifhlemlaa.Plain
section
variable {α : Type} [DecidableEq α] {le : α → α → Bool}
theorem step_last (out : List α) (x : α) : (step out x).getLast? = some x := by
  unfold step
  split
  · next h => exact h
  · simp
def dd (xs : List α) : List α := xs.foldl step []
theorem fold_last : ∀ (xs out : List α), (xs.foldl step out).getLast? = (out ++ xs).getLast?
  | [], out => by simp
  | x :: xs, out => by
      rw [List.foldl_cons, fold_last xs]
      cases xs with
      | nil => simp [step_last]
      | cons y r => simp [List.getLast?_append, List.getLast?_cons]
theorem dd_snoc (xs : List α) (x : α) : dd (xs ++ [x]) = step (dd xs) x := by unfold dd; rw [List.foldl_append]; rfl
theorem dd_last (xs : List α) : (dd xs).getLast? = xs.getLast? := by unfold dd; rw [fold_last]; simp
theorem dd_len (xs : List α) : (dd xs).length ≤ xs.length := by
  have : ∀ (xs out : List α), (xs.foldl step out).length ≤ out.length + xs.length := by
    intro xs
    induction xs with
    | nil => intro out; simp
    | cons x xs ih => intro out; have h1 := ih (step out x); have h2 := step_len out x; rw [List.foldl_cons]; simp; omega
  have h := this xs []
  unfold dd
  simpa using h
theorem fold_law (anti : ∀ a b, le a b = true → le b a = true → a = b) : ∀ (xs out : List α), out.Pairwise (LtOf le) → xs.Pairwise (fun a b => le a b = true) → (∀ o ∈ out, ∀ z ∈ xs, le o z = true) → (∀ x, le x x = true) →
    (xs.foldl step out).Pairwise (LtOf le) ∧ ∀ z, z ∈ xs.foldl step out ↔ z ∈ out ∨ z ∈ xs
  | [], out, ho, _, _, _ => ⟨ho, fun z => by simp⟩
  | x :: xs, out, ho, hx, hox, hs => by
      obtain ⟨h1, h2⟩ := List.pairwise_cons.1 hx
      have h := fold_law anti xs (step out x) (step_sorted anti ho (fun o h => hox o h x (by simp))) h2 (fun o ho z hz => by
        rcases (mem_step out x o).1 ho with h | rfl
        · exact hox o h z (List.mem_cons_of_mem _ hz)
        · exact h1 z hz) hs
      refine ⟨h.1, fun z => ?_⟩
      rw [List.foldl_cons, h.2, mem_step]
      simp [or_assoc]
/-- sorted and each run cut to one: the reference's sort -/
theorem dd_srt (tot : ∀ a b, le a b = true ∨ le b a = true) (tr : ∀ a b c, le a b = true → le b c = true → le a c = true) (anti : ∀ a b, le a b = true → le b a = true → a = b) (xs : List α) (n : Nat) (hn : xs.length ≤ n) :
    dd (xs.mergeSort le) = srt le n xs := by
  have hp : (xs.mergeSort le).Pairwise (fun a b => le a b = true) := List.pairwise_mergeSort (le := le) (fun a b c => tr a b c) (fun a b => by simp only [Bool.or_eq_true]; exact tot a b) xs
  have h := fold_law anti (xs.mergeSort le) [] List.Pairwise.nil hp (fun o ho => by cases ho) (fun x => (tot x x).elim id id)
  exact (srt_eq tot tr anti xs _ n hn h.1 (fun z => by rw [h.2]; simp)).symm
end
theorem dd_map {α β : Type} [DecidableEq α] [DecidableEq β] (f : α → β) (hf : ∀ a b, f a = f b → a = b) (xs : List α) : dd (xs.map f) = (dd xs).map f := by
  have hs : ∀ (out : List α) (x : α), step (out.map f) (f x) = (step out x).map f := by
    intro out x
    unfold step
    rw [List.getLast?_map]
    cases h : out.getLast? with
    | none => simp
    | some y =>
      simp only [Option.map_some, Option.some.injEq]
      by_cases e : y = x
      · subst e; simp
      · rw [if_neg (fun h => e (hf _ _ h)), if_neg e]; simp
  have : ∀ (xs out : List α), (xs.map f).foldl step (out.map f) = (xs.foldl step out).map f := by
    intro xs
    induction xs with
    | nil => intro out; rfl
    | cons x xs ih => intro out; rw [List.map_cons, List.foldl_cons, hs, ih]; rfl
  exact this xs []
end Go.Proofs.Ytmjkjlifhlemlaa.Plain
namespace Go.Proofs.Ytmjkjlifhlemlaa.H
open Go.RowKit Go.Proofs.YtmjkjlifhlemlaaW.PrintWords Go.Proofs.YtmjkjlifhlemlaaW.PrintLast Go.Proofs.Ytmjkjlifhlemlaa.Base Go.Sort
theorem bl_eq : ∀ (x y : List UInt8), Op.bytesLess x y = decide (x < y)
  | [], [] => by simp [Op.bytesLess]
  | _ :: _, [] => by simp [Op.bytesLess]
  | [], _ :: _ => by simp [Op.bytesLess]
  | a :: x, b :: y => by
    rw [Op.bytesLess, bl_eq x y]
    simp only [List.cons_lt_cons_iff]
    by_cases h1 : a < b <;> by_cases h2 : a = b <;> by_cases h3 : x < y <;> simp [h1, h2, h3]
theorem str_ext {s t : ByteArray} (h : s.toList = t.toList) : s = t := by have := str_beq s t; rw [h] at this; simpa using this.symm
theorem leB_iff (a b : ByteArray) : leB a b = true ↔ a.toList ≤ b.toList := by
  unfold leB
  rw [bl_eq]
  simp only [Bool.or_eq_true, decide_eq_true_eq, beq_iff_eq]
  constructor
  · rintro (h | h)
    · exact List.le_of_lt h
    · rw [h]; exact List.le_refl _
  · intro h
    by_cases e : a.toList = b.toList
    · exact .inr e
    · left
      apply Classical.byContradiction
      intro h2
      exact e (List.le_antisymm h (List.not_lt.1 h2))
theorem leB_tot (a b : ByteArray) : leB a b = true ∨ leB b a = true := by rw [leB_iff, leB_iff]; exact List.le_total _ _
theorem leB_tr (a b c : ByteArray) (h : leB a b = true) (k : leB b c = true) : leB a c = true := by rw [leB_iff] at *; exact List.le_trans h k
theorem leB_anti (a b : ByteArray) (h : leB a b = true) (k : leB b a = true) : a = b := by rw [leB_iff] at *; exact str_ext (List.le_antisymm h k)
theorem compact_dd (zs : List (List UInt8)) : Lib.compact zs = Plain.dd zs := by
  have key : ∀ m, m ≤ zs.length → Lib.compactUpTo zs.toArray m = Plain.dd (zs.take m) := by
    intro m
    induction m with
    | zero => intro _; rfl
    | succ m ih =>
      intro hm
      have hm' : m < zs.length := hm
      rw [Lib.compactUpTo_succ, ih (by omega), List.take_succ_eq_append_getElem hm', Plain.dd_snoc]
      unfold Plain.step
      rw [Plain.dd_last]
      have e1 : zs.toArray[m]! = zs[m] := by simp [hm']
      rw [e1]
      cases m with
      | zero => simp [Lib.keeps]
      | succ k =>
        have hk : k < zs.length := by omega
        have e2 : (zs.take (k + 1)).getLast? = some zs[k] := by rw [List.take_succ_eq_append_getElem hk, List.getLast?_concat]
        rw [e2]
        by_cases h : zs[k] = zs[k + 1]
        · simp [Lib.keeps, hm', hk, h]
        · simp [Lib.keeps, hm', hk, h, Ne.symm h]
  have := key zs.length (Nat.le_refl _)
  rw [List.take_length] at this
  exact this
theorem bytesOf_inj {x y : List UInt8} (h : bytesOf x = bytesOf y) : x = y := by
  have := congrArg (fun b : ByteArray => b.data.toList) h
  simpa [bytesOf] using this
theorem namesOf_srt (xs : List ByteArray) (n : Nat) (hn : xs.length ≤ n) : namesOf xs = Plain.srt leB n xs := by
  unfold namesOf
  have e1 : (xs.map (·.data.toList)).mergeSort (fun x y => decide (x ≤ y)) = (xs.mergeSort leB).map (·.data.toList) := by
    symm
    apply List.map_mergeSort
    intro a _ b _
    rw [Bool.eq_iff_iff, leB_iff]
    simp [ByteArray.toList_eq]
  rw [e1, compact_dd, Plain.dd_map _ (fun a b h => by cases a; cases b; simpa using h), List.map_map]
  have e2 : (bytesOf ∘ fun x : ByteArray => x.data.toList) = id := by funext b; cases b; simp [bytesOf]
  rw [e2, List.map_id, Plain.dd_srt leB_tot leB_tr leB_anti xs n hn]
/-! ### labels -/
theorem str_cases (s t : List UInt8) : (s < t ∧ ¬ t < s ∧ s ≠ t) ∨ (s = t ∧ ¬ s < t ∧ ¬ t < s) ∨ (t < s ∧ ¬ s < t ∧ s ≠ t) := by
  by_cases e : s = t
  · subst e; exact .inr (.inl ⟨rfl, List.lt_irrefl _, List.lt_irrefl _⟩)
  · by_cases h : s < t
    · exact .inl ⟨h, fun h2 => List.lt_irrefl _ (List.lt_trans h h2), e⟩
    · by_cases h2 : t < s
      · exact .inr (.inr ⟨h2, h, e⟩)
      · exact absurd (List.le_antisymm (List.not_lt.1 h2) (List.not_lt.1 h)) e
theorem ltL_iff (x y : Lbl) : ltL x y = true ↔ x.kind < y.kind ∨ (x.kind = y.kind ∧ x.name.toList < y.name.toList) := by
  unfold ltL; rw [bl_eq]; simp
theorem ltL_irr (x : Lbl) : ltL x x = false := by
  rw [Bool.eq_false_iff]; intro h; rw [ltL_iff] at h
  rcases h with h | ⟨_, h⟩
  · omega
  · exact List.lt_irrefl _ h
theorem ltL_tr (x y z : Lbl) (h : ltL x y = true) (k : ltL y z = true) : ltL x z = true := by
  rw [ltL_iff] at *
  rcases h with h | ⟨h1, h2⟩ <;> rcases k with k | ⟨k1, k2⟩
  · exact .inl (by omega)
  · exact .inl (by omega)
  · exact .inl (by omega)
  · exact .inr ⟨by omega, List.lt_trans h2 k2⟩
theorem ltL_tri (x y : Lbl) (h : ltL x y = false) (k : ltL y x = false) : x = y := by
  rw [Bool.eq_false_iff] at h k
  rw [ne_eq, ltL_iff] at h k
  have e1 : x.kind = y.kind := by
    apply Classical.byContradiction; intro e
    rcases Int.lt_or_gt_of_ne e with e | e
    · exact h (.inl e)
    · exact k (.inl e)
  have e2 : x.name = y.name := by
    apply str_ext
    rcases str_cases x.name.toList y.name.toList with ⟨a, _⟩ | ⟨a, _⟩ | ⟨a, _⟩
    · exact absurd (.inr ⟨e1, a⟩) h
    · exact a
    · exact absurd (.inr ⟨e1.symm, a⟩) k
  cases x; cases y; simp_all
theorem leL_tot (x y : Lbl) : leL x y = true ∨ leL y x = true := by
  unfold leL
  by_cases h : ltL y x = true
  · right
    by_cases k : ltL x y = true
    · have := ltL_tr _ _ _ h k; rw [ltL_irr] at this; cases this
    · simp [Bool.eq_false_iff.2 k]
  · left; simp [Bool.eq_false_iff.2 h]
theorem leL_anti (x y : Lbl) (h : leL x y = true) (k : leL y x = true) : x = y := by
  unfold leL at h k
  exact ltL_tri x y (by simpa using k) (by simpa using h)
theorem ltL_ntr (x y z : Lbl) (h : ltL x y = false) (k : ltL y z = false) : ltL x z = false := by
  rw [Bool.eq_false_iff]
  intro hc
  by_cases h1 : ltL y x = true
  · have := ltL_tr _ _ _ h1 hc; rw [k] at this; cases this
  · have e := ltL_tri x y h (Bool.eq_false_iff.2 h1)
    subst e
    rw [k] at hc; cases hc
theorem leL_tr (x y z : Lbl) (h : leL x y = true) (k : leL y z = true) : leL x z = true := by
  unfold leL at *
  have := ltL_ntr z y x (by simpa using k) (by simpa using h)
  simp [this]
theorem ltOf_cfL (x y : Lbl) : ltOf cfL x y = ltL x y := by
  rw [Bool.eq_iff_iff]
  unfold ltOf
  rw [decide_eq_true_eq, ltL_iff]
  unfold cfL orI Lib.compareInt cmpS
  rw [bl_eq]
  rcases Int.lt_trichotomy x.kind y.kind with h | h | h
  · simp [h]
  · rw [h]
    rcases str_cases x.name.toList y.name.toList with ⟨a, b, c⟩ | ⟨a, b, c⟩ | ⟨a, b, c⟩
    · simp [a]
    · simp [a, List.lt_irrefl]
    · simp [b, c]
  · have h1 : ¬ x.kind < y.kind := by omega
    have h2 : ¬ x.kind = y.kind := by omega
    simp [h, h1, h2]
theorem swoL : SWO (ltOf cfL) where
  irrefl x := by rw [ltOf_cfL]; exact ltL_irr x
  trans x y z h1 h2 := by rw [ltOf_cfL] at *; exact ltL_tr _ _ _ h1 h2
  ntrans x y z h1 h2 := by rw [ltOf_cfL] at *; exact ltL_ntr _ _ _ h1 h2
theorem cmpLays (blk off size : Nat) (w : World) : CmpLays Try.prog 50 #[] encL 2 cfL blk off size w := fun m os dk _ x y => implCmp x y _
theorem isAggL (w : World) : (isAgg 62).run Try.prog w = .ok true w := by simp [isAgg, go_sem, run_underlying Try.underlying62]
theorem sizeL (w : World) : (Go.sizeOf 62).run Try.prog w = .ok 2 w := by simp [Go.sizeOf, go_sem]; rfl
def srtL (xs : List Lbl) : List Lbl := xs.mergeSort leL
theorem srtL_eq (xs : List Lbl) (d : Array Lbl) (h : d.toList = xs) : (d.toList.mergeSort fun x y => !(ltOf cfL) y x) = srtL xs := by
  subst h
  unfold srtL
  congr 1
  funext x y
  rw [ltOf_cfL]; rfl
/-- slices.SortFunc at a row of labels of one's own. -/
theorem sortL (v : Value) (xs : List Lbl) (base : Nat) (w w0 : World) (hx : kLbl.R 62 w base (fun _ => True) v xs) (hl : xs.length ≤ 4194304) (hb : Below base w0 w) :
    Calls Try.prog 49 #[v, .func (.func 50) #[] #[]] w fun e w' => e = .returned (.tuple #[]) ∧ kLbl.R 62 w' base (fun _ => True) v (srtL xs) ∧ Below base w0 w' := by
  by_cases hz : xs = []
  · subst hz
    obtain ⟨A, c, rfl⟩ := Kd.R_slice hx
    refine (Try.slices_SortFunc_Lbl_none A c _ _).mono ?_
    rintro e w' ⟨rfl, rfl⟩
    exact ⟨rfl, by simpa [srtL] using hx, hb⟩
  · have hp := List.length_pos_iff.2 hz
    obtain ⟨g, cap, rfl, hg0, hg1, -⟩ := Kd.R_form hx hp
    have ho := ownsL_of_R hx
    obtain ⟨cur, hcur, _, hn, hm, hs, _⟩ := blk_of_owns ho
    have eg : ∀ args w, (callFunc 50 args).run Try.prog w = .ok (.enter 50 args) w := enters_of Try.func50 (by kernel_rfl) rfl
    have h := Try.slices_SortFunc_Lbl 2 isAggL sizeL encL (fun _ => rfl) (fun x v hv => by simp [encL] at hv; rcases hv with rfl | rfl <;> rfl) cfL swoL 50 #[] g 0 cap xs.toArray w eg (cmpLays _ _ _ _) (holdsL ho) hg1 (by simp; omega) (fun x y h1 h2 => by rw [ltOf_cfL] at h1 h2; exact ltL_tri x y h1 h2)
    have e1 : (xs.toArray.toList.mergeSort fun x y => !(ltOf cfL) y x) = srtL xs := srtL_eq xs _ (by simp)
    rw [e1] at h
    refine h.mono ?_
    rintro e w' ⟨rfl, n, os, rfl⟩
    have hl2 : (srtL xs).length = xs.length := List.length_mergeSort _
    refine ⟨rfl, ?_, ?_⟩
    · refine R_of_ownsL ?_ (fun _ _ => trivial)
      rw [hl2]
      unfold sortWorldK putRowK
      rw [flatK_flatL]
      exact owns_laid (by rw [flatL_len, hl2]) hcur hg0 hn hm hs
    · unfold sortWorldK putRowK
      exact (Lib.below_putRow (q := n) hb hg0).trans (Lib.below_grow base _ (by simpa [putRow, mapBlock, Sort.ahead] using Nat.le_of_lt (Nat.lt_of_le_of_lt hg0 hg1)) 0 os)
end Go.Proofs.Ytmjkjlifhlemlaa.H
