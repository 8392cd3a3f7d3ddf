/- Plain: two lists that rise strictly and have the same members are equal; merging with each element once. -/
namespace Go.Proofs.Ytmjkjlifhlemlaa.Plain
section
variable {α : Type} (lt : α → α → Prop)
theorem uniq (irr : ∀ a, ¬ lt a a) (asym : ∀ a b, lt a b → ¬ lt b a) : ∀ (xs ys : List α), xs.Pairwise lt → ys.Pairwise lt → (∀ a, a ∈ xs ↔ a ∈ ys) → xs = ys
  | [], [], _, _, _ => rfl
  | [], y :: ys, _, _, h => absurd ((h y).2 (List.mem_cons_self)) (by simp)
  | x :: xs, [], _, _, h => absurd ((h x).1 (List.mem_cons_self)) (by simp)
  | x :: xs, y :: ys, hx, hy, h => by
      obtain ⟨hx1, hx2⟩ := List.pairwise_cons.1 hx
      obtain ⟨hy1, hy2⟩ := List.pairwise_cons.1 hy
      have e : x = y := by
        rcases List.mem_cons.1 ((h x).1 (List.mem_cons_self)) with e | e
        · exact e
        · rcases List.mem_cons.1 ((h y).2 (List.mem_cons_self)) with e2 | e2
          · exact e2.symm
          · exact absurd (hx1 y e2) (asym _ _ (hy1 x e))
      subst e
      rw [uniq irr asym xs ys hx2 hy2 (fun a => ⟨fun ha => by
        rcases List.mem_cons.1 ((h a).1 (List.mem_cons_of_mem _ ha)) with e | e
        · subst e; exact absurd (hx1 a ha) (irr a)
        · exact e, fun ha => by
        rcases List.mem_cons.1 ((h a).2 (List.mem_cons_of_mem _ ha)) with e | e
        · subst e; exact absurd (hy1 a ha) (irr a)
        · exact e⟩)]
end
section
variable {α : Type} [DecidableEq α] (le : α → α → Bool)
def step (out : List α) (x : α) : List α := if out.getLast? = some x then out else out ++ [x]
def mrg : List α → List α → List α → List α
  | out, [], [] => out
  | out, x :: a, [] => mrg (step out x) a []
  | out, [], y :: b => mrg (step out y) [] b
  | out, x :: a, y :: b => if le x y then mrg (step out x) a (y :: b) else mrg (step out y) (x :: a) b
termination_by _ a b => a.length + b.length
variable {le}
def LtOf (le : α → α → Bool) (a b : α) : Prop := le a b = true ∧ a ≠ b
theorem mem_step (out : List α) (x z : α) : z ∈ step out x ↔ z ∈ out ∨ z = x := by
  unfold step
  split
  · next h =>
    constructor
    · exact .inl
    · rintro (h1 | rfl)
      · exact h1
      · exact List.mem_of_getLast? h
  · simp
theorem step_sorted (anti : ∀ a b, le a b = true → le b a = true → a = b) {out : List α} {x : α} (h : out.Pairwise (LtOf le)) (hx : ∀ o ∈ out, le o x = true) : (step out x).Pairwise (LtOf le) := by
  unfold step
  split
  · exact h
  · next hl =>
    rw [List.pairwise_append]
    refine ⟨h, by simp, fun o ho z hz => ?_⟩
    obtain rfl := List.mem_singleton.1 hz
    refine ⟨hx o ho, fun e => ?_⟩
    subst e
    apply hl
    obtain ⟨p, q, rfl⟩ := List.append_of_mem ho
    cases q with
    | nil => simp
    | cons r q =>
      exfalso
      obtain ⟨_, h2, _⟩ := List.pairwise_append.1 h
      have h3 := (List.pairwise_cons.1 h2).1
      have h4 := h3 r (List.mem_cons_self)
      exact h4.2 (anti _ _ h4.1 (hx r (by simp)))
theorem mrg_law (tot : ∀ a b, le a b = true ∨ le b a = true) (tr : ∀ a b c, le a b = true → le b c = true → le a c = true) (anti : ∀ a b, le a b = true → le b a = true → a = b) :
    ∀ (n : Nat) (out a b : List α), a.length + b.length = n → out.Pairwise (LtOf le) → a.Pairwise (LtOf le) → b.Pairwise (LtOf le) → (∀ o ∈ out, ∀ z, z ∈ a ∨ z ∈ b → le o z = true) →
      (mrg le out a b).Pairwise (LtOf le) ∧ ∀ z, z ∈ mrg le out a b ↔ z ∈ out ∨ z ∈ a ∨ z ∈ b := by
  intro n
  induction n with
  | zero =>
    intro out a b hn ho _ _ _
    obtain rfl : a = [] := List.eq_nil_of_length_eq_zero (by omega)
    obtain rfl : b = [] := List.eq_nil_of_length_eq_zero (by omega)
    rw [mrg]
    exact ⟨ho, fun z => by simp⟩
  | succ n ih =>
    intro out a b hn ho ha hb hle
    have key : ∀ (x : α) (a' b' : List α), a'.length + b'.length = n → a'.Pairwise (LtOf le) → b'.Pairwise (LtOf le) → (∀ z, (z ∈ a ∨ z ∈ b) ↔ (z = x ∨ z ∈ a' ∨ z ∈ b')) → (∀ z, z ∈ a' ∨ z ∈ b' → le x z = true) → mrg le out a b = mrg le (step out x) a' b' →
        (mrg le out a b).Pairwise (LtOf le) ∧ ∀ z, z ∈ mrg le out a b ↔ z ∈ out ∨ z ∈ a ∨ z ∈ b := by
      intro x a' b' hl ha' hb' hm hx he
      have h1 := ih (step out x) a' b' hl (step_sorted anti ho (fun o h => hle o h x ((hm x).2 (.inl rfl)))) ha' hb' (fun o h z hz => by
        rcases (mem_step out x o).1 h with h | rfl
        · exact hle o h z ((hm z).2 (.inr hz))
        · exact hx z hz)
      rw [he]
      refine ⟨h1.1, fun z => ?_⟩
      rw [h1.2, mem_step, hm]
      constructor
      · rintro ((h | h) | h)
        · exact .inl h
        · exact .inr (.inl h)
        · exact .inr (.inr h)
      · rintro (h | h | h)
        · exact .inl (.inl h)
        · exact .inl (.inr h)
        · exact .inr h
    have self : ∀ x, le x x = true := fun x => (tot x x).elim id id
    cases a with
    | nil =>
      cases b with
      | nil => simp at hn
      | cons y b =>
        obtain ⟨hb1, hb2⟩ := List.pairwise_cons.1 hb
        exact key y [] b (by simp at hn ⊢; omega) List.Pairwise.nil hb2 (fun z => by simp) (fun z hz => by rcases hz with h | h; cases h; exact (hb1 z h).1) (by rw [mrg])
    | cons x a =>
      obtain ⟨ha1, ha2⟩ := List.pairwise_cons.1 ha
      cases b with
      | nil => exact key x a [] (by simp at hn ⊢; omega) ha2 List.Pairwise.nil (fun z => by simp) (fun z hz => by rcases hz with h | h; exact (ha1 z h).1; cases h) (by rw [mrg])
      | cons y b =>
        obtain ⟨hb1, hb2⟩ := List.pairwise_cons.1 hb
        by_cases h : le x y = true
        · exact key x a (y :: b) (by simp at hn ⊢; omega) ha2 hb (fun z => by simp [or_assoc]) (fun z hz => by
            rcases hz with h1 | h1
            · exact (ha1 z h1).1
            · rcases List.mem_cons.1 h1 with rfl | h1
              · exact h
              · exact tr _ _ _ h (hb1 z h1).1) (by rw [mrg, if_pos h])
        · have h2 : le y x = true := (tot x y).resolve_left h
          exact key y (x :: a) b (by simp at hn ⊢; omega) ha hb2 (fun z => by
            simp only [List.mem_cons]
            exact ⟨fun h => h.elim (fun h => .inr (.inl h)) (fun h => h.elim (fun h => .inl h) (fun h => .inr (.inr h))), fun h => h.elim (fun h => .inr (.inl h)) (fun h => h.elim (fun h => .inl h) (fun h => .inr (.inr h)))⟩) (fun z hz => by
            rcases hz with h1 | h1
            · rcases List.mem_cons.1 h1 with rfl | h1
              · exact h2
              · exact tr _ _ _ h2 (ha1 z h1).1
            · exact (hb1 z h1).1) (by rw [mrg, if_neg h])
variable (le) in
/-- the reference's sort: halves, merged, each element once -/
def srt : Nat → List α → List α
  | 0, xs => xs
  | n + 1, xs => if xs.length < 2 then xs else mrg le [] (srt n (xs.take (xs.length / 2))) (srt n (xs.drop (xs.length / 2)))
theorem srt_law (tot : ∀ a b, le a b = true ∨ le b a = true) (tr : ∀ a b c, le a b = true → le b c = true → le a c = true) (anti : ∀ a b, le a b = true → le b a = true → a = b) :
    ∀ (n : Nat) (xs : List α), xs.length ≤ n → (srt le n xs).Pairwise (LtOf le) ∧ ∀ z, z ∈ srt le n xs ↔ z ∈ xs
  | 0, xs, h => by
      obtain rfl : xs = [] := List.eq_nil_of_length_eq_zero (by omega)
      exact ⟨List.Pairwise.nil, fun z => by simp [srt]⟩
  | n + 1, xs, h => by
      unfold srt
      split
      · next h2 =>
        refine ⟨?_, fun z => Iff.rfl⟩
        match xs, h2 with
        | [], _ => exact List.Pairwise.nil
        | [x], _ => simp
      · next h2 =>
        have h3 := srt_law tot tr anti n (xs.take (xs.length / 2)) (by rw [List.length_take]; omega)
        have h4 := srt_law tot tr anti n (xs.drop (xs.length / 2)) (by rw [List.length_drop]; omega)
        have h5 := mrg_law tot tr anti _ [] _ _ rfl List.Pairwise.nil h3.1 h4.1 (fun o ho => by cases ho)
        refine ⟨h5.1, fun z => ?_⟩
        rw [h5.2, h3.2, h4.2]
        constructor
        · rintro (h | h | h)
          · cases h
          · exact List.mem_of_mem_take h
          · exact List.mem_of_mem_drop h
        · intro h
          rw [← List.take_append_drop (xs.length / 2) xs] at h
          exact .inr (List.mem_append.1 h)
/-- whatever rises strictly and has the members of xs is the reference's sort of xs -/
theorem srt_eq (tot : ∀ a b, le a b = true ∨ le b a = true) (tr : ∀ a b c, le a b = true → le b c = true → le a c = true) (anti : ∀ a b, le a b = true → le b a = true → a = b) (xs ys : List α) (n : Nat) (hn : xs.length ≤ n)
    (h1 : ys.Pairwise (LtOf le)) (h2 : ∀ z, z ∈ ys ↔ z ∈ xs) : srt le n xs = ys := by
  have h := srt_law tot tr anti n xs hn
  refine uniq (LtOf le) (fun a ha => ha.2 rfl) (fun a b hab hba => hab.2 (anti _ _ hab.1 hba.1)) _ _ h.1 h1 (fun a => ?_)
  rw [h.2, h2]
theorem step_len (out : List α) (x : α) : (step out x).length ≤ out.length + 1 := by
  unfold step
  split
  · omega
  · simp
variable (le) in
theorem mrg_len : ∀ (n : Nat) (out a b : List α), a.length + b.length = n → (mrg le out a b).length ≤ out.length + a.length + b.length := by
  intro n
  induction n with
  | zero =>
    intro out a b hn
    obtain rfl : a = [] := List.eq_nil_of_length_eq_zero (by omega)
    obtain rfl : b = [] := List.eq_nil_of_length_eq_zero (by omega)
    rw [mrg]; simp
  | succ n ih =>
    intro out a b hn
    cases a with
    | nil =>
      cases b with
      | nil => simp at hn
      | cons y b => have := ih (step out y) [] b (by simp at hn ⊢; omega); have := step_len out y; rw [mrg]; simp at *; omega
    | cons x a =>
      cases b with
      | nil => have := ih (step out x) a [] (by simp at hn ⊢; omega); have := step_len out x; rw [mrg]; simp at *; omega
      | cons y b =>
        rw [mrg]
        split
        · have := ih (step out x) a (y :: b) (by simp at hn ⊢; omega); have := step_len out x; simp at *; omega
        · have := ih (step out y) (x :: a) b (by simp at hn ⊢; omega); have := step_len out y; simp at *; omega
variable (le) in
theorem srt_len : ∀ (n : Nat) (xs : List α), (srt le n xs).length ≤ xs.length
  | 0, xs => Nat.le_refl _
  | n + 1, xs => by
      unfold srt
      split
      · exact Nat.le_refl _
      · have h1 := srt_len n (xs.take (xs.length / 2))
        have h2 := srt_len n (xs.drop (xs.length / 2))
        have h3 := mrg_len le _ [] (srt le n (xs.take (xs.length / 2))) (srt le n (xs.drop (xs.length / 2))) rfl
        rw [List.length_take] at h1
        rw [List.length_drop] at h2
        simp at h3
        omega
end
end Go.Proofs.Ytmjkjlifhlemlaa.Plain
