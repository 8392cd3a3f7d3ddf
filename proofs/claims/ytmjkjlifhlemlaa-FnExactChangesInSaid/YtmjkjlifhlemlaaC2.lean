/- The program's order of labels, as slices.SortFunc asks it; a row of labels sorted. -/
import Derived.Test.YtmjkjlifhlemlaaC1
import Derived.Test.YtmjkjlifhlemlaaShelf
import Derived.Sort.OwnSorted
import Derived.Lib.AppendIntMem
set_option linter.unusedVariables false
set_option linter.unusedSimpArgs false
set_option maxRecDepth 100000
set_option maxHeartbeats 2000000
namespace Go.Proofs.Ytmjkjlifhlemlaa.H
open Go.RowKit Go.Proofs.YtmjkjlifhlemlaaW.PrintWords Go.Proofs.YtmjkjlifhlemlaaW.PrintLast Go.Proofs.Ytmjkjlifhlemlaa.Base Go.Sort
instance : Inhabited Lbl := ⟨⟨0, ⟨#[]⟩⟩⟩
/-! ### 1. A row of labels, its cells flat -/
def encL (x : Lbl) : List Value := [.int .i64 x.kind, .string x.name]
def flatL : List Lbl → List Value
  | [] => []
  | x :: r => .int .i64 x.kind :: .string x.name :: flatL r
theorem flatL_len : ∀ xs, (flatL xs).length = xs.length * 2
  | [] => rfl
  | x :: r => by simp only [flatL, List.length_cons, flatL_len r]; omega
theorem flatL_at : ∀ (xs : List Lbl) (j : Nat) (p : Lbl), xs[j]? = some p → ((flatL xs).drop (j * 2)).take 2 = encL p
  | x :: r, 0, p, h => by obtain rfl : x = p := by simpa using h
                          rfl
  | x :: r, j + 1, p, h => by
      rw [show (j + 1) * 2 = j * 2 + 1 + 1 by omega]
      exact flatL_at r j p (by simpa using h)
theorem flatL_get : ∀ (xs : List Lbl) (t : Nat), t < xs.length * 2 → (flatL xs)[t]? = some ((encL (xs.toArray[t / 2]!))[t % 2]!)
  | [], t, h => by simp at h
  | x :: r, 0, _ => by simp [flatL, encL]
  | x :: r, 1, _ => by simp [flatL, encL]
  | x :: r, t + 2, h => by
      have h1 : t < r.length * 2 := by simp at h; omega
      have := flatL_get r t h1
      rw [show (t + 2) / 2 = t / 2 + 1 by omega, show (t + 2) % 2 = t % 2 by omega]
      show (flatL r)[t]? = _
      rw [this]
      congr 2
      have h2 : t / 2 < r.length := by omega
      simp [h2]
theorem flatK_flatL (xs : List Lbl) : flatK encL 2 xs.toArray = (flatL xs).toArray := by
  apply ext_get!
  · simp [flatL_len]
  · intro t ht
    have ht' : t < xs.length * 2 := by simpa using ht
    rw [get_flatK _ _ _ _ (by simpa using ht')]
    have := flatL_get xs t ht'
    have h3 : t < (flatL xs).length := by rw [flatL_len]; exact ht'
    rw [List.getElem?_eq_getElem h3] at this
    injection this with this
    simp [h3, this]
theorem inner_flat {w : World} {base : Nat} {ok : Nat → Prop} : ∀ (xs : List Lbl) (inner : List Value), Reps (kLbl.M w base ok) 2 xs inner → inner = flatL xs
  | [], inner, h => List.eq_nil_of_length_eq_zero (by have := h.1; simpa using this)
  | x :: r, inner, h => by
      have hl : inner.length = r.length * 2 + 1 + 1 := by have := h.1; simp at this; omega
      match inner, hl with
      | a :: b :: c, hl =>
        have h0 := h.2 0 x rfl
        have e0 : [a, b] = encL x := by obtain ⟨_, _, e, rfl, rfl⟩ := h0; exact e
        have hr : Reps (kLbl.M w base ok) 2 r c := ⟨by simpa using hl, fun j p hj => by
          have := h.2 (j + 1) p (by simpa using hj)
          rw [show (j + 1) * 2 = j * 2 + 1 + 1 by omega] at this
          exact this⟩
        rw [inner_flat r c hr]
        simp [encL] at e0
        rw [e0.1, e0.2]; rfl
theorem ownsL_of_R {e : Nat} {w : World} {base : Nat} {ok : Nat → Prop} {v : Value} {xs : List Lbl} (h : kLbl.R e w base ok v xs) : w.ownsRow base e 2 v xs.length (flatL xs) := by
  obtain ⟨_, inner, ho, hr⟩ := h
  rw [← inner_flat xs inner hr]
  exact ho
theorem R_of_ownsL {e : Nat} {w : World} {base : Nat} {ok : Nat → Prop} {v : Value} {xs : List Lbl} (h : w.ownsRow base e 2 v xs.length (flatL xs)) (hok : ∀ k, v.ownBlock = some k → ok k) : kLbl.R e w base ok v xs :=
  ⟨hok, flatL xs, h, flatL_len xs, fun j p hj => by
    show kLbl.M _ _ _ p (((flatL xs).drop (j * 2)).take 2)
    rw [flatL_at xs j p hj]; exact kLbl_M p⟩
/-- The block of a row that is not empty. -/
theorem blk_of_owns {e : Nat} {w : World} {base g n cap : Nat} {F : List Value} (h : w.ownsRow base e 2 (.slice (some ⟨g, 0, none⟩) n cap) n F) :
    ∃ cur, w.heap[g]? = some (.cells cur e (0, 0)) ∧ base ≤ g ∧ n ≤ cap ∧ cap ≤ maxLen ∧ cur.size = cap * 2 ∧ cur.toList.take (n * 2) = F := by
  rcases h.2 with ⟨e0, _⟩ | ⟨g', cap', cur, e0, hb, hg, hn, hm, hs, ht⟩
  · cases e0
  · injection e0 with e1 _ e3
    injection e1 with e1
    injection e1 with e1
    subst e1; subst e3
    exact ⟨cur, hg, hb, hn, hm, hs, ht⟩
theorem holdsL {e : Nat} {w : World} {base g cap : Nat} {xs : List Lbl} (h : w.ownsRow base e 2 (.slice (some ⟨g, 0, none⟩) xs.length cap) xs.length (flatL xs)) : HoldsK encL 2 w g 0 xs.toArray := by
  obtain ⟨cur, hg, _, hn, _, hs, ht⟩ := blk_of_owns h
  show Holds id w g 0 (flatK encL 2 xs.toArray)
  rw [flatK_flatL]
  intro j hj
  have hj' : j < (flatL xs).length := by simpa using hj
  have hj2 : j < xs.length * 2 := by rw [← flatL_len]; exact hj'
  refine ⟨?_, by simp [World.frozen?, hg]⟩
  have h1 : (cur.toList.take (xs.length * 2))[j]? = (flatL xs)[j]? := by rw [ht]
  rw [List.getElem?_take_of_lt hj2] at h1
  simp only [World.cell?, hg, Nat.zero_add]
  simp only [Option.isSome_none, Bool.false_eq_true, if_false]
  rw [← Array.getElem?_toList, h1]
  simp [hj']
theorem owns_laid {e : Nat} {w : World} {base g n cap q : Nat} {os : Array Obj} {cur : Array Value} {F : List Value} (hF : F.length = n * 2) (hg : w.heap[g]? = some (.cells cur e (0, 0))) (hb : base ≤ g) (hn : n ≤ cap) (hm : cap ≤ maxLen) (hs : cur.size = cap * 2) :
    (grow (putRow id (Sort.ahead w q) g 0 F.toArray) os).ownsRow base e 2 (.slice (some ⟨g, 0, none⟩) n cap) n F := by
  have hgl : g < w.heap.size := (Array.getElem?_eq_some_iff.1 hg).1
  have hh : (grow (putRow id (Sort.ahead w q) g 0 F.toArray) os).heap[g]? = some (.cells (putCells id 0 F.toArray cur) e (0, 0)) := by
    rw [heap_grow_old _ _ (by simpa using hgl)]
    simp [putRow, mapBlock, Sort.ahead, Array.getElem?_modify, hg, onCells]
  refine ⟨hF, .inr ⟨g, cap, _, rfl, hb, hh, hn, hm, by simp [putCells, hs], ?_⟩⟩
  apply List.ext_getElem?
  intro j
  by_cases hj : j < n * 2
  · rw [List.getElem?_take_of_lt hj, Array.getElem?_toList]
    have h1 : j < F.length := by omega
    have h2 : j < cur.size := by omega
    simp [putCells, h1, h2]
  · rw [List.getElem?_take_eq_none (by omega), List.getElem?_eq_none (by omega)]
/-! ### 2. The order -/
def Gr (W w : World) : Prop := ∃ q os, w = grow (W.drewN q) os
theorem Gr.refl (W : World) : Gr W W := ⟨0, #[], by rw [grow_empty]; rfl⟩
theorem Gr.alloc {W w : World} (h : Gr W w) (o : Obj) : Gr W (w.alloc o) := by
  obtain ⟨q, os, rfl⟩ := h
  exact ⟨q, os ++ #[o], by rw [alloc_eq_grow, grow_grow]⟩
theorem Gr.drewN {W w : World} (h : Gr W w) (n : Nat) : Gr W (w.drewN n) := by
  obtain ⟨q, os, rfl⟩ := h
  exact ⟨q + n, os, by simp [grow, World.drewN, Nat.add_assoc]⟩
theorem Gr.drew {W w : World} (h : Gr W w) : Gr W w.drew := h.drewN 1
theorem gr {W w : World} (h : Gr W w := by repeat (with_reducible first | exact Gr.refl _ | assumption | apply Gr.alloc | apply Gr.drew | apply Gr.drewN)) : Gr W w := h
def cmpS (s t : ByteArray) : Int := if Op.bytesLess s.toList t.toList then -1 else if Op.bytesLess s.toList t.toList || s.toList == t.toList then 0 else 1
theorem cmpString (s t : ByteArray) (w : World) : Calls Try.prog 69 #[.string s, .string t] w fun e w' => e = .returned (.int .i64 (cmpS s t)) ∧ w' = w := by
  have hn : ∀ (s : ByteArray) (w : World), Calls Try.prog 75 #[.string s] w fun e w' => e = .returned (.bool false) ∧ w' = w := fun s w => by
    go_enter Try.func75, Try.ntmps75
    go_wp2_with fail
    go_ret
    exact ⟨rfl, rfl⟩
  go_enter Try.func69, Try.ntmps69
  go_wp2_with (go_at_call 75; refine (hn _ _).mono ?_; rintro e w' ⟨rfl, rfl⟩)
  all_goals
    go_ret
    exact ⟨ret_int (by unfold cmpS; simp_all), rfl⟩
def orI (i j : Int) : Int := if i = 0 then j else i
theorem cmpOr (b : Nat) (i j : Int) (w : World) (h0 : w.cell? ⟨b, 0, none⟩ = some (.int .i64 i)) (h1 : w.cell? ⟨b, 1, none⟩ = some (.int .i64 j)) : Calls Try.prog 67 #[.slice (some ⟨b, 0, none⟩) 2 2] w fun e w' => e = .returned (.int .i64 (orI i j)) ∧ w' = w := by
  go_enter Try.func67, Try.ntmps67
  go_wp2_with fail
  refine wp_loop_rounds 3 ?_
  rw [rounds_succ]
  by_cases hi : i = 0
  · subst hi
    have H := hid (show orI 0 j = j from rfl)
    go_wp2_with fail
    rw [rounds_succ]
    by_cases hj : j = 0
    · subst hj
      go_wp2_with fail
      rw [rounds_succ]
      go_wp2_with fail
      go_ret
      exact ⟨ret_int H.out.symm, rfl⟩
    · have hj' : (j == 0) = false := beq_eq_false_iff_ne.2 hj
      go_wp2_with fail
      go_ret
      exact ⟨ret_int H.out.symm, rfl⟩
  · have H := hid (show orI i j = i from if_neg hi)
    have hi' : (i == 0) = false := beq_eq_false_iff_ne.2 hi
    go_wp2_with fail
    go_ret
    exact ⟨ret_int H.out.symm, rfl⟩
def cfL (x y : Lbl) : Int := orI (Lib.compareInt x.kind y.kind) (cmpS x.name y.name)
theorem implCmp (x y : Lbl) (W : World) : Calls Try.prog 50 #[.agg #[.int .i64 x.kind, .string x.name], .agg #[.int .i64 y.kind, .string y.name]] W fun e w' => e = .returned (.int .i64 (cfL x y)) ∧ Gr W w' := by
  obtain ⟨ci, hci⟩ : ∃ c, c = Lib.compareInt x.kind y.kind := ⟨_, rfl⟩
  obtain ⟨cs, hcs⟩ : ∃ c, c = cmpS x.name y.name := ⟨_, rfl⟩
  have H := hid (show cfL x y = orI ci cs by rw [hci, hcs]; rfl)
  have cI : ∀ w, Calls Try.prog 68 #[.int .i64 x.kind, .int .i64 y.kind] w fun e w' => e = .returned (.int .i64 ci) ∧ w' = w := fun w => by rw [hci]; exact Try.cmp_Compare_int _ _ w
  have cS : ∀ w, Calls Try.prog 69 #[.string x.name, .string y.name] w fun e w' => e = .returned (.int .i64 cs) ∧ w' = w := fun w => by rw [hcs]; exact cmpString _ _ w
  rw [H.out]
  clear H hci hcs
  go_enter Try.func50, Try.ntmps50
  go_wp2_with fail
  have hg0 : Gr W ((W.alloc (Obj.cells #[Value.int IntKind.i64 x.kind, Value.string x.name] 62)).alloc (Obj.cells #[Value.int IntKind.i64 y.kind, Value.string y.name] 62)) := gr
  have b0 : ((W.alloc (Obj.cells #[Value.int IntKind.i64 x.kind, Value.string x.name] 62)).alloc (Obj.cells #[Value.int IntKind.i64 y.kind, Value.string y.name] 62)).cell? ⟨W.heap.size, 0, none⟩ = some (.int .i64 x.kind) := by simp
  have b1 : ((W.alloc (Obj.cells #[Value.int IntKind.i64 x.kind, Value.string x.name] 62)).alloc (Obj.cells #[Value.int IntKind.i64 y.kind, Value.string y.name] 62)).cell? ⟨W.heap.size, 1, none⟩ = some (.string x.name) := by simp
  have b2 : ((W.alloc (Obj.cells #[Value.int IntKind.i64 x.kind, Value.string x.name] 62)).alloc (Obj.cells #[Value.int IntKind.i64 y.kind, Value.string y.name] 62)).cell? ⟨W.heap.size + 1, 0, none⟩ = some (.int .i64 y.kind) := by simp
  have b3 : ((W.alloc (Obj.cells #[Value.int IntKind.i64 x.kind, Value.string x.name] 62)).alloc (Obj.cells #[Value.int IntKind.i64 y.kind, Value.string y.name] 62)).cell? ⟨W.heap.size + 1, 1, none⟩ = some (.string y.name) := by simp
  generalize (W.alloc (Obj.cells #[Value.int IntKind.i64 x.kind, Value.string x.name] 62)).alloc (Obj.cells #[Value.int IntKind.i64 y.kind, Value.string y.name] 62) = wa at *
  go_region_held3 (fun w' => Gr W w' ∧ w'.cell? ⟨W.heap.size, 0, none⟩ = some (.int .i64 x.kind) ∧ w'.cell? ⟨W.heap.size, 1, none⟩ = some (.string x.name) ∧ w'.cell? ⟨W.heap.size + 1, 0, none⟩ = some (.int .i64 y.kind) ∧ w'.cell? ⟨W.heap.size + 1, 1, none⟩ = some (.string y.name)) (first | exact ⟨gr, by assumption, by assumption, by assumption, by assumption⟩ | (refine ⟨gr, ?_⟩; go_keep) | go_keep)
    (first | (go_at_call 68; refine (cI _).mono ?_; rintro e w1 ⟨rfl, rfl⟩) | (go_at_call 69; refine (cS _).mono ?_; rintro e w1 ⟨rfl, rfl⟩) | (go_at_call 67; refine (cmpOr _ ci cs _ (by simp) (by simp)).mono ?_; rintro e w1 ⟨rfl, rfl⟩))
  all_goals
    go_wp2_with fail
    go_ret
    exact ⟨rfl, gr⟩
end Go.Proofs.Ytmjkjlifhlemlaa.H
