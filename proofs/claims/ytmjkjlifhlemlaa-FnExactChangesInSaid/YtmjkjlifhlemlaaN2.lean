/- A text cut at a byte: the reference's text, and the library's Split. -/
import Derived.Test.YtmjkjlifhlemlaaN1
import Derived.Lib.Split
import Derived.Lib.SplitLaws
set_option linter.unusedVariables false
set_option linter.unusedSimpArgs false
set_option maxRecDepth 100000
set_option maxHeartbeats 400000
namespace Go.Proofs.Ytmjkjlifhlemlaa.H
open Go.RowKit Go.Proofs.YtmjkjlifhlemlaaW.PrintWords Go.Proofs.YtmjkjlifhlemlaaW.PrintLast Go.Proofs.Ytmjkjlifhlemlaa.Base
def cutL (c : UInt8) : List UInt8 → List (List UInt8)
  | [] => [[]]
  | b :: r => if b = c then [] :: cutL c r else match cutL c r with
    | [] => [[b]]
    | p :: q => (b :: p) :: q
def bytesOf (l : List UInt8) : ByteArray := ⟨l.toArray⟩
def cut (c : UInt8) (s : ByteArray) : List ByteArray := (cutL c s.data.toList).map bytesOf
theorem cutL_ne (c : UInt8) : ∀ l, cutL c l ≠ []
  | [] => by simp [cutL]
  | b :: r => by
      unfold cutL
      split
      · simp
      · split <;> simp
theorem cutL_end {c : UInt8} : ∀ {l : List UInt8}, (∀ b ∈ l, b ≠ c) → cutL c l = [l]
  | [], _ => rfl
  | b :: r, h => by
      have h1 := cutL_end (l := r) (fun x hx => h x (List.mem_cons_of_mem _ hx))
      rw [cutL, if_neg (h b (List.mem_cons_self)), h1]
theorem cutL_hit {c : UInt8} : ∀ {l r : List UInt8}, (∀ b ∈ l, b ≠ c) → cutL c (l ++ c :: r) = l :: cutL c r
  | [], r, _ => by simp [cutL]
  | b :: l, r, h => by
      have h1 := cutL_hit (l := l) (r := r) (fun x hx => h x (List.mem_cons_of_mem _ hx))
      rw [List.cons_append, cutL, if_neg (h b (List.mem_cons_self)), h1]
theorem extract_of {s : ByteArray} {pre cur rest : List UInt8} (h : s.data.toList = pre ++ (cur ++ rest)) : s.extract pre.length (pre.length + cur.length) = bytesOf cur := by
  unfold bytesOf
  apply ByteArray.ext
  apply Array.toList_inj.1
  rw [ByteArray.data_extract, Array.toList_extract, h]
  simp [List.extract]
open Go.Lib in
theorem index_out {c : UInt8} : ∀ {l : List UInt8}, (∀ b ∈ l, b ≠ c) → index l [c] = -1
  | [], _ => rfl
  | b :: l, h => by
      have h1 := index_out (l := l) (fun x hx => h x (List.mem_cons_of_mem _ hx))
      have hp : ([c] : List UInt8).isPrefixOf (b :: l) = false := by simp [List.isPrefixOf]; exact fun e => h b (List.mem_cons_self) e.symm
      rw [index, hp, h1]; rfl
open Go.Lib in
theorem index_hit {c : UInt8} : ∀ {l r : List UInt8}, (∀ b ∈ l, b ≠ c) → index (l ++ c :: r) [c] = l.length
  | [], r, _ => by rw [List.nil_append, index]; simp [List.isPrefixOf]
  | b :: l, r, h => by
      have h1 := index_hit (l := l) (r := r) (fun x hx => h x (List.mem_cons_of_mem _ hx))
      have hp : ([c] : List UInt8).isPrefixOf (b :: (l ++ c :: r)) = false := by simp [List.isPrefixOf]; exact fun e => h b (List.mem_cons_self) e.symm
      rw [List.cons_append, index, hp, h1]
      have : (((l.length : Nat) : Int) == -1) = false := by simp
      rw [this]; simp
theorem first_hit (c : UInt8) : ∀ l : List UInt8, (∀ b ∈ l, b ≠ c) ∨ ∃ p r, l = p ++ c :: r ∧ ∀ b ∈ p, b ≠ c
  | [] => .inl (fun b hb => by cases hb)
  | b :: l => by
      by_cases hb : b = c
      · exact .inr ⟨[], l, by rw [hb]; rfl, fun x hx => by cases hx⟩
      · rcases first_hit c l with h | ⟨p, r, rfl, h⟩
        · exact .inl (fun x hx => by rcases List.mem_cons.1 hx with rfl | hx; exact hb; exact h x hx)
        · exact .inr ⟨b :: p, r, rfl, fun x hx => by rcases List.mem_cons.1 hx with rfl | hx; exact hb; exact h x hx⟩
open Go.Lib in
theorem splitK_cut (c : UInt8) : ∀ (k : Nat) (l : List UInt8), l.count c = k → splitK [c] 0 k l = cutL c l
  | 0, l, h => by
      have : ∀ b ∈ l, b ≠ c := fun b hb e => by subst e; have := List.count_pos_iff.2 hb; omega
      rw [splitK, cutL_end this]
  | k + 1, l, h => by
      rcases first_hit c l with h1 | ⟨p, r, rfl, h1⟩
      · rw [splitK, index_out h1, cutL_end h1]; rfl
      · have hp : p.count c = 0 := List.count_eq_zero.2 (fun hm => h1 c hm rfl)
        have hr : r.count c = k := by rw [List.count_append, hp, List.count_cons_self] at h; omega
        have hne : (((p.length : Nat) : Int) == -1) = false := by simp
        rw [splitK, index_hit h1, hne, cutL_hit h1, ← splitK_cut c k r hr]
        simp
theorem bytesOf_data (s : ByteArray) : bytesOf s.data.toList = s := rfl
open Go.Lib in
theorem splitB_cut (c : UInt8) (s : ByteArray) : splitB ⟨#[c]⟩ 0 (countB s ⟨#[c]⟩) s = cut c s := by
  have h := splitB_data ⟨#[c]⟩ 0 (countB s ⟨#[c]⟩) s
  have hc : countB s ⟨#[c]⟩ = s.data.toList.count c := count_one c _
  rw [show (⟨#[c]⟩ : ByteArray).data.toList = [c] from rfl, hc, splitK_cut c _ _ rfl] at h
  unfold cut
  rw [← h, List.map_map, hc]
  have : (bytesOf ∘ fun (x : ByteArray) => x.data.toList) = id := funext fun x => rfl
  rw [this, List.map_id]
end Go.Proofs.Ytmjkjlifhlemlaa.H
