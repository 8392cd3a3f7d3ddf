/- Names: the reference's check and the program's. -/
import Derived.Test.YtpoflmgncnngfaaDoorN2

import Derived.Shelf.Abstract
import Derived.ChangeAgain
import Derived.Test.YtpoflmgncnngfaaDoorShelf
set_option linter.unusedVariables false
set_option linter.unusedSimpArgs false
set_option maxRecDepth 100000
set_option maxHeartbeats 400000
namespace Go.Proofs.YtpoflmgncnngfaaDoor.H
open Go.RowKit Go.Proofs.YtpoflmgncnngfaaDoorW.PrintWords Go.Proofs.YtpoflmgncnngfaaDoorW.PrintLast Go.Proofs.YtpoflmgncnngfaaDoor.Base
def nameOk (s : ByteArray) : Bool := decide (s.size ≤ 40) && (decide ((cut 46 s).length ≤ 5) && (cut 46 s).all part)
theorem cutL_bytes (c : UInt8) : ∀ l : List UInt8, ∀ p ∈ cutL c l, p.length ≤ l.length
  | [], p, h => by rw [List.mem_singleton.1 h]; exact Nat.le_refl _
  | b :: l, p, h => by
      have ih := cutL_bytes c l
      unfold cutL at h
      split at h
      · rcases List.mem_cons.1 h with rfl | h
        · exact Nat.zero_le _
        · exact Nat.le_succ_of_le (ih p h)
      · split at h
        · next h0 => exact absurd h0 (cutL_ne c l)
        · next q r h0 =>
          rw [h0] at ih
          rcases List.mem_cons.1 h with rfl | h
          · have := ih q (List.mem_cons_self); simp; omega
          · have := ih p (List.mem_cons_of_mem _ h); simp; omega
theorem cut_size {c : UInt8} {s p : ByteArray} (h : p ∈ cut c s) : p.size ≤ s.size := by
  obtain ⟨l, hl, rfl⟩ := List.mem_map.1 h
  have h1 := cutL_bytes c _ l hl
  rw [size_of (s := s) rfl]
  exact h1
theorem cutL_count (c : UInt8) : ∀ l : List UInt8, (cutL c l).length ≤ l.length + 1
  | [] => Nat.le_refl _
  | b :: l => by
      have ih := cutL_count c l
      unfold cutL
      split
      · simp; omega
      · split
        · simp
        · next q r h0 => rw [h0] at ih; simp at ih ⊢; omega
theorem cut_len (c : UInt8) (s : ByteArray) : (cut c s).length ≤ s.size + 1 := by
  unfold cut
  rw [List.length_map, size_of (s := s) rfl]
  exact cutL_count c _
theorem specNameOk (s : ByteArray) (w : World) (hs : strOk s) :
    Calls Tryd.prog 33 #[.string s] w fun e w' => e = .returned (.bool (nameOk s)) ∧ Below w.heap.size w w' := by
  unfold strOk at hs
  by_cases h40 : s.size ≤ 40
  · have g40 : ¬ ((40 : Int) < s.size) := by omega
    go_enter Tryd.func33, Tryd.ntmps33
    go_wp2_with fail
    refine (specCut s 46 _ (by omega)).mono ?_
    rintro e w1 ⟨v1, rfl, ho1, hb1⟩
    obtain ⟨A, c, rfl, hcl, hC⟩ := In.ofR ho1
    have hcl5 := cut_len 46 s
    by_cases h5 : (cut 46 s).length ≤ 5
    · have g5 : ¬ ((5 : Int) < (cut 46 s).length) := by omega
      have hN : nameOk s = (cut 46 s).all part := by unfold nameOk; rw [decide_eq_true h40, decide_eq_true h5]; rfl
      have hN' := hid hN
      have hmem := hid (fun p (h : p ∈ cut 46 s) => cut_size h)
      clear hN
      generalize hxs : cut 46 s = xs at *
      clear hxs
      go_wp2_with fail
      go_loopw [4] (fun vi wr => ∃ done rest : List ByteArray, Hid (xs = done ++ rest) ∧ vi = .int .i64 done.length ∧ Hid (done.all part = true) ∧ Below w1.heap.size w1 wr) (fun vi _ => xs.length - (intOf vi).toNat)
      case atStart => exact ⟨[], xs, rfl, rfl, rfl, bel⟩
      case round =>
        obtain ⟨done, rest, hx, rfl, ho, hb⟩ := hrel
        cases rest with
        | nil =>
          have hlt : ¬ done.length < xs.length := by rw [hx.out]; simp
          go_wp2_with fail
          go_ret
          exact ⟨ret_bool (by rw [hN'.out, hx.out]; simp [ho.out]), hb.after hb1⟩
        | cons x rest =>
          have hlt : done.length < xs.length := by rw [hx.out]; simp
          obtain ⟨ad, rfl, d0⟩ := str_at (Kd.C_below hC hb) hx.out
          have hxs : x.size ≤ s.size := hmem.out x (by rw [hx.out]; simp)
          go_wp2_with fail
          refine (specPart x _ (by unfold strOk; omega)).mono ?_
          rintro e w2 ⟨rfl, hb2⟩
          cases hpx : part x with
          | true =>
            go_wp2_with fail
            go_roundw
            case rel => exact ⟨done ++ [x], rest, hid (by rw [hx.out]; simp), by simp, hid (by simp [ho.out, hpx]), hb2.after hb⟩
            case measure => simp [intOf]; omega
          | false =>
            go_wp2_with fail
            go_ret
            exact ⟨ret_bool (by rw [hN'.out, hx.out]; simp [hpx]), hb2.after (hb.after hb1)⟩
    · have g5 : ((5 : Int) < (cut 46 s).length) := by omega
      go_wp2_with fail
      go_ret
      exact ⟨ret_bool (by unfold nameOk; rw [decide_eq_false h5]; simp), hb1⟩
  · have g40 : ((40 : Int) < s.size) := by omega
    go_enter Tryd.func33, Tryd.ntmps33
    go_wp2_with fail
    go_ret
    exact ⟨ret_bool (by unfold nameOk; rw [decide_eq_false h40]; rfl), bel⟩
theorem _root_.Go.World.ShapedOpen.below {P : Program} {w w' : World} (h : w.ShapedOpen P) (hb : Below w.heap.size w w') : w'.ShapedOpen P := h.keptBut (hb.frame (fun _ => False)) (fun _ hp => hp.elim)
theorem inStrs {w : World} {e : Nat} (xs : List ByteArray) (n : Nat) (hn : xs.length = n) (hm : n ≤ 9223372036854775807) : In kS (w.alloc (.cells (xs.map Value.string).toArray e)) (.slice (some ⟨w.heap.size, 0, none⟩) n n) xs := by
  subst hn
  refine ⟨_, xs.length, rfl, Nat.le_refl _, rfl, hm, fun h => ⟨_, rfl, fun i x hi => ⟨[.string x], rfl, rfl, fun j u hj => ?_⟩⟩⟩
  cases j with
  | zero =>
    obtain rfl : Value.string x = u := by simpa using hj
    show (w.alloc _).cell? (Addr.add ⟨w.heap.size, 0, none⟩ (i * 1 + 0)) = _
    rw [show Addr.add ⟨w.heap.size, 0, none⟩ (i * 1 + 0) = ⟨w.heap.size, i, none⟩ by rw [Addr.add_lit]; simp]
    simp [hi]
  | succ j => simp at hj
/-- a function value's answers at every later world -/
def Tells {α : Type} (g : Nat) (lb : Array Value) (enc : α → Value) (p : α → Bool) (w : World) : Prop :=
  ∀ (W : World) (x : α), Below w.heap.size w W → Calls Tryd.prog g (#[enc x] ++ lb) W fun e w' => e = .returned (.bool (p x)) ∧ Below W.heap.size W w'
def idxP {α : Type} (p : α → Bool) : List α → Int
  | [] => -1
  | x :: r => if p x then 0 else if idxP p r < 0 then -1 else idxP p r + 1
theorem idxP_ge {α : Type} (p : α → Bool) : ∀ xs : List α, -1 ≤ idxP p xs
  | [] => Int.le_refl _
  | x :: r => by have := idxP_ge p r; unfold idxP; split; decide; split <;> omega
theorem idxP_any {α : Type} (p : α → Bool) : ∀ xs : List α, decide (0 ≤ idxP p xs) = xs.any p
  | [] => rfl
  | x :: r => by
      have h := idxP_any p r
      have hg := idxP_ge p r
      rw [idxP, List.any_cons, ← h]
      cases p x with
      | true => simp
      | false =>
        by_cases h0 : idxP p r < 0
        · simp [h0] <;> omega
        · simp [h0] <;> omega
theorem idxP_none {α : Type} (p : α → Bool) : ∀ {done : List α}, done.any p = false → idxP p done = -1
  | [], _ => rfl
  | x :: r, h => by
      rw [List.any_cons, Bool.or_eq_false_iff] at h
      rw [idxP, h.1, idxP_none p h.2]; decide
theorem idxP_at {α : Type} (p : α → Bool) {x : α} {rest : List α} : ∀ {done : List α}, done.any p = false → p x = true → idxP p (done ++ x :: rest) = done.length
  | [], _, hx => by rw [List.nil_append, idxP, hx]; rfl
  | y :: r, h, hx => by
      rw [List.any_cons, Bool.or_eq_false_iff] at h
      rw [List.cons_append, idxP, h.1, idxP_at p h.2 hx]
      have : ¬ ((r.length : Int) < 0) := by omega
      simp [this]
theorem indexFuncS (g : Nat) (lb : Array Value) (eg : ∀ args w, (callFunc g args).run Tryd.prog w = .ok (.enter g args) w) (p : ByteArray → Bool) (v : Value) (xs : List ByteArray) (w : World) (hx : In kS w v xs) (hl : xs.length ≤ 9223372036854775807)
    (hp : ∀ (W : World) (x : ByteArray), x ∈ xs → Below w.heap.size w W → Calls Tryd.prog g (#[.string x] ++ lb) W fun e w' => e = .returned (.bool (p x)) ∧ Below W.heap.size W w') :
    Calls Tryd.prog 58 #[v, .func (.func g) #[] lb] w fun e w' => e = .returned (.int .i64 (idxP p xs)) ∧ Below w.heap.size w w' := by
  obtain ⟨A, c, rfl, hc, hC⟩ := hx
  go_enter Tryd.func58, Tryd.ntmps58
  go_wp2_with fail
  go_loopw [5, 8] (fun v5 vi wr => ∃ done rest : List ByteArray, Hid (xs = done ++ rest) ∧ vi = .int .i64 done.length ∧ Hid (done.any p = false) ∧ Below w.heap.size w wr) (fun _ vi _ => xs.length - (intOf vi).toNat)
  case atStart => exact ⟨[], xs, rfl, rfl, rfl, bel⟩
  case round =>
    obtain ⟨done, rest, hx, rfl, ho, hb⟩ := hrel
    cases rest with
    | nil =>
      have hlt : ¬ done.length < xs.length := by rw [hx.out]; simp
      go_wp2_with fail
      go_ret
      exact ⟨ret_int (by rw [hx.out, List.append_nil, idxP_none p ho.out]), hb⟩
    | cons x rest =>
      have hlt : done.length < xs.length := by rw [hx.out]; simp
      obtain ⟨ad, rfl, d0⟩ := str_at (Kd.C_below hC hb) hx.out
      have hcall := hp wr x (by rw [hx.out]; simp) hb
      clear hp
      cases hpx : p x with
      | true =>
        rw [hpx] at hcall
        go_wp2_with (go_at_fn g; refine hcall.mono ?_; rintro e w2 ⟨rfl, hb2⟩)
        go_ret
        exact ⟨ret_int (by rw [hx.out, idxP_at p ho.out hpx]), hb2.after hb⟩
      | false =>
        rw [hpx] at hcall
        go_wp2_with (go_at_fn g; refine hcall.mono ?_; rintro e w2 ⟨rfl, hb2⟩)
        go_roundw
        case rel => exact ⟨done ++ [x], rest, hid (by rw [hx.out]; simp), by simp, hid (by simp [ho.out, hpx]), hb2.after hb⟩
        case measure => simp [intOf]; omega
theorem containsFuncS (g : Nat) (lb : Array Value) (eg : ∀ args w, (callFunc g args).run Tryd.prog w = .ok (.enter g args) w) (p : ByteArray → Bool) (v : Value) (xs : List ByteArray) (w : World) (hx : In kS w v xs) (hl : xs.length ≤ 9223372036854775807)
    (hp : ∀ (W : World) (x : ByteArray), x ∈ xs → Below w.heap.size w W → Calls Tryd.prog g (#[.string x] ++ lb) W fun e w' => e = .returned (.bool (p x)) ∧ Below W.heap.size W w') :
    Calls Tryd.prog 47 #[v, .func (.func g) #[] lb] w fun e w' => e = .returned (.bool (xs.any p)) ∧ Below w.heap.size w w' := by
  rw [← idxP_any]
  have hcall := indexFuncS g lb eg p v xs w hx hl hp
  clear hp
  go_enter Tryd.func47, Tryd.ntmps47
  go_wp2_with fail
  refine hcall.mono ?_
  rintro e w1 ⟨rfl, hb1⟩
  go_wp2_with fail
  go_ret
  exact ⟨rfl, hb1⟩
theorem implNameOk (s : ByteArray) (w : World) (hs : strOk s) (hsh : w.ShapedOpen Tryd.prog) :
    Calls Tryd.prog 36 #[.string s] w fun e w' => e = .returned (.bool (nameOk s)) ∧ Below w.heap.size w w' := by
  unfold strOk at hs
  by_cases h40 : s.size ≤ 40
  · have g40 : ¬ ((40 : Int) < s.size) := by omega
    go_enter Tryd.func36, Tryd.ntmps36
    go_wp2_with fail
    refine (Tryd.strings_Split_shaped s ⟨#[46]⟩ _ hsh (by omega) (by decide)).mono ?_
    rintro e w1 ⟨rfl, rfl⟩
    rw [splitB_cut 46 s]
    have hlen := Lib.splitB_all ⟨#[46]⟩ (by decide) 0 _ s rfl
    rw [splitB_cut 46 s] at hlen
    rw [← hlen]
    have hcl5 := cut_len 46 s
    have hmem := hid (fun p (h : p ∈ cut 46 s) => cut_size h)
    have hIn := inStrs (w := w) (e := 9) (cut 46 s) _ rfl (by omega)
    by_cases h5 : (cut 46 s).length ≤ 5
    · have hN : nameOk s = (cut 46 s).all part := by unfold nameOk; rw [decide_eq_true h40, decide_eq_true h5]; rfl
      have hN' := hid hN
      clear hN hlen
      have g5 : ((cut 46 s).length : Int) ≤ 5 := by omega
      have eg : ∀ args w, (callFunc 48 args).run Tryd.prog w = .ok (.enter 48 args) w := enters_of Tryd.func48 (by kernel_rfl) rfl
      have hcall := containsFuncS 48 #[] eg (fun p => !part p) _ _ _ hIn (by omega) (fun W x hx hb => by
        have hxs := hmem.out x hx
        show Calls Tryd.prog 48 #[.string x] W _
        go_enter Tryd.func48, Tryd.ntmps48
        go_wp2_with fail
        refine (implPart x _ (by unfold strOk; omega)).mono ?_
        rintro e w2 ⟨rfl, hb2⟩
        go_wp2_with fail
        go_ret
        exact ⟨rfl, hb2⟩)
      generalize hxs : cut 46 s = xs at *
      go_wp2_with fail
      refine hcall.mono ?_
      rintro e w2 ⟨rfl, hb2⟩
      go_wp2_with fail
      go_ret
      exact ⟨ret_bool (by rw [hN'.out, List.all_eq_not_any_not]), hb2.after bel⟩
    · have g5 : ¬ ((cut 46 s).length : Int) ≤ 5 := by omega
      generalize hxs : cut 46 s = xs at *
      go_wp2_with fail
      go_ret
      exact ⟨ret_bool (by unfold nameOk; rw [hxs, decide_eq_false h5]; simp), bel⟩
  · have g40 : ((40 : Int) < s.size) := by omega
    go_enter Tryd.func36, Tryd.ntmps36
    go_wp2_with fail
    go_ret
    exact ⟨ret_bool (by unfold nameOk; rw [decide_eq_false h40]; rfl), bel⟩
end Go.Proofs.YtpoflmgncnngfaaDoor.H
