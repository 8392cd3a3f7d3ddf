/- Names of two lists together: the program's way (Concat, Sort, Compact). -/
import Derived.Test.YtmjkjlifhlemlaaB1
import Derived.Test.YtmjkjlifhlemlaaN2
import Derived.Test.YtmjkjlifhlemlaaShelf
import Derived.Lib.OwnBridge
import Derived.Sort.OwnSorted
import Derived.Lib.AppendIntMem
set_option linter.unusedVariables false
set_option linter.unusedSimpArgs false
set_option maxRecDepth 100000
set_option maxHeartbeats 400000
namespace Go.Proofs.Ytmjkjlifhlemlaa.H
open Go.RowKit Go.Proofs.YtmjkjlifhlemlaaW.PrintWords Go.Proofs.YtmjkjlifhlemlaaW.PrintLast Go.Proofs.Ytmjkjlifhlemlaa.Base
def namesOf (xs : List ByteArray) : List ByteArray := (Lib.compact ((xs.map (·.data.toList)).mergeSort fun x y => decide (x ≤ y))).map bytesOf
theorem kS_own {e : Nat} {w : World} {base : Nat} {ok : Nat → Prop} {v : Value} {xs : List ByteArray} (h : kS.R e w base ok v xs) : w.ownsRow base e 1 v xs.length ((xs.map (·.data.toList)).map encStr) := by
  have := Kd.own_of_R (enc := Value.string) (h1 := fun _ => rfl) h
  have e1 : xs.map Value.string = (xs.map (·.data.toList)).map encStr := by rw [List.map_map]; rfl
  rw [← e1]; exact this
theorem kS_of_own {e : Nat} {w : World} {base : Nat} {v : Value} {ls : List (List UInt8)} (h : w.ownsRow base e 1 v ls.length (ls.map encStr)) : kS.R e w base (fun _ => True) v (ls.map bytesOf) := by
  refine Kd.R_of_own (enc := Value.string) (h1 := fun _ => rfl) ?_ (fun _ _ => trivial)
  have e1 : encs Value.string (ls.map bytesOf) = ls.map encStr := by unfold encs; rw [List.map_map]; rfl
  rw [List.length_map, e1]
  exact h
theorem inTwo {E : Nat} {w : World} {t : TypeId} {A0 A1 : Option Addr} {c0 c1 : Nat} {xs ys : List ByteArray} (h0 : In kS w (.slice A0 xs.length c0) xs) (h1 : In kS w (.slice A1 ys.length c1) ys) :
    In (K.aslice E kS) (w.alloc (.cells #[.slice A0 xs.length c0, .slice A1 ys.length c1] t)) (.slice (some ⟨w.heap.size, 0, none⟩) 2 2) [xs, ys] := by
  have hb : Below w.heap.size w (w.alloc (.cells #[.slice A0 xs.length c0, .slice A1 ys.length c1] t)) := bel
  obtain ⟨A0', c0', e0, hl0, hC0⟩ := h0.below hb
  obtain ⟨A1', c1', e1, hl1, hC1⟩ := h1.below hb
  injection e0 with e01 _ e03
  injection e1 with e11 _ e13
  subst e01 e03 e11 e13
  refine ⟨_, 2, rfl, Nat.le_refl _, rfl, by simp, fun _ => ⟨_, rfl, fun i x hi => ?_⟩⟩
  match i, hi with
  | 0, hi =>
    obtain rfl : xs = x := by simpa using hi
    refine ⟨[.slice A0 xs.length c0], rfl, ⟨A0, c0, rfl, hl0, hC0⟩, fun j u hj => ?_⟩
    match j, hj with
    | 0, hj =>
      obtain rfl : Value.slice A0 xs.length c0 = u := by simpa using hj
      show World.cell? _ (Addr.add ⟨w.heap.size, 0, none⟩ (0 * 1 + 0)) = _
      rw [show Addr.add ⟨w.heap.size, 0, none⟩ (0 * 1 + 0) = ⟨w.heap.size, 0, none⟩ by rw [Addr.add_lit]]
      simp
    | j + 1, hj => simp at hj
  | 1, hi =>
    obtain rfl : ys = x := by simpa using hi
    refine ⟨[.slice A1 ys.length c1], rfl, ⟨A1, c1, rfl, hl1, hC1⟩, fun j u hj => ?_⟩
    match j, hj with
    | 0, hj =>
      obtain rfl : Value.slice A1 ys.length c1 = u := by simpa using hj
      show World.cell? _ (Addr.add ⟨w.heap.size, 0, none⟩ (1 * 1 + 0)) = _
      rw [show Addr.add ⟨w.heap.size, 0, none⟩ (1 * 1 + 0) = ⟨w.heap.size, 1, none⟩ by rw [Addr.add_lit]]
      simp
    | j + 1, hj => simp at hj
  | i + 2, hi => simp at hi
theorem namesOf_nil : namesOf [] = [] := by unfold namesOf; simp [Lib.compact, Lib.compactUpTo]
theorem compact_le (zs : List (List UInt8)) : (Lib.compact zs).length ≤ zs.length := by
  unfold Lib.compact Lib.compactUpTo
  rw [List.length_map]
  exact Nat.le_trans (List.length_filter_le _ _) (by simp)
open Go.Sort in
theorem implNames (u v : Value) (xs ys : List ByteArray) (w : World) (hx : In kS w u xs) (hy : In kS w v ys) (hn : xs.length + ys.length ≤ 4194304) :
    Calls Try.prog 19 #[u, v] w fun e w' => ∃ v', e = .returned v' ∧ kS.R 9 w' w.heap.size (fun _ => True) v' (namesOf (xs ++ ys)) ∧ Below w.heap.size w w' := by
  have kx := hx; have ky := hy
  obtain ⟨A0, c0, rfl, -, -⟩ := kx
  obtain ⟨A1, c1, rfl, -, -⟩ := ky
  go_enter Try.func19, Try.ntmps19
  go_wp2_with fail
  refine (concatS 0 _ _ _ (inTwo hx hy) (by simp [sumLen]; omega) (by simp)).mono ?_
  rintro e w1 ⟨v1, rfl, ho1, hb1⟩
  have hb1' : Below w.heap.size w w1 := hb1.after bel
  have ho1 := Kd.R_lower ho1 (show w.heap.size ≤ _ by simp)
  rw [show [xs, ys].flatten = xs ++ ys by simp] at ho1
  have hlen : (xs ++ ys).length ≤ 4194304 := by rw [List.length_append]; exact hn
  obtain ⟨zs, hzs⟩ : ∃ zs, xs ++ ys = zs := ⟨_, rfl⟩
  rw [hzs] at ho1 hlen
  have hzs' := hid hzs
  clear hzs
  by_cases hz : zs = []
  · subst hz
    obtain ⟨A, c, rfl⟩ := Kd.R_slice ho1
    go_wp2_with fail
    refine (Try.slices_Sort_string_none A c _).mono ?_
    rintro e w2 ⟨rfl, rfl⟩
    go_wp2_with fail
    refine (Try.slices_Compact_string_empty A c _).mono ?_
    rintro e w2 ⟨rfl, rfl⟩
    go_wp2_with fail
    go_ret
    exact ⟨_, rfl, by rw [hzs'.out, namesOf_nil]; exact ho1, hb1'⟩
  · have hp := List.length_pos_iff.2 hz
    have hO := kS_own ho1
    have hne : v1 ≠ .slice none 0 0 := by
      obtain ⟨g, cap, he, _⟩ := Kd.R_form ho1 hp
      rw [he]; intro h; cases h
    obtain ⟨ls, hls⟩ : ∃ ls, zs.map (·.data.toList) = ls := ⟨_, rfl⟩
    have hll : zs.length = ls.length := by rw [← hls, List.length_map]
    rw [hls, hll] at hO
    obtain ⟨g, cap, hv, hg1, hg2, hcap, hcm, hlz, hH⟩ := Lib.holds_of_ownsRow hO hne
    subst hv
    have hls' := hid hls
    clear hls ho1
    rw [hll] at hlen hp
    clear hll hlz
    have hblk : ∃ cur, w1.heap[g]? = some (.cells cur 9 (0, 0)) ∧ cur.size = cap * 1 := by
      rcases hO.2 with ⟨e0, _⟩ | ⟨g', cap', cur, e0, _, hgg, _, _, hs, _⟩
      · cases e0
      · injection e0 with e1 _ e3
        injection e1 with e1
        injection e1 with e1
        subst e1; subst e3
        exact ⟨cur, hgg, hs⟩
    obtain ⟨cur, hcur, hcs⟩ := hblk
    go_wp2_with fail
    refine (Try.slices_Sort_string g 0 cap ls _ hH hg2 (by omega)).mono ?_
    rintro e w2 ⟨rfl, n, os, hw2⟩
    obtain ⟨ss, hss⟩ : ∃ ss, (ls.mergeSort fun x y => decide (x ≤ y)) = ss := ⟨_, rfl⟩
    rw [hss] at hw2
    have hsl : ss.length = ls.length := by rw [← hss]; exact List.length_mergeSort _
    have hss' := hid hss
    clear hss
    have hO2 := ownsRow_sorted (n := n) (os := os) hsl hg1 hcur (by omega) hcm hcs
    rw [← hw2] at hO2
    have hB2 : Below w.heap.size w w2 := by
      rw [hw2]
      exact (Lib.below_putRow (q := n) hb1' hg1).trans (Lib.below_grow w.heap.size _ (Lib.below_putRow (q := n) hb1' hg1).size 0 os)
    have hg3 : g < w2.heap.size := by rw [hw2]; simp; omega
    clear hw2
    obtain ⟨g', cap', he, _, _, _, _, _, hH2⟩ := Lib.holds_of_ownsRow hO2 (by intro h; cases h)
    injection he with he1 _ he3
    injection he1 with he1
    injection he1 with he1
    subst he1; subst he3
    have hCo := Try.slices_Compact_string g 0 cap ss _ hH2 (by omega) (by omega)
    rw [hsl] at hCo
    go_wp2_with fail
    refine hCo.mono ?_
    rintro e w3 ⟨rfl, q, rfl⟩
    have hk : (Lib.compact ss).length ≤ ss.length := compact_le ss
    rw [← hsl] at hO2
    rw [← hsl]
    have hO3 := Lib.ownsRow_putRow (q := q) (k := (Lib.compact ss).length) (ys := Lib.compact ss ++ List.replicate (ss.length - (Lib.compact ss).length) []) hO2 (by rw [List.length_append, List.length_replicate]; omega) (by omega)
    rw [List.take_left] at hO3
    have hB3 := Lib.below_putRow (q := q) (d := (Lib.compact ss ++ List.replicate (ss.length - (Lib.compact ss).length) ([] : List UInt8)).toArray) (enc := encStr) hB2 hg1
    generalize putRow encStr (Sort.ahead w2 q) g 0 (Lib.compact ss ++ List.replicate (ss.length - (Lib.compact ss).length) []).toArray = w3 at *
    have hR := kS_of_own hO3
    go_wp2_with fail
    go_ret
    exact ⟨_, rfl, by unfold namesOf; rw [hzs'.out, hls'.out, hss'.out]; exact hR, hB3⟩
end Go.Proofs.Ytmjkjlifhlemlaa.H
