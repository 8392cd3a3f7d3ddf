/- The values of the program as Lean structures, and their kinds. -/
import Derived.Test.YtmjkjlifhlemlaaBase
set_option linter.unusedVariables false
set_option linter.unusedSimpArgs false
namespace Go.Proofs.Ytmjkjlifhlemlaa.Base
open Go.RowKit Go.Proofs.YtmjkjlifhlemlaaW.PrintWords Go.Proofs.YtmjkjlifhlemlaaW.PrintLast

structure Lbl where
  kind : Int
  name : ByteArray
  deriving DecidableEq
structure Chg where
  name : ByteArray
  old : Int
  new : Int
  more : List Lbl
  less : List Lbl
  deriving DecidableEq
structure Vd where
  name : ByteArray
  code : Int
  labels : List Lbl
  used : Int
  deriving DecidableEq
def kS : Kd ByteArray := Kd.string
def kI : Kd Int := Kd.int .i64
def kLbl : Kd Lbl := Kd.iso (Kd.pair kI kS) (fun x => (x.kind, x.name))
def kChg (T : Nat) : Kd Chg := Kd.iso (Kd.pair kS (Kd.pair kI (Kd.pair kI (K.apair (Kd.slice T kLbl) (Kd.slice T kLbl))))) (fun x => (x.name, x.old, x.new, x.more, x.less))
def kVd (T : Nat) : Kd Vd := Kd.iso (Kd.pair kS (Kd.pair kI (Kd.pair (Kd.slice T kLbl) kI))) (fun x => (x.name, x.code, x.labels, x.used))

/-! ### an element of a row that is read: done ++ x :: rest -/
theorem C_at {α : Type} {d : Kd α} {w : World} {A : Option Addr} {n : Nat} {xs done rest : List α} {x : α} (h : d.C w A n xs) (hx : xs = done ++ x :: rest) :
    ∃ ad c, A = some ad ∧ c.length = d.sz ∧ d.K w x c ∧ ∀ j u, c[j]? = some u → w.cell? (ad.add (done.length * d.sz + j)) = some u := by
  subst hx
  obtain ⟨hl, _, hc⟩ := h
  obtain ⟨ad, e, hc⟩ := hc (by rw [← hl, List.length_append, List.length_cons]; omega)
  obtain ⟨c, h1, h2, h3⟩ := hc done.length x (by simp)
  exact ⟨ad, c, e, h1, h2, h3⟩
theorem lbl_at {w : World} {A : Option Addr} {n : Nat} {xs done rest : List Lbl} {x : Lbl} (h : kLbl.C w A n xs) (hx : xs = done ++ x :: rest) :
    ∃ ad, A = some ad ∧ w.cell? (ad.add (done.length * 2)) = some (.int .i64 x.kind) ∧ w.cell? ⟨(ad.add (done.length * 2)).block, (ad.add (done.length * 2)).off + 1, none⟩ = some (.string x.name) := by
  obtain ⟨ad, c, e, _, hK, hc0⟩ := C_at h hx
  have hc : ∀ j u, c[j]? = some u → w.cell? (ad.add (done.length * 2 + j)) = some u := hc0
  obtain ⟨_, _, rfl, rfl, rfl⟩ := hK
  exact ⟨ad, e, hc 0 _ rfl, by rw [← add_field _ _ 1 (by omega)]; exact hc 1 _ rfl⟩
theorem str_at {w : World} {A : Option Addr} {n : Nat} {xs done rest : List ByteArray} {x : ByteArray} (h : kS.C w A n xs) (hx : xs = done ++ x :: rest) :
    ∃ ad, A = some ad ∧ w.cell? (ad.add done.length) = some (.string x) := by
  obtain ⟨ad, c, e, _, hK, hc0⟩ := C_at h hx
  have hc : ∀ j u, c[j]? = some u → w.cell? (ad.add (done.length * 1 + j)) = some u := hc0
  obtain rfl := hK
  exact ⟨ad, e, by have := hc 0 _ rfl; rwa [Nat.mul_one, Nat.add_zero] at this⟩
theorem kLbl_M {w : World} {base : Nat} {ok : Nat → Prop} (x : Lbl) : kLbl.M w base ok x [.int .i64 x.kind, .string x.name] := ⟨[.int .i64 x.kind], [.string x.name], rfl, rfl, rfl⟩
theorem chg_at {T : Nat} {w : World} {A : Option Addr} {n : Nat} {xs done rest : List Chg} {x : Chg} (h : (kChg T).C w A n xs) (hx : xs = done ++ x :: rest) :
    ∃ ad v3 v4, A = some ad ∧ w.cell? (ad.add (done.length * 5)) = some (.string x.name) ∧ w.cell? ⟨(ad.add (done.length * 5)).block, (ad.add (done.length * 5)).off + 1, none⟩ = some (.int .i64 x.old) ∧ w.cell? ⟨(ad.add (done.length * 5)).block, (ad.add (done.length * 5)).off + 2, none⟩ = some (.int .i64 x.new) ∧
      w.cell? ⟨(ad.add (done.length * 5)).block, (ad.add (done.length * 5)).off + 3, none⟩ = some v3 ∧ w.cell? ⟨(ad.add (done.length * 5)).block, (ad.add (done.length * 5)).off + 4, none⟩ = some v4 ∧ In kLbl w v3 x.more ∧ In kLbl w v4 x.less := by
  obtain ⟨ad, c, e, _, hK, hc0⟩ := C_at h hx
  have hc : ∀ j u, c[j]? = some u → w.cell? (ad.add (done.length * 5 + j)) = some u := hc0
  obtain ⟨_, _, rfl, rfl, ⟨_, _, rfl, rfl, ⟨_, _, rfl, rfl, ⟨_, _, rfl, ⟨A3, c3, rfl, l3, g3⟩, ⟨A4, c4, rfl, l4, g4⟩⟩⟩⟩⟩ := hK
  exact ⟨ad, _, _, e, hc 0 _ rfl, by rw [← add_field _ _ 1 (by omega)]; exact hc 1 _ rfl, by rw [← add_field _ _ 2 (by omega)]; exact hc 2 _ rfl, by rw [← add_field _ _ 3 (by omega)]; exact hc 3 _ rfl, by rw [← add_field _ _ 4 (by omega)]; exact hc 4 _ rfl, ⟨A3, c3, rfl, l3, g3⟩, ⟨A4, c4, rfl, l4, g4⟩⟩
theorem kChg_M {T : Nat} {w : World} {base N : Nat} {ok : Nat → Prop} {x : Chg} {v3 v4 : Value} (h3 : kLbl.R T w base (fun k => ok k ∧ k < N) v3 x.more) (h4 : kLbl.R T w base (fun k => ok k ∧ N ≤ k) v4 x.less) : (kChg T).M w base ok x [.string x.name, .int .i64 x.old, .int .i64 x.new, v3, v4] :=
  ⟨[.string x.name], [.int .i64 x.old, .int .i64 x.new, v3, v4], rfl, rfl, [.int .i64 x.old], [.int .i64 x.new, v3, v4], rfl, rfl, [.int .i64 x.new], [v3, v4], rfl, rfl, apair_mk (c0 := [v3]) (c1 := [v4]) ⟨v3, rfl, h3⟩ ⟨v4, rfl, h4⟩⟩
theorem kChg_K {T : Nat} {w : World} {x : Chg} {u0 u1 u2 u3 u4 : Value} (h : (kChg T).K w x [u0, u1, u2, u3, u4]) : u0 = .string x.name ∧ u1 = .int .i64 x.old ∧ u2 = .int .i64 x.new ∧ In kLbl w u3 x.more ∧ In kLbl w u4 x.less := by
  obtain ⟨_, _, e, rfl, ⟨_, _, e2, rfl, ⟨_, _, e4, rfl, ⟨_, _, e6, ⟨A3, c3, rfl, l3, g3⟩, ⟨A4, c4, rfl, l4, g4⟩⟩⟩⟩⟩ := h
  simp at e e2 e4 e6
  obtain ⟨rfl, rfl⟩ := e
  simp at e2
  obtain ⟨rfl, rfl⟩ := e2
  simp at e4
  obtain ⟨rfl, rfl⟩ := e4
  simp at e6
  obtain ⟨rfl, rfl⟩ := e6
  exact ⟨rfl, rfl, rfl, ⟨A3, c3, rfl, l3, g3⟩, ⟨A4, c4, rfl, l4, g4⟩⟩
theorem kChg_open {T : Nat} {w : World} {base : Nat} {ok : Nat → Prop} {x : Chg} {c : List Value} (h : (kChg T).M w base ok x c) : ∃ (v3 v4 : Value) (f : Nat → Bool), c = [.string x.name, .int .i64 x.old, .int .i64 x.new, v3, v4] ∧ kLbl.R T w base (fun k => ok k ∧ f k = true) v3 x.more ∧ kLbl.R T w base (fun k => ok k ∧ f k = false) v4 x.less := by
  obtain ⟨_, _, rfl, rfl, ⟨_, _, rfl, rfl, ⟨_, _, rfl, rfl, ⟨f, _, _, rfl, ⟨v3, rfl, h3⟩, ⟨v4, rfl, h4⟩⟩⟩⟩⟩ := h
  exact ⟨v3, v4, f, rfl, h3, h4⟩
theorem kChg_shut {T : Nat} {w : World} {base : Nat} {ok : Nat → Prop} {x : Chg} {v3 v4 : Value} {f : Nat → Bool} (h3 : kLbl.R T w base (fun k => ok k ∧ f k = true) v3 x.more) (h4 : kLbl.R T w base (fun k => ok k ∧ f k = false) v4 x.less) : (kChg T).M w base ok x [.string x.name, .int .i64 x.old, .int .i64 x.new, v3, v4] :=
  ⟨[.string x.name], [.int .i64 x.old, .int .i64 x.new, v3, v4], rfl, rfl, [.int .i64 x.old], [.int .i64 x.new, v3, v4], rfl, rfl, [.int .i64 x.new], [v3, v4], rfl, rfl, f, [v3], [v4], rfl, ⟨v3, rfl, h3⟩, ⟨v4, rfl, h4⟩⟩
theorem kChg_f0 {T : Nat} {w : World} {base : Nat} {x : Chg} (s : ByteArray) (ok : Nat → Prop) (c : List Value) (h : (kChg T).M w base ok x c) : (kChg T).M w base ok { x with name := s } (c.take 0 ++ [.string s] ++ c.drop 1) := by
  obtain ⟨v3, v4, f, rfl, h3, h4⟩ := kChg_open h
  exact kChg_shut h3 h4
theorem kChg_f1 {T : Nat} {w : World} {base : Nat} {x : Chg} (s : Int) (ok : Nat → Prop) (c : List Value) (h : (kChg T).M w base ok x c) : (kChg T).M w base ok { x with old := s } (c.take 1 ++ [.int .i64 s] ++ c.drop 2) := by
  obtain ⟨v3, v4, f, rfl, h3, h4⟩ := kChg_open h
  exact kChg_shut h3 h4
theorem kChg_f2 {T : Nat} {w : World} {base : Nat} {x : Chg} (s : Int) (ok : Nat → Prop) (c : List Value) (h : (kChg T).M w base ok x c) : (kChg T).M w base ok { x with new := s } (c.take 2 ++ [.int .i64 s] ++ c.drop 3) := by
  obtain ⟨v3, v4, f, rfl, h3, h4⟩ := kChg_open h
  exact kChg_shut h3 h4
theorem Chg.eq_of {x y : Chg} : decide (x = y) = (decide (x.name = y.name) && decide (x.old = y.old) && decide (x.new = y.new) && decide (x.more = y.more) && decide (x.less = y.less)) := by cases x; cases y; simp [Bool.and_assoc]
theorem kLbl_f0 {w : World} {base : Nat} {x : Lbl} (y : Lbl) (hy : y.name = x.name) (ok : Nat → Prop) (c : List Value) (h : kLbl.M w base ok x c) : kLbl.M w base ok y (c.take 0 ++ [.int .i64 y.kind] ++ c.drop 1) := by
  obtain ⟨_, _, rfl, rfl, rfl⟩ := h
  exact ⟨[.int .i64 y.kind], [.string y.name], by rw [hy]; rfl, rfl, rfl⟩
theorem kLbl_f1 {w : World} {base : Nat} {x : Lbl} (y : Lbl) (hy : y.kind = x.kind) (ok : Nat → Prop) (c : List Value) (h : kLbl.M w base ok x c) : kLbl.M w base ok y (c.take 1 ++ [.string y.name] ++ c.drop 2) := by
  obtain ⟨_, _, rfl, rfl, rfl⟩ := h
  exact ⟨[.int .i64 y.kind], [.string y.name], by rw [hy]; rfl, rfl, rfl⟩
theorem Lbl.eq_of {x y : Lbl} : decide (x = y) = (decide (x.kind = y.kind) && decide (x.name = y.name)) := by cases x; cases y; simp
theorem kChg_ins {T : Nat} {w : World} {base : Nat} {ok : Nat → Prop} {x : Chg} {u0 u1 u2 v3 v4 : Value} (h : (kChg T).M w base ok x [u0, u1, u2, v3, v4]) : In kLbl w v3 x.more ∧ In kLbl w v4 x.less := by
  have hK := (kChg T).K_of_M h
  obtain ⟨_, _, h0, rfl, ⟨_, _, h1, rfl, ⟨_, _, h2, rfl, ⟨_, _, h3, ⟨A3, c3, rfl, l3, g3⟩, ⟨A4, c4, rfl, l4, g4⟩⟩⟩⟩⟩ := hK
  simp at h0
  obtain ⟨_, rfl⟩ := h0
  simp at h1
  obtain ⟨_, rfl⟩ := h1
  simp at h2
  obtain ⟨_, rfl⟩ := h2
  simp at h3
  obtain ⟨rfl, rfl⟩ := h3
  exact ⟨⟨A3, c3, rfl, l3, g3⟩, ⟨A4, c4, rfl, l4, g4⟩⟩
end Go.Proofs.Ytmjkjlifhlemlaa.Base
