/- The ground of this session's own texts: slices that are read, rows of one's own that lie apart, readings opened. Nothing here is about one program. -/
import Derived.Test.YtmjkjlifhlemlaaWWords
import Derived.Test.YtmjkjlifhlemlaaWApart
import Derived.Test.YtmjkjlifhlemlaaWKept
import Derived.ProofKit
import Derived.Below
import Derived.Deep.Slices
import Derived.WalkKit
import Derived.WalkLawsBesides
import Derived.WalkSpells
import Derived.BigQuiet
import Derived.StillTailTactics
import Derived.Deep.RegionHeld3
import Derived.Outline
set_option linter.unusedVariables false
set_option linter.unusedSimpArgs false
namespace Go.Proofs.Ytmjkjlifhlemlaa.Base
open Go.RowKit Go.Proofs.YtmjkjlifhlemlaaW.PrintWords Go.Proofs.YtmjkjlifhlemlaaW.PrintLast

theorem hid {p : Prop} (h : p) : Hid p := h

/-! ### 1. A slice value that reads as xs -/
def In {α : Type} (d : Kd α) (w : World) (v : Value) (xs : List α) : Prop := ∃ A c, v = .slice A xs.length c ∧ xs.length ≤ c ∧ d.C w A xs.length xs
section
variable {α : Type} {d : Kd α} {e : Nat} {w w1 : World} {base : Nat} {ok : Nat → Prop} {v : Value} {xs : List α}
theorem In.below (h : In d w v xs) (hb : Below w.heap.size w w1) : In d w1 v xs := by
  obtain ⟨A, c, h1, h2, h3⟩ := h
  exact ⟨A, c, h1, h2, Kd.C_below h3 hb⟩
theorem In.ofR (h : d.R e w base ok v xs) : In d w v xs := Kd.R_reads h
theorem In.ofS (h : d.S e w base ok v xs) : In d w v xs := Kd.S_reads h
end

/-! ### 2. Two parts that lie apart; a slice whose elements lie apart, as a part -/
namespace K
def apair {α β : Type} (a : Kd α) (b : Kd β) : Kd (α × β) where
  sz := a.sz + b.sz
  E := a.E ++ b.E
  K := fun w x cs => ∃ c0 c1, cs = c0 ++ c1 ∧ a.K w x.1 c0 ∧ b.K w x.2 c1
  M := fun w base ok x cs => ∃ (f : Nat → Bool) (c0 c1 : List Value), cs = c0 ++ c1 ∧ a.M w base (fun k => ok k ∧ f k = true) x.1 c0 ∧ b.M w base (fun k => ok k ∧ f k = false) x.2 c1
  K_len := by
    rintro w x cs ⟨c0, c1, rfl, h0, h1⟩
    rw [List.length_append, a.K_len h0, b.K_len h1]
  K_one := by
    rintro w x cs ⟨c0, c1, rfl, h0, h1⟩ u hu
    rcases List.mem_append.1 hu with hu | hu
    · exact a.K_one h0 u hu
    · exact b.K_one h1 u hu
  K_below := by
    rintro w w1 x cs hb ⟨c0, c1, rfl, h0, h1⟩
    exact ⟨c0, c1, rfl, a.K_below hb h0, b.K_below hb h1⟩
  K_of_M := by
    rintro w base ok x cs ⟨f, c0, c1, rfl, h0, h1⟩
    exact ⟨c0, c1, rfl, a.K_of_M h0, b.K_of_M h1⟩
  M_mono := by
    rintro w base ok ok' x cs hok ⟨f, c0, c1, rfl, h0, h1⟩
    exact ⟨f, c0, c1, rfl, a.M_mono (fun k hk => ⟨hok k hk.1, hk.2⟩) h0, b.M_mono (fun k hk => ⟨hok k hk.1, hk.2⟩) h1⟩
  M_bound := by
    rintro w base ok x cs ⟨f, c0, c1, rfl, h0, h1⟩
    refine ⟨f, c0, c1, rfl, a.M_mono ?_ (a.M_bound h0), b.M_mono ?_ (b.M_bound h1)⟩
    · rintro k ⟨⟨h2, h6⟩, h3, h4, q, hq, hc⟩
      exact ⟨⟨h2, h3, h4, q, List.mem_append_left _ hq, hc⟩, h6⟩
    · rintro k ⟨⟨h2, h6⟩, h3, h4, q, hq, hc⟩
      exact ⟨⟨h2, h3, h4, q, List.mem_append_right _ hq, hc⟩, h6⟩
  M_move := by
    rintro w w1 base ok x cs hm ⟨f, c0, c1, rfl, h0, h1⟩
    exact ⟨f, c0, c1, rfl, a.M_move (fun k hk => hm k hk.1) h0, b.M_move (fun k hk => hm k hk.1) h1⟩
  M_lower := by
    rintro w base base' ok x cs hb ⟨f, c0, c1, rfl, h0, h1⟩
    exact ⟨f, c0, c1, rfl, a.M_lower hb h0, b.M_lower hb h1⟩
def aslice {α : Type} (e : Nat) (d : Kd α) : Kd (List α) where
  sz := 1
  E := e :: d.E
  K := fun w xs cs => ∃ A c, cs = [.slice A xs.length c] ∧ xs.length ≤ c ∧ d.C w A xs.length xs
  M := fun w base ok xs cs => ∃ v, cs = [v] ∧ d.S e w base ok v xs
  K_len := by
    rintro w x cs ⟨A, c, rfl, _⟩
    rfl
  K_one := by
    rintro w x cs ⟨A, c, rfl, _⟩ u hu
    rw [List.mem_singleton.1 hu]
    rfl
  K_below := by
    rintro w w1 x cs hb ⟨A, c, rfl, hl, hr⟩
    exact ⟨A, c, rfl, hl, Kd.C_below hr hb⟩
  K_of_M := by
    rintro w base ok x cs ⟨v, rfl, h⟩
    obtain ⟨A, c, rfl, hl, hr⟩ := Kd.S_reads h
    exact ⟨A, c, rfl, hl, hr⟩
  M_mono := by
    rintro w base ok ok' x cs hok ⟨v, rfl, h⟩
    exact ⟨v, rfl, Kd.S_mono h hok⟩
  M_bound := by
    rintro w base ok x cs ⟨v, rfl, h⟩
    exact ⟨v, rfl, Kd.S_bound h⟩
  M_move := by
    rintro w w1 base ok x cs hm ⟨v, rfl, h⟩
    exact ⟨v, rfl, Kd.S_move h hm⟩
  M_lower := by
    rintro w base base' ok x cs hb ⟨v, rfl, h⟩
    exact ⟨v, rfl, Kd.S_lower h hb⟩
end K

/-! ### 3. A reading opened: whatever reads at a type is of that type's kind, and fits -/
def Opens {α : Type} (P : Program) (t : TypeId) (d : Kd α) (wf : α → Prop) : Prop :=
  ∀ {H : Type} (enc : TypeId × Value → H) (w : World) (base : Nat) (spare : Nat → Bool) (held : Bool) (fuel : Nat) (cs : List Value) (x : DataW H × List MemPlace), DataW.trod enc P w base spare held fuel t cs = some x → ∃ a, d.K w a cs ∧ wf a
def i64 (x : Int) : Prop := -9223372036854775808 ≤ x ∧ x ≤ 9223372036854775807
def strOk (s : ByteArray) : Prop := s.size ≤ 9223372036854775807
theorem opens_int {P : Program} {t : TypeId} (h : P.underlying t = some (.int .i64)) : Opens P t (Kd.int .i64) i64 := by
  intro H enc w base spare held fuel cs x hx
  obtain ⟨n, rfl, _, hw⟩ := DataW.trod_int h hx
  refine ⟨n, rfl, ?_⟩
  simp only [Lit.wf, Bool.and_eq_true, decide_eq_true_eq] at hw
  exact hw
theorem opens_string {P : Program} {t : TypeId} (h : P.underlying t = some .string) : Opens P t Kd.string strOk := by
  intro H enc w base spare held fuel cs x hx
  obtain ⟨s, rfl, _, hs⟩ := DataW.trod_string h hx
  exact ⟨s, rfl, by unfold strOk; unfold maxLen at hs; omega⟩
theorem opens_slice {α : Type} {P : Program} {t e : TypeId} {d : Kd α} {wf : α → Prop} (ht : P.underlying t = some (.slice e)) (hsz : P.cellsOf e = d.sz) (hd : Opens P e d wf) (T : Nat) : Opens P t (Kd.slice T d) (fun xs => ∀ x ∈ xs, wf x) := by
  intro H enc w base spare held fuel cs x hx
  rcases Go.Deep.open_slice ht hx with ⟨rfl, _⟩ | ⟨a, len, cap, m, n, D, Pl, rfl, hb, hl, hm, hmm, _, he⟩
  · exact ⟨[], ⟨none, 0, rfl, Nat.le_refl _, rfl, by simp, fun h => absurd h (by simp)⟩, fun x hx => by simp at hx⟩
  · have hml : len ≤ m := by rw [hmm]; split <;> omega
    have key : ∀ k, k ≤ len → ∃ xs : List α, xs.length = k ∧ (∀ x ∈ xs, wf x) ∧ ∀ j p, xs[j]? = some p → ∃ c, c.length = d.sz ∧ d.K w p c ∧ ∀ i u, c[i]? = some u → w.cell? (a.add (j * d.sz + i)) = some u := by
      intro k
      induction k with
      | zero => exact fun _ => ⟨[], rfl, by simp, by simp⟩
      | succ k ih =>
        intro hk
        obtain ⟨xs, hxl, hwf, hxs⟩ := ih (by omega)
        obtain ⟨cs', h1, h2⟩ := he k (by omega)
        obtain ⟨p, hp, hpw⟩ := hd enc w base spare held n cs' _ h2
        refine ⟨xs ++ [p], by simp [hxl], ?_, ?_⟩
        · intro x hx
          rcases List.mem_append.1 hx with hx | hx
          · exact hwf x hx
          · rw [List.mem_singleton.1 hx]; exact hpw
        · intro j q hq
          rcases Nat.lt_or_ge j xs.length with hj | hj
          · rw [List.getElem?_append_left hj] at hq
            exact hxs j q hq
          · have hj' : j = xs.length := by
              have := (List.getElem?_eq_some_iff.1 hq).1
              simp at this
              omega
            subst hj'
            have hq' : p = q := by simpa using hq
            subst hq'
            rw [hsz] at h1
            obtain ⟨_, hlen, hcell⟩ := World.cells?_some h1
            refine ⟨cs', hlen, hp, fun i u hu => ?_⟩
            have hi : i < cs'.length := (List.getElem?_eq_some_iff.1 hu).1
            have := hcell i (by omega)
            rw [hxl, ← Go.Deep.add_add, this, hu]
    obtain ⟨xs, hxl, hwf, hxs⟩ := key len (Nat.le_refl _)
    unfold maxLen at hm
    exact ⟨xs, ⟨some a, cap, by rw [hxl], by omega, rfl, by omega, fun _ => ⟨a, rfl, hxs⟩⟩, hwf⟩
/-- The fields of a struct, from an offset on. -/
def OpensFs {α : Type} (P : Program) (fs : List Field) (off : Nat) (d : Kd α) (wf : α → Prop) : Prop :=
  ∀ {H : Type} (enc : TypeId × Value → H) (w : World) (base : Nat) (spare : Nat → Bool) (held : Bool) (fuel : Nat) (cs : List Value),
    (∀ (i : Nat) (f : Field), fs[i]? = some f → ∃ y, DataW.trod enc P w base spare held fuel f.type ((cs.drop f.offset).take (P.cellsOf f.type)) = some y) → cs.length = off + d.sz → ∃ a, d.K w a (cs.drop off) ∧ wf a
theorem opensFs_one {α : Type} {P : Program} {f : Field} {off : Nat} {d : Kd α} {wf : α → Prop} (h : Opens P f.type d wf) (ho : f.offset = off) (hs : P.cellsOf f.type = d.sz) : OpensFs P [f] off d wf := by
  intro H enc w base spare held fuel cs hx hl
  obtain ⟨y, hy⟩ := hx 0 f rfl
  obtain ⟨a, ha, hw⟩ := h enc w base spare held fuel _ _ hy
  rw [ho, hs, List.take_of_length_le (by rw [List.length_drop]; omega)] at ha
  exact ⟨a, ha, hw⟩
theorem opensFs_cons {α β : Type} {P : Program} {f : Field} {fs : List Field} {off : Nat} {a : Kd α} {b : Kd β} {wa : α → Prop} {wb : β → Prop} (h : Opens P f.type a wa) (ho : f.offset = off) (hs : P.cellsOf f.type = a.sz) (ht : OpensFs P fs (off + a.sz) b wb) :
    OpensFs P (f :: fs) off (Kd.pair a b) (fun x => wa x.1 ∧ wb x.2) := by
  intro H enc w base spare held fuel cs hx hl
  obtain ⟨y, hy⟩ := hx 0 f rfl
  have hl' : cs.length = off + (a.sz + b.sz) := hl
  obtain ⟨p, hp, hpw⟩ := h enc w base spare held fuel _ _ hy
  obtain ⟨q, hq, hqw⟩ := ht enc w base spare held fuel cs (fun i g hg => hx (i + 1) g hg) (by omega)
  rw [ho, hs] at hp
  refine ⟨(p, q), ⟨_, _, ?_, hp, hq⟩, hpw, hqw⟩
  rw [← List.drop_drop, List.take_append_drop]
theorem opensFs_acons {α β : Type} {P : Program} {f : Field} {fs : List Field} {off : Nat} {a : Kd α} {b : Kd β} {wa : α → Prop} {wb : β → Prop} (h : Opens P f.type a wa) (ho : f.offset = off) (hs : P.cellsOf f.type = a.sz) (ht : OpensFs P fs (off + a.sz) b wb) :
    OpensFs P (f :: fs) off (K.apair a b) (fun x => wa x.1 ∧ wb x.2) := fun enc w base spare held fuel cs hx hl => opensFs_cons h ho hs ht enc w base spare held fuel cs hx hl
theorem opens_struct {α β : Type} {P : Program} {t : TypeId} {fs : Array Field} {d : Kd α} {wf : α → Prop} (ht : P.underlying t = some (.struct fs)) (hsz : P.cellsOf t = d.sz) (f : β → α) (g : α → β) (hfg : ∀ x, f (g x) = x) (h : OpensFs P fs.toList 0 d wf) :
    Opens P t (Kd.iso d f) (fun x => wf (f x)) := by
  intro H enc w base spare held fuel cs x hx
  obtain ⟨xs, n, rfl, rfl, hl, hxl, hfs⟩ := DataW.trod_struct ht hx
  obtain ⟨a, ha, hw⟩ := h enc w base spare held n cs (fun i fd hi => by
    have hi' : fs[i]? = some fd := by simpa using hi
    have hlt : i < xs.length := by rw [hxl]; exact (Array.getElem?_eq_some_iff.1 hi').1
    exact ⟨xs[i], by rw [hfs i fd hi', List.getElem?_eq_getElem hlt]⟩) (by omega)
  rw [List.drop_zero] at ha
  exact ⟨g a, by show d.K w (f (g a)) cs; rw [hfg]; exact ha, by show wf (f (g a)); rw [hfg]; exact hw⟩
/-- An argument that is a slice. -/
theorem Opens.slice {α : Type} {P : Program} {t T : TypeId} {d : Kd α} {wf : List α → Prop} (h : Opens P t (Kd.slice T d) wf) {H : Type} {enc : TypeId × Value → H} {w : World} {base : Nat} {spare : Nat → Bool} {held : Bool} {A : Option Addr} {n c : Nat} {x : DataW H} {ps : List MemPlace}
    (hx : DataW.Trod enc P w base spare held t (.slice A n c) x ps) : ∃ xs, In d w (.slice A n c) xs ∧ wf xs := by
  obtain ⟨fuel, hf⟩ := hx
  obtain ⟨xs, ⟨A', c', he, hl, hC⟩, hw⟩ := h enc w base spare held fuel _ _ hf
  simp [Value.cells] at he
  obtain ⟨rfl, rfl, rfl⟩ := he
  exact ⟨xs, ⟨_, _, rfl, hl, hC⟩, hw⟩

theorem R_some {α : Type} {d : Kd α} {e : Nat} {w : World} {base : Nat} {ok : Nat → Prop} {A : Option Addr} {n c : Nat} {done rest : List α} {x : α} (h : d.R e w base ok (.slice A n c) (done ++ x :: rest)) : ∃ g, A = some ⟨g, 0, none⟩ ∧ base ≤ g ∧ g < w.heap.size := by
  obtain ⟨g, cap, he, h1, h2, _⟩ := Kd.R_form h (by rw [List.length_append, List.length_cons]; omega)
  injection he with h3 _ _
  exact ⟨g, h3, h1, h2⟩
theorem str_beq (s t : ByteArray) : (s.toList == t.toList) = decide (s = t) := by
  rw [ByteArray.toList_eq, ByteArray.toList_eq, Bool.eq_iff_iff, beq_iff_eq, decide_eq_true_iff]
  constructor
  · intro h
    cases s; cases t
    simpa using h
  · rintro rfl; rfl
theorem ret_bool {a b : Bool} (h : a = b) : Ending.returned (.bool a) = .returned (.bool b) := by rw [h]
theorem ret_int {k : IntKind} {a b : Int} (h : a = b) : Ending.returned (.int k a) = .returned (.int k b) := by rw [h]
theorem ret_str {a b : ByteArray} (h : a = b) : Ending.returned (.string a) = .returned (.string b) := by rw [h]
theorem bcell {W w1 : World} (hb : Below W.heap.size W w1) : (∀ b o, b < W.heap.size → w1.cell? ⟨b, o, none⟩ = W.cell? ⟨b, o, none⟩) ∧ (∀ b o, b < W.heap.size → w1.frozen? ⟨b, o, none⟩ = W.frozen? ⟨b, o, none⟩) :=
  ⟨fun b o h => hb.cell (p := ⟨b, o, none⟩) h, fun b o h => hb.frozen (p := ⟨b, o, none⟩) h⟩
theorem _root_.Go.RowKit.Below.after {w W W' : World} (h : Below W.heap.size W W') (k : Below w.heap.size w W) : Below w.heap.size w W' := k.trans (h.mono k.size)
/-- string([]byte{b}) -/
theorem run_str_one {P : Program} (src dst e : TypeId) (hs : P.underlying src = some (.slice e)) (he : P.underlying e = some (.int .u8)) (hd : P.underlying dst = some .string) (n : Int) (W : World) :
    (convert src dst (.slice (some ⟨W.heap.size, 0, none⟩) 1 1)).run P (W.alloc (.cells #[.int .u8 n] e)) = .ok (.string ⟨#[UInt8.ofNat n.toNat]⟩) (W.alloc (.cells #[.int .u8 n] e)) :=
  run_convert_bytes_arg (W.alloc (.cells #[.int .u8 n] e)) src e hs he W.heap.size 0 1 1 [n] rfl (fun i hi => by obtain rfl : i = 0 := by omega
                                                                                                                 simp) dst hd
/-- What was there stands: by the world's own form. -/
theorem bel {w W : World} (h : Below w.heap.size w W := by repeat (with_reducible first | exact Below.refl _ _ | assumption | apply below_alloc | apply below_drew | apply pw_below_drewN | (refine Below.setCell ?_ ?side _; case side => (show _ ≤ _; simp <;> omega)))) : Below w.heap.size w W := h
/-- What lies from block N on stands. -/
def Ab (N : Nat) (w w' : World) : Prop := w.heap.size ≤ w'.heap.size ∧ ∀ k, N ≤ k → k < w.heap.size → w'.heap[k]? = w.heap[k]?
theorem Ab.refl {N : Nat} {w : World} : Ab N w w := ⟨Nat.le_refl _, fun _ _ _ => rfl⟩
theorem Ab.trans {N : Nat} {a b c : World} (h : Ab N a b) (k : Ab N b c) : Ab N a c := ⟨Nat.le_trans h.1 k.1, fun i hi hl => (k.2 i hi (Nat.lt_of_lt_of_le hl h.1)).trans (h.2 i hi hl)⟩
theorem Ab.below {N : Nat} {a b c : World} (h : Ab N a b) (k : Below b.heap.size b c) : Ab N a c := h.trans ⟨k.size, fun i _ hl => k.block i hl⟩
theorem Ab.alloc {N : Nat} {a b : World} (h : Ab N a b) (o : Obj) : Ab N a (b.alloc o) := h.below (below_alloc (Below.refl _ _) o)
theorem Ab.drew {N : Nat} {a b : World} (h : Ab N a b) : Ab N a b.drew := h
theorem Ab.drewN {N : Nat} {a b : World} (h : Ab N a b) (n : Nat) : Ab N a (b.drewN n) := h
theorem Ab.setCell {N : Nat} {a b : World} (h : Ab N a b) {p : Addr} (hp : p.block < N) (u : Value) : Ab N a (b.setCell p u) := h.trans ⟨by simp [World.setCell], fun i hi _ => Below.heap_setCell _ _ _ _ (by omega)⟩
theorem ab {N : Nat} {w W : World} (h : Ab N w W := by repeat (with_reducible first | exact Ab.refl | assumption | apply Ab.alloc | apply Ab.drew | apply Ab.drewN | (refine Ab.setCell ?_ ?side _; case side => (show _ < _; simp <;> omega)))) : Ab N w W := h
theorem R_ab {α : Type} {d : Kd α} {e : Nat} {w w1 : World} {N : Nat} {ok : Nat → Prop} {v : Value} {xs : List α} (h : d.R e w N ok v xs) (k : Ab N w w1) : d.R e w1 N ok v xs :=
  Kd.R_mono (Kd.R_step (Kd.R_bound h) (fun i hi hl => k.2 i hi.2.1 hl)) (fun _ hk => hk.1)
theorem S_ab {α : Type} {d : Kd α} {e : Nat} {w w1 : World} {N : Nat} {ok : Nat → Prop} {v : Value} {xs : List α} (h : d.S e w N ok v xs) (k : Ab N w w1) : d.S e w1 N ok v xs :=
  Kd.S_mono (Kd.S_step (Kd.S_bound h) (fun i hi hl => k.2 i hi.2.1 hl)) (fun _ hk => hk.1)
theorem M_ab {α : Type} {d : Kd α} {w w1 : World} {N : Nat} {ok : Nat → Prop} {x : α} {cs : List Value} (h : d.M w N ok x cs) (k : Ab N w w1) : d.M w1 N ok x cs :=
  d.M_mono (fun _ hk => hk.1) (d.M_move (fun i hi => k.2 i hi.2.1 hi.2.2.1) (d.M_bound h))
theorem R_hold {α : Type} {d : Kd α} {e : Nat} {w w1 : World} {base N : Nat} {ok : Nat → Prop} {v : Value} {xs : List α} (h : d.R e w base ok v xs) (k : Ab N w w1) (hok : ∀ i, ok i → N ≤ i) : d.R e w1 base ok v xs := Kd.R_step h (fun i hi hl => k.2 i (hok i hi) hl)
theorem S_hold {α : Type} {d : Kd α} {e : Nat} {w w1 : World} {base N : Nat} {ok : Nat → Prop} {v : Value} {xs : List α} (h : d.S e w base ok v xs) (k : Ab N w w1) (hok : ∀ i, ok i → N ≤ i) : d.S e w1 base ok v xs := Kd.S_step h (fun i hi hl => k.2 i (hok i hi) hl)
/-- Own rows told from an elder begin on: which of them, and since when. -/
theorem R_span {α : Type} {d : Kd α} {e : Nat} {w : World} {base N : Nat} {ok : Nat → Prop} {v : Value} {xs : List α} (h : d.R e w N ok v xs) (hb : base ≤ N) : d.R e w base (fun k => N ≤ k ∧ k < w.heap.size) v xs := Kd.R_lower (Kd.R_mono (Kd.R_bound h) (fun _ hk => ⟨hk.2.1, hk.2.2.1⟩)) hb
theorem S_span {α : Type} {d : Kd α} {e : Nat} {w : World} {base N : Nat} {ok : Nat → Prop} {v : Value} {xs : List α} (h : d.S e w N ok v xs) (hb : base ≤ N) : d.S e w base (fun k => N ≤ k ∧ k < w.heap.size) v xs := Kd.S_lower (Kd.S_mono (Kd.S_bound h) (fun _ hk => ⟨hk.2.1, hk.2.2.1⟩)) hb
/-! ### 4. Events at done ++ x :: rest -/
section
variable {P : Program} {ops : Array Oper} {rest' : List Oper} {o : Oper} {a : Act} {Q : Exit → Act → World → Prop} {α : Type}
/-- out[i] = x, a whole element of a row of one's own. -/
theorem R_fill (d : Kd α) {w0 W : World} {base : Nat} (e t : TypeId) {p x : Operand} (ho : o.op = .store t p x) (hN : o.dst = none) (hgd : o.guard = none) {g n cap o' : Nat} {done rest : List α} {z x' : α} {u : Value} {seg : List Value} {ok okp : Nat → Prop}
    (haddr : a.eval p = .pointer (some ⟨g, o', none⟩)) (hoff : o' = done.length * d.sz) (hx : a.eval x = u) (hu : u.cells.toList = seg) (ht : (P.info? t).map (·.size) = some d.sz)
    (HO : d.R e W base ok (.slice (some ⟨g, 0, none⟩) n cap) (done ++ z :: rest)) (hM : d.M W base okp x' seg) (hokp : ∀ k, okp k → ok k ∧ k ≠ g) (HB : Below base w0 W)
    (h : ∀ w1, d.R e w1 base ok (.slice (some ⟨g, 0, none⟩) n cap) (done ++ x' :: rest) → Below base w0 w1 → W.grownBy w1 (some g) → wpList P ops Q rest' a w1) : wpList P ops Q (o :: rest') a W := by
  have hn : n = (done ++ z :: rest).length := (Kd.R_reads' HO).1
  have hl : done.length < n := by rw [hn, List.length_append, List.length_cons]; omega
  obtain ⟨c, hcl, _, hcc, _⟩ := Kd.R_elem HO z done.length (by omega) (by omega)
  simp only [Int.toNat_natCast] at hcc
  have hsl : seg.length = d.sz := d.K_len (d.K_of_M hM)
  refine Kd.R_store d base hN hgd t p x ho e (done.length : Int) 0 _ x' u seg c ok okp haddr (by simpa using hoff) hx hu (by rw [hsl]; exact ht) (d.K_one (d.K_of_M hM)) HO (by omega) (by omega) hcl (by simpa using hcc) (by omega) (by simp [hsl, ← hcl]; exact hM) hokp HB ?_
  intro w1 h1 h2 h3
  refine h w1 ?_ h2 h3
  have : (done ++ z :: rest).set done.length x' = done ++ x' :: rest := by simp
  simpa [this] using h1
/-- []T{} -/
theorem R_empty (d : Kd α) (e : Nat) (W : World) {base : Nat} (hb : base ≤ W.heap.size) : d.R e (W.alloc (.cells #[] e)) base (fun _ => True) (.slice (some ⟨W.heap.size, 0, none⟩) 0 0) [] :=
  ⟨fun _ _ => trivial, [], by have := World.ownsRow_lit (base := base) (e := e) (size := d.sz) W #[] 0 hb (by simp [maxLen]) (by simp); simpa using this, Reps.none _ _⟩
theorem S_empty (d : Kd α) (e : Nat) (W : World) {base : Nat} (hb : base ≤ W.heap.size) : d.S e (W.alloc (.cells #[] e)) base (fun _ => True) (.slice (some ⟨W.heap.size, 0, none⟩) 0 0) [] := ⟨fun _ => 0, R_empty _ e W hb⟩
/-- out = append(out, x), x of plain cells. -/
theorem R_push (d : Kd α) {w0 W : World} {base : Nat} (t e : TypeId) {s x : Operand} {z : Value} {bytes : Nat} (ho : o.op = .call { callee := .builtin .append, args := #[s, x], argTypes := #[t, t] }) (hgd : o.guard = none)
    (ht : P.underlying t = some (.slice e)) (hinfo : (P.info? e).map (fun i => (i.zero, i.size, i.bytes)) = some (some z, d.sz, bytes)) (hz : z.cells.size = d.sz) (hs0 : 0 < d.sz) (hb0 : 0 < bytes)
    {v : Value} {xs : List α} (p : α) {cs : List Value} (hs : a.eval s = v) (hx : a.eval x = .slice (some ⟨W.heap.size, 0, none⟩) 1 1) (hp : d.M W base (fun _ => False) p cs)
    (HO : d.R e W base (fun _ => True) v xs) (HB : Below base w0 W) (hbase : base ≤ W.heap.size) (hl : (xs.length + 1) * bytes ≤ 140737488355328)
    (h : ∀ v1 w1, d.R e w1 base (fun _ => True) v1 (xs ++ [p]) → Below base w0 w1 → W.grownBy w1 v.ownBlock → wpList P ops Q rest' (a.put o.dst v1) w1) : wpList P ops Q (o :: rest') a (W.alloc (.cells cs.toArray e)) :=
  Kd.R_append d base hgd s x t e z bytes ho ht hinfo hz hs0 hb0 v xs p cs _ _ hs hx hp (fun _ hk => hk.elim) (fun _ _ => trivial) HO HB hbase hl (fun v1 w1 h1 h2 h3 _ => h v1 w1 h1 h2 h3)
/-- out[i].f = u: one field of an element. -/
theorem R_field (d : Kd α) {w0 W : World} {base : Nat} (e t : TypeId) {p x : Operand} (ho : o.op = .store t p x) (hN : o.dst = none) (hgd : o.guard = none) {g n cap o' : Nat} {done rest : List α} (j : Nat) {z : α} (x' : α) {u : Value} {ok : Nat → Prop}
    (haddr : a.eval p = .pointer (some ⟨g, o', none⟩)) (hoff : o' = done.length * d.sz + j) (hx : a.eval x = u) (hu : u.cells.toList = [u]) (ht : (P.info? t).map (·.size) = some 1) (h1 : u.oneCell' = true) (hj : j + 1 ≤ d.sz)
    (HO : d.R e W base ok (.slice (some ⟨g, 0, none⟩) n cap) (done ++ z :: rest)) (hM : ∀ ok' c, d.M W base ok' z c → d.M W base ok' x' (c.take j ++ [u] ++ c.drop (j + 1))) (HB : Below base w0 W)
    (h : ∀ w1, d.R e w1 base ok (.slice (some ⟨g, 0, none⟩) n cap) (done ++ x' :: rest) → Below base w0 w1 → W.grownBy w1 (some g) → wpList P ops Q rest' a w1) : wpList P ops Q (o :: rest') a W := by
  have hn : n = (done ++ z :: rest).length := (Kd.R_reads' HO).1
  have hl : done.length < n := by rw [hn, List.length_append, List.length_cons]; omega
  obtain ⟨c, hcl, hMc, hcc, _⟩ := Kd.R_elem HO z done.length (by omega) (by omega)
  have hz : (done ++ z :: rest).getD (done.length : Int).toNat z = z := by simp
  rw [hz] at hMc
  simp only [Int.toNat_natCast] at hcc
  refine Kd.R_store d base hN hgd t p x ho e (done.length : Int) j _ x' u [u] c ok (fun k => ok k ∧ k ≠ g) haddr (by simpa using hoff) hx hu ht (by simpa using h1) HO (by omega) (by omega) hcl (by simpa using hcc) hj (hM _ _ hMc) (fun _ hk => hk) HB ?_
  intro w1 h1 h2 h3
  refine h w1 ?_ h2 h3
  have : (done ++ z :: rest).set done.length x' = done ++ x' :: rest := by simp
  simpa [this] using h1
theorem S_field (d : Kd α) {w0 W : World} {base : Nat} (e t : TypeId) {p x : Operand} (ho : o.op = .store t p x) (hN : o.dst = none) (hgd : o.guard = none) {g n cap o' : Nat} {done rest : List α} (j : Nat) {z : α} (x' : α) {u : Value} {ok : Nat → Prop}
    (haddr : a.eval p = .pointer (some ⟨g, o', none⟩)) (hoff : o' = done.length * d.sz + j) (hx : a.eval x = u) (hu : u.cells.toList = [u]) (ht : (P.info? t).map (·.size) = some 1) (h1 : u.oneCell' = true) (hj : j + 1 ≤ d.sz)
    (HO : d.S e W base ok (.slice (some ⟨g, 0, none⟩) n cap) (done ++ z :: rest)) (hM : ∀ ok' c, d.M W base ok' z c → d.M W base ok' x' (c.take j ++ [u] ++ c.drop (j + 1))) (HB : Below base w0 W)
    (h : ∀ w1, d.S e w1 base ok (.slice (some ⟨g, 0, none⟩) n cap) (done ++ x' :: rest) → Below base w0 w1 → W.grownBy w1 (some g) → wpList P ops Q rest' a w1) : wpList P ops Q (o :: rest') a W := by
  obtain ⟨f, hR⟩ := HO
  have hz : ∀ q : α, (done ++ q :: rest).zipIdx = done.zipIdx ++ (q, done.length) :: rest.zipIdx (done.length + 1) := by
    intro q
    rw [List.zipIdx_append]
    simp [List.zipIdx_cons]
  rw [hz] at hR
  refine R_field (Kd.tag f d) e t ho hN hgd j (x', done.length) haddr (by rw [hoff, List.length_zipIdx]; rfl) hx hu ht h1 hj hR (fun ok' c hc => hM _ c hc) HB ?_
  intro w1 h1 h2 h3
  exact h w1 ⟨f, by rw [hz]; exact h1⟩ h2 h3
/-- The same, where the elements' own rows lie apart: what is new from N on becomes element x'. -/
theorem S_fill (d : Kd α) {w0 W : World} {base : Nat} (e t : TypeId) {p x : Operand} (ho : o.op = .store t p x) (hN : o.dst = none) (hgd : o.guard = none) {g n cap o' N : Nat} {done rest : List α} {z x' : α} {u : Value} {seg : List Value}
    (haddr : a.eval p = .pointer (some ⟨g, o', none⟩)) (hoff : o' = done.length * d.sz) (hx : a.eval x = u) (hu : u.cells.toList = seg) (ht : (P.info? t).map (·.size) = some d.sz)
    (HO : d.S e W base (fun k => True ∧ k < N) (.slice (some ⟨g, 0, none⟩) n cap) (done ++ z :: rest)) (hM : d.M W base (fun k => N ≤ k) x' seg) (HB : Below base w0 W)
    (h : ∀ w1, d.S e w1 base (fun _ => True) (.slice (some ⟨g, 0, none⟩) n cap) (done ++ x' :: rest) → Below base w0 w1 → W.grownBy w1 (some g) → wpList P ops Q rest' a w1) : wpList P ops Q (o :: rest') a W := by
  obtain ⟨f, hf, hR⟩ := Kd.S_tag HO done.length (fun k => N ≤ k) (fun k hk hk' => by have := hk'.2; omega)
  have hg : g < N := (hR.1 g (by simp [Value.ownBlock])).2
  have hz : ∀ q : α, (done ++ q :: rest).zipIdx = done.zipIdx ++ (q, done.length) :: rest.zipIdx (done.length + 1) := by
    intro q
    rw [List.zipIdx_append]
    simp [List.zipIdx_cons]
  rw [hz] at hR
  refine R_fill (Kd.tag f d) (x' := (x', done.length)) (seg := seg) (ok := fun _ => True) (okp := fun k => N ≤ k) e t ho hN hgd haddr (by rw [hoff, List.length_zipIdx]; rfl) hx hu ht (Kd.R_mono hR (fun _ _ => trivial)) (d.M_mono (fun k hk => ⟨hk, hf k hk⟩) hM) (fun k hk => ⟨trivial, by omega⟩) HB ?_
  intro w1 h1 h2 h3
  exact h w1 ⟨f, by rw [hz]; exact h1⟩ h2 h3
end
/-- An element lent: its cells, its blocks; put back when what was written lies in these. -/
theorem S_lendAt {α : Type} {d : Kd α} {e g n cap : Nat} {W : World} {base : Nat} {ok : Nat → Prop} {done rest : List α} {x : α} (h : d.S e W base ok (.slice (some ⟨g, 0, none⟩) n cap) (done ++ x :: rest)) :
    ∃ (oki : Nat → Prop) (c : List Value), c.length = d.sz ∧ d.M W base oki x c ∧ (∀ j u, c[j]? = some u → W.cell? ⟨g, done.length * d.sz + j, none⟩ = some u) ∧ (∀ k, oki k → ok k ∧ k ≠ g) ∧ (∀ w1 x', Kept W w1 oki → d.M w1 base oki x' c → d.S e w1 base ok (.slice (some ⟨g, 0, none⟩) n cap) (done ++ x' :: rest)) := by
  have hn : n = (done ++ x :: rest).length := (Kd.S_reads' h).1
  have hl : done.length < n := by rw [hn, List.length_append, List.length_cons]; omega
  obtain ⟨oki, c, hcl, hM, hcc, hoki, hH⟩ := Kd.S_lend h x done.length (by omega) (by omega)
  have hz : (done ++ x :: rest).getD (done.length : Int).toNat x = x := by simp
  rw [hz] at hM
  simp only [Int.toNat_natCast] at hcc
  refine ⟨oki, c, hcl, hM, hcc, hoki, fun w1 x' hk hM' => ?_⟩
  have := Kd.H_back (Kd.H_kept hH hk (fun k _ hn => hn)) hM' (fun _ hk => hk)
  have e1 : (done ++ x :: rest).set (done.length : Int).toNat x' = done ++ x' :: rest := by simp
  rwa [e1] at this
theorem apair_mk {α β : Type} {a : Kd α} {b : Kd β} {w : World} {base N : Nat} {ok : Nat → Prop} {x : α} {y : β} {c0 c1 : List Value} (h0 : a.M w base (fun k => ok k ∧ k < N) x c0) (h1 : b.M w base (fun k => ok k ∧ N ≤ k) y c1) : (K.apair a b).M w base ok (x, y) (c0 ++ c1) :=
  ⟨fun k => decide (k < N), c0, c1, rfl, a.M_mono (fun k hk => ⟨hk.1, by simpa using hk.2⟩) h0, b.M_mono (fun k hk => ⟨hk.1, by simpa using hk.2⟩) h1⟩
theorem S_some {α : Type} {d : Kd α} {e : Nat} {w : World} {base : Nat} {ok : Nat → Prop} {A : Option Addr} {n c : Nat} {done rest : List α} {x : α} (h : d.S e w base ok (.slice A n c) (done ++ x :: rest)) : ∃ g, A = some ⟨g, 0, none⟩ ∧ base ≤ g ∧ g < w.heap.size := R_some (Kd.S_R h)
/-- What a call made from its own begin on. -/
theorem M_from {α : Type} {d : Kd α} {w : World} {base N : Nat} {ok : Nat → Prop} {x : α} {cs : List Value} (h : d.M w N ok x cs) (hb : base ≤ N) : d.M w base (fun k => N ≤ k) x cs := d.M_lower hb (d.M_mono (fun k hk => hk.2.1) (d.M_bound h))
/-- Own rows of two spans: what is written in one is not in the other. -/
theorem R_span_kept {α : Type} {d : Kd α} {e a b c f base : Nat} {W W2 : World} {v : Value} {xs : List α} (h : d.R e W base (fun k => a ≤ k ∧ k < b) v xs) (hk : Kept W W2 (fun k => c ≤ k ∧ k < f)) (hd : b ≤ c ∨ f ≤ a) : d.R e W2 base (fun k => a ≤ k ∧ k < b) v xs :=
  Kd.R_kept h hk (fun k h1 h2 => by have a1 := h1.1; have a2 := h1.2; have a3 := h2.1; have a4 := h2.2; omega)
theorem S_span_kept {α : Type} {d : Kd α} {e a b c f base : Nat} {W W2 : World} {v : Value} {xs : List α} (h : d.S e W base (fun k => a ≤ k ∧ k < b) v xs) (hk : Kept W W2 (fun k => c ≤ k ∧ k < f)) (hd : b ≤ c ∨ f ≤ a) : d.S e W2 base (fun k => a ≤ k ∧ k < b) v xs :=
  Kd.S_kept h hk (fun k h1 h2 => by have a1 := h1.1; have a2 := h1.2; have a3 := h2.1; have a4 := h2.2; omega)
end Go.Proofs.Ytmjkjlifhlemlaa.Base
