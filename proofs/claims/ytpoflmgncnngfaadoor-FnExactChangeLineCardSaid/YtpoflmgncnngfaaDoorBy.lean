/- A row of bytes of one's own, read as a text. -/
import Derived.Test.YtpoflmgncnngfaaDoorBase
set_option linter.unusedVariables false
set_option linter.unusedSimpArgs false
namespace Go.Proofs.YtpoflmgncnngfaaDoor.Base
open Go.RowKit Go.Proofs.YtpoflmgncnngfaaDoorW.PrintWords Go.Proofs.YtpoflmgncnngfaaDoorW.PrintLast
/-- v is a row of bytes of the call's own (from block base on) that reads s -/
def BytesR (e : TypeId) (w : World) (base : Nat) (v : Value) (s : ByteArray) : Prop := w.ownsRow base e 1 v (bytesOf s).length (nums .u8 (bytesOf s))
theorem bytesOf_append (s t : ByteArray) : bytesOf (s ++ t) = bytesOf s ++ bytesOf t := by unfold bytesOf; simp
theorem bytesOf_one (b : UInt8) : bytesOf ⟨#[b]⟩ = [(b.toNat : Int)] := rfl
theorem BytesR.below {e : TypeId} {w w1 : World} {base : Nat} {v : Value} {s : ByteArray} (h : BytesR e w base v s) (hb : Below w.heap.size w w1) : BytesR e w1 base v s := pw_own_below h hb
theorem BytesR.empty (e : TypeId) (W : World) {base : Nat} (hb : base ≤ W.heap.size) : BytesR e (W.alloc (.cells #[] e)) base (.slice (some ⟨W.heap.size, 0, none⟩) 0 0) ⟨#[]⟩ := by
  have := World.ownsRow_lit (base := base) (e := e) (size := 1) W #[] 0 hb (by simp [maxLen]) (by simp)
  simpa [BytesR, bytesOf, nums] using this
theorem BytesR.nil (e : TypeId) (W : World) (base : Nat) : BytesR e W base (.slice none 0 0) ⟨#[]⟩ := own_nil _ _ _ _
theorem BytesR.string {P : Program} {e src dst : TypeId} {w : World} {base : Nat} {v : Value} {s : ByteArray} (h : BytesR e w base v s) (hs : P.underlying src = some (.slice e)) (he : P.underlying e = some (.int .u8)) (hd : P.underlying dst = some .string) :
    (convert src dst v).run P w = .ok (.string s) w := by
  have h1 := own_string hs he hd h
  rw [h1]
  have : strOfNums (bytesOf s) = s := by
    unfold strOfNums bytesOf
    apply ByteArray.ext
    apply Array.toList_inj.1
    simp only [List.map_map]
    have : ((fun n : Int => UInt8.ofNat n.toNat) ∘ fun b : UInt8 => (b.toNat : Int)) = id := funext fun b => by simp
    rw [this, List.map_id]
  rw [this]
theorem BytesR.len {e : TypeId} {w : World} {base : Nat} {v : Value} {s : ByteArray} (h : BytesR e w base v s) : ∃ A c, v = .slice A s.size c := by
  obtain ⟨A, c, hv⟩ := own_slice h
  exact ⟨A, c, by rw [hv, bytesOf_length]⟩
section
variable {P : Program} {ops : Array Oper} {rest : List Oper} {o : Oper} {a : Act} {Q : Exit → Act → World → Prop}
theorem B_push {w0 W : World} {base : Nat} (t e : TypeId) {s x : Operand} (ho : o.op = .call { callee := .builtin .append, args := #[s, x], argTypes := #[t, t] }) (hgd : o.guard = none)
    (ht : P.underlying t = some (.slice e)) (hinfo : (P.info? e).map (fun i => (i.zero, i.size, i.bytes)) = some (some (.int .u8 0), 1, 1)) {v : Value} {y : ByteArray} (b : UInt8)
    (hs : a.eval s = v) (hx : a.eval x = .slice (some ⟨W.heap.size, 0, none⟩) 1 1) (HO : BytesR e W base v y) (HB : Below base w0 W) (hbase : base ≤ W.heap.size) (hl : y.size + 1 ≤ 140737488355328)
    (h : ∀ v1 w1, BytesR e w1 base v1 (y ++ ⟨#[b]⟩) → Below base w0 w1 → wpList P ops Q rest (a.put o.dst v1) w1) : wpList P ops Q (o :: rest) a (W.alloc (.cells #[.int .u8 b.toNat] e)) :=
  print_append_num base hgd s x t e .u8 1 ho ht hinfo (by decide) v (bytesOf y) b.toNat hs hx HO HB hbase (by rw [bytesOf_length]; omega) (fun v1 w1 h1 h2 _ _ => h v1 w1 (by unfold BytesR; rw [bytesOf_append]; exact h1) h2)
theorem B_str {w0 W : World} {base : Nat} (t u e : TypeId) {s x : Operand} (ho : o.op = .call { callee := .builtin .append, args := #[s, x], argTypes := #[t, u] }) (hgd : o.guard = none)
    (ht : P.underlying t = some (.slice e)) (hu : P.underlying u = some .string) (hinfo : (P.info? e).map (fun i => (i.zero, i.size, i.bytes)) = some (some (.int .u8 0), 1, 1)) {v : Value} {y z : ByteArray}
    (hs : a.eval s = v) (hx : a.eval x = .string z) (HO : BytesR e W base v y) (HB : Below base w0 W) (hbase : base ≤ W.heap.size) (hl : y.size + z.size ≤ 140737488355328)
    (h : ∀ v1 w1, BytesR e w1 base v1 (y ++ z) → Below base w0 w1 → wpList P ops Q rest (a.put o.dst v1) w1) : wpList P ops Q (o :: rest) a W :=
  print_append_str base hgd s x t u e ho ht hu hinfo v (bytesOf y) z hs hx HO HB hbase (by rw [bytesOf_length]; omega) (fun v1 w1 h1 h2 _ => h v1 w1 (by unfold BytesR; rw [bytesOf_append]; exact h1) h2)
end
end Go.Proofs.YtpoflmgncnngfaaDoor.Base
