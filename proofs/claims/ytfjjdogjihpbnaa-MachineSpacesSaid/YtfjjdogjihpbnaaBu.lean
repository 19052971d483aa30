/- A strings.Builder that the call has made: its contracts in the words of this proof; strings.Contains of one byte. -/
import Derived.Test.YtfjjdogjihpbnaaOc
import Derived.Test.YtfjjdogjihpbnaaSh
import Derived.Shelf.Strings.BuilderK
import Derived.Lib.IndexAny
namespace Go.Proofs.Ytfjjdogjihpbnaa
open Go.RowKit
set_option linter.unusedVariables false
namespace Mc

/-- the builder in block b, of the call's own from block B on, holds the bytes l -/
def Bld (V : World) (B b : Nat) (l : List UInt8) : Prop := Lib.IsBuilderF 43 5 B b (Lib.byteCells l) V
theorem Bld.new (V : World) {B : Nat} (hB : B ≤ V.heap.size) : Bld (V.alloc (.cells #[.pointer none, .slice none 0 0] 43)) B V.heap.size [] :=
  .inl ⟨hB, .slice none 0 0, heap_alloc_new V _, World.ownsRowF_of (World.ownsRow_nil _ _ _ _), by simp [Value.ownBlock]⟩
theorem Bld.lt {V : World} {B b : Nat} {l : List UInt8} (h : Bld V B b l) : b < V.heap.size := h.elim (fun x => x.lt) (fun x => x.lt)
theorem Bld.base {V : World} {B b : Nat} {l : List UInt8} (h : Bld V B b l) : B ≤ b := h.elim (fun x => x.1) (fun x => x.1)
theorem Bld.alloc {V : World} {B b : Nat} {l : List UInt8} (h : Bld V B b l) (o : Obj) : Bld (V.alloc o) B b l := Lib.IsBuilderF.alloc h o
theorem bldAt_below {T e : TypeId} {B b : Nat} {p : Value} {bs : List Value} {W W' : World} (h : Lib.BuilderAtF T e B b p bs W) (hb : Below W.heap.size W W') : Lib.BuilderAtF T e B b p bs W' := by
  have hlt := h.lt
  obtain ⟨hB, v, h1, h2, h3⟩ := h
  exact ⟨hB, v, (hb.block b hlt).trans h1, h2.kept (row := none) ⟨hb.os, hb.tape, hb.output, hb.size, fun k hk _ => hb.block k hk⟩ (Classical.em _), h3⟩
theorem Bld.below {V V' : World} {B b : Nat} {l : List UInt8} (h : Bld V B b l) (hb : Below V.heap.size V V') : Bld V' B b l := h.elim (fun x => .inl (bldAt_below x hb)) (fun x => .inr (bldAt_below x hb))
/-- blocks that are neither the builder nor bytes stay -/
def Kept (b : Nat) (V V' : World) : Prop := Lib.OthersKept 5 (some b) V V'
theorem Oc.kept {B : Nat} {V V' : World} {g b : Nat} {O : ByteArray} {er n : Int} (h : Oc B V g O er n) (hg : g ≠ b) (hk : Kept b V V') : Oc B V' g O er n :=
  ⟨h.1, hk g _ h.2 (by simpa using hg) (fun c fz e => by injection e with _ e _; simp at e)⟩
theorem bc_len (l : List UInt8) : (Lib.byteCells l).length = l.length := by simp [Lib.byteCells]
theorem bc_app (a b : List UInt8) : Lib.byteCells (a ++ b) = Lib.byteCells a ++ Lib.byteCells b := by simp [Lib.byteCells]

def WrPost (V : World) (B b : Nat) (l : List UInt8) (r : Value) (e : Ending) (V' : World) : Prop := e = .returned r ∧ Bld V' B b l ∧ Below B V V' ∧ Kept b V V'
theorem wbyte {V : World} {B b : Nat} {l : List UInt8} (h : Bld V B b l) (hl : l.length ≤ 1000000) (hB : B ≤ V.heap.size) (c : UInt8) :
    Calls Try.prog 14 #[.pointer (some ⟨b, 0, none⟩), .int .u8 (c.toNat : Int)] V (WrPost V B b (l ++ [c]) .nilIface) :=
  (Any.Builder_WriteByte_k Try.laysB167 Try.Builder_Extra_B B b (Lib.byteCells l) (c.toNat : Int) V h (by rw [bc_len]; omega) hB).mono fun e V' ⟨h1, h2, h3, h4⟩ =>
    ⟨h1, .inr (by rw [bc_app]; exact h2), h3, h4⟩
theorem wstr {V : World} {B b : Nat} {l : List UInt8} (h : Bld V B b l) (hl : l.length ≤ 1000000) (hB : B ≤ V.heap.size) (s : ByteArray) (hs : s.size ≤ 1000000) :
    Calls Try.prog 15 #[.pointer (some ⟨b, 0, none⟩), .string s] V (WrPost V B b (l ++ bl s) (.tuple #[.int .i64 (s.size : Int), .nilIface])) :=
  (Any.Builder_WriteString_k Try.laysB166 Try.Builder_Extra_B B b (Lib.byteCells l) s V h (by rw [bc_len]; omega) hB).mono fun e V' ⟨h1, h2, h3, h4⟩ =>
    ⟨h1, .inr (by rw [bc_app]; exact h2), h3, h4⟩
theorem bstring {V : World} {B b : Nat} {l : List UInt8} (h : Bld V B b l) (hB : B ≤ V.heap.size) :
    Calls Try.prog 16 #[.pointer (some ⟨b, 0, none⟩)] V (WrPost V B b l (.string (ofL l))) :=
  (Any.Builder_String_any_k Try.laysB169 Try.Builder_Extra_B B b l V h hB).mono fun e V' ⟨h1, h2, h3, h4⟩ => ⟨h1, h2, h3, h4⟩

theorem has_one (V : World) (s : ByteArray) (c : UInt8) {r : Bool} (hr : (bl s).contains c = r) :
    Calls Try.prog 13 #[.string s, .string ⟨#[c]⟩] V fun e V' => e = .returned (.bool r) ∧ V = V' :=
  (Try.strings_Contains_one s c V).mono fun e V' ⟨h1, h2⟩ => ⟨by rw [h1, ← hr, Lib.contains_iff_indexByte]; rfl, h2.symm⟩
theorem has_yes (V : World) (s : ByteArray) (c : UInt8) (h : c ∈ bl s) : Calls Try.prog 13 #[.string s, .string ⟨#[c]⟩] V fun e V' => e = .returned (.bool true) ∧ V = V' := has_one V s c (by simpa using h)
theorem has_no (V : World) (s : ByteArray) (c : UInt8) (h : ¬ c ∈ bl s) : Calls Try.prog 13 #[.string s, .string ⟨#[c]⟩] V fun e V' => e = .returned (.bool false) ∧ V = V' := has_one V s c (by simpa using h)

end Mc
end Go.Proofs.Ytfjjdogjihpbnaa
