/- A strings.Builder that the call has made: its contracts in the words of this proof; the table of the powers of ten; Itoa. -/
import Derived.Test.YtnllocghmnhooaaDoorBf
import Derived.Test.YtnllocghmnhooaaDoorSh
import Derived.Shelf.Strings.BuilderK
import Derived.Lib.ItoaMem
import Derived.Lib.ItoaLen
namespace Go.Proofs.YtnllocghmnhooaaDoor
open Go.RowKit
set_option linter.unusedVariables false
namespace Bk

/-- the table that the digits are counted by -/
def Tab (w : World) : Prop := Lib.TabIs Tryd.prog w "internal/strconv.uint64pow10" .u64 Lib.pow10Tab
theorem Tab.alloc {w : World} (h : Tab w) (o : Obj) : Tab (w.alloc o) := Lib.tabIs_alloc h o
theorem Tab.below {w w' : World} {B : Nat} (h : Tab w) (hb : Below B w w') (hB : w.heap.size ≤ B) : Tab w' := by
  unfold Tab Lib.TabIs World.var? at *
  cases hg : (Tryd.prog).globalNamed "internal/strconv.uint64pow10" with
  | none => simp [hg] at h
  | some g =>
    simp only [hg, Option.bind_some] at h ⊢
    have hlt : g < w.heap.size := by
      rcases Nat.lt_or_ge g w.heap.size with h' | h'
      · exact h'
      · rw [Array.getElem?_eq_none h'] at h; simp at h
    rw [hb.block g (by omega)]
    exact h
theorem Tab.bel {w w' : World} (h : Tab w) (hb : Below w.heap.size w w') : Tab w' := h.below hb (Nat.le_refl _)
theorem itoa_len (n : Int) (h0 : -9223372036854775808 ≤ n) (h1 : n ≤ 9223372036854775807) : (Lib.itoa n).length ≤ 21 := Lib.itoa_length_le n h0 h1
theorem itoa_f (n : Int) (h0 : -9223372036854775808 ≤ n) (h1 : n ≤ 9223372036854775807) (w : World) (ht : Tab w) :
    Calls Tryd.prog 80 #[.int .i64 n] w fun e w' => e = .returned (.string (ofL (Lib.itoa n))) ∧ Below w.heap.size w w' :=
  (Tryd.strconv_Itoa n h0 h1 w ht).mono fun e w' ⟨p1, k, os, p2⟩ => ⟨p1, by
    rw [p2]
    exact ⟨rfl, rfl, rfl, by simp [Sort.grow], fun j hj => Sort.heap_grow_old _ os hj⟩⟩

/-- the builder in block b, of the call's own from block B on, holds the bytes l -/
def Bld (V : World) (B b : Nat) (l : List UInt8) : Prop := Lib.IsBuilderF 76 5 B b (Lib.byteCells l) V
theorem Bld.new (V : World) {B : Nat} (hB : B ≤ V.heap.size) : Bld (V.alloc (.cells #[.pointer none, .slice none 0 0] 76)) B V.heap.size [] :=
  .inl ⟨hB, .slice none 0 0, heap_alloc_new V _, World.ownsRowF_of (World.ownsRow_nil _ _ _ _), by simp [Value.ownBlock]⟩
theorem Bld.lt {V : World} {B b : Nat} {l : List UInt8} (h : Bld V B b l) : b < V.heap.size := h.elim (fun x => x.lt) (fun x => x.lt)
theorem Bld.base {V : World} {B b : Nat} {l : List UInt8} (h : Bld V B b l) : B ≤ b := h.elim (fun x => x.1) (fun x => x.1)
theorem Bld.alloc {V : World} {B b : Nat} {l : List UInt8} (h : Bld V B b l) (o : Obj) : Bld (V.alloc o) B b l := Lib.IsBuilderF.alloc h o
theorem bldAt_below {T e : TypeId} {B b : Nat} {p : Value} {bs : List Value} {W W' : World} (h : Lib.BuilderAtF T e B b p bs W) (hb : Below W.heap.size W W') : Lib.BuilderAtF T e B b p bs W' := by
  have hlt := h.lt
  obtain ⟨hB, v, h1, h2, h3⟩ := h
  exact ⟨hB, v, (hb.block b hlt).trans h1, h2.kept (row := none) ⟨hb.os, hb.tape, hb.output, hb.size, fun k hk _ => hb.block k hk⟩ (Classical.em _), h3⟩
theorem Bld.below {V V' : World} {B b : Nat} {l : List UInt8} (h : Bld V B b l) (hb : Below V.heap.size V V') : Bld V' B b l := h.elim (fun x => .inl (bldAt_below x hb)) (fun x => .inr (bldAt_below x hb))
theorem bc_len (l : List UInt8) : (Lib.byteCells l).length = l.length := by simp [Lib.byteCells]
theorem bc_app (a b : List UInt8) : Lib.byteCells (a ++ b) = Lib.byteCells a ++ Lib.byteCells b := by simp [Lib.byteCells]
/-- blocks that are neither the builder nor bytes stay -/
def Kept (b : Nat) (V V' : World) : Prop := Lib.OthersKept 5 (some b) V V'
def WrPost (V : World) (B b : Nat) (l : List UInt8) (r : Value) (e : Ending) (V' : World) : Prop := e = .returned r ∧ Bld V' B b l ∧ Below B V V' ∧ Kept b V V'
theorem own_kept {W W' : World} {base b n : Nat} {v : Value} {xs : List Value} (h : W.ownsRow base 3 1 v n xs) (hk : Kept b W W') (hb : b < base) : W'.ownsRow base 3 1 v n xs := by
  refine ⟨h.1, ?_⟩
  rcases h.2 with h2 | ⟨g, cap, cur, hv, hbg, hg, r⟩
  · exact .inl h2
  · exact .inr ⟨g, cap, cur, hv, hbg, hk g _ hg (by simp; omega) (fun c fz e => by injection e with _ e _; simp at e), r⟩
theorem wstr {V : World} {B b : Nat} {l : List UInt8} (h : Bld V B b l) (hl : l.length ≤ 100000000) (hB : B ≤ V.heap.size) (s : ByteArray) (hs : s.size ≤ 100000000) :
    Calls Tryd.prog 50 #[.pointer (some ⟨b, 0, none⟩), .string s] V (WrPost V B b (l ++ bl s) (.tuple #[.int .i64 (s.size : Int), .nilIface])) :=
  (Any.Builder_WriteString_k Tryd.laysB166 Tryd.Builder_Extra_B B b (Lib.byteCells l) s V h (by rw [bc_len]; omega) hB).mono fun e V' ⟨h1, h2, h3, h4⟩ =>
    ⟨h1, .inr (by rw [bc_app]; exact h2), h3, h4⟩
theorem bstring {V : World} {B b : Nat} {l : List UInt8} (h : Bld V B b l) (hB : B ≤ V.heap.size) :
    Calls Tryd.prog 53 #[.pointer (some ⟨b, 0, none⟩)] V (WrPost V B b l (.string (ofL l))) :=
  (Any.Builder_String_any_k Tryd.laysB169 Tryd.Builder_Extra_B B b l V h hB).mono fun e V' ⟨h1, h2, h3, h4⟩ => ⟨h1, h2, h3, h4⟩

end Bk
end Go.Proofs.YtnllocghmnhooaaDoor
