/- Blocks that hold an outcome; a region of three operations that may come up in any order; Run of one text and of two. -/
import Derived.Test.YtfjjdogjihpbnaaDoorMr
import Derived.Test.YtfjjdogjihpbnaaDoorOx
namespace Go.Proofs.YtfjjdogjihpbnaaDoor
section
variable {P : Program} {md : Region.Mode} {ops : Array Oper} {Q : Exit → Act → World → Prop} {S : World → Prop} {st : Nat}
theorem wpAnyX_three {i j k : Nat} {o o' o'' : Oper} {fuel : Nat} {listed : Array Bool} {a : Act} {w : World} (hr : Region.ready md ops listed = [i, j, k]) (ho : ops[i]? = some o) (ho' : ops[j]? = some o') (ho'' : ops[k]? = some o'')
    (h : ∀ K : Act → World → Prop, Shut (∀ a w, ((listed.setIfInBounds i true).getD st false = false → S w) → wpAnyX P md ops Q S st fuel (listed.setIfInBounds i true) a w → K a w) → if Region.wanted o (yielded ops a.tmps) = true then Oper.wp P o a w K Q else K (a.put o.dst undef) w)
    (h' : ∀ K : Act → World → Prop, Shut (∀ a w, ((listed.setIfInBounds j true).getD st false = false → S w) → wpAnyX P md ops Q S st fuel (listed.setIfInBounds j true) a w → K a w) → if Region.wanted o' (yielded ops a.tmps) = true then Oper.wp P o' a w K Q else K (a.put o'.dst undef) w)
    (h'' : ∀ K : Act → World → Prop, Shut (∀ a w, ((listed.setIfInBounds k true).getD st false = false → S w) → wpAnyX P md ops Q S st fuel (listed.setIfInBounds k true) a w → K a w) → if Region.wanted o'' (yielded ops a.tmps) = true then Oper.wp P o'' a w K Q else K (a.put o''.dst undef) w) :
    wpAnyX P md ops Q S st (fuel + 1) listed a w :=
  ⟨fun h0 => (by rw [hr] at h0; cases h0), fun l hl => by
    rw [hr] at hl
    rcases List.mem_cons.1 hl with rfl | hl
    · exact wpOp_step ho (fun K hK => h K (fun a w hS hW => hK a w ⟨hS, hW⟩))
    rcases List.mem_cons.1 hl with rfl | hl
    · exact wpOp_step ho' (fun K hK => h' K (fun a w hS hW => hK a w ⟨hS, hW⟩))
    · rw [List.mem_singleton] at hl
      subst hl
      exact wpOp_step ho'' (fun K hK => h'' K (fun a w hS hW => hK a w ⟨hS, hW⟩))⟩
end
namespace Mc
open Go.RowKit

/-- a block of an outcome that a call of ours has made -/
def Oc (B : Nat) (V : World) (g : Nat) (O : ByteArray) (er n : Int) : Prop := B ≤ g ∧ Blk V g 26 #[.string O, .int .i64 er, .int .i64 n]
theorem Oc.fresh {B : Nat} {V : World} (h : B ≤ V.heap.size) : Oc B (V.alloc (.cells #[.string ⟨#[]⟩, .int .i64 0, .int .i64 0] 26)) V.heap.size ⟨#[]⟩ 0 0 := ⟨h, Blk.new _ _ _⟩
theorem Oc.alloc {B : Nat} {V : World} {g : Nat} {O : ByteArray} {er n : Int} (h : Oc B V g O er n) (o : Obj) : Oc B (V.alloc o) g O er n := ⟨h.1, h.2.alloc o⟩
theorem Oc.below {B : Nat} {V V' : World} {g : Nat} {O : ByteArray} {er n : Int} (h : Oc B V g O er n) (hb : Below V.heap.size V V') : Oc B V' g O er n := ⟨h.1, h.2.below hb⟩
theorem Oc.set {B : Nat} {V : World} {g : Nat} {O : ByteArray} {er n : Int} (h : Oc B V g O er n) (O' : ByteArray) (er' n' : Int) : Oc B (((V.setCell ⟨g, 0, none⟩ (.string O')).setCell ⟨g, 1, none⟩ (.int .i64 er')).setCell ⟨g, 2, none⟩ (.int .i64 n')) g O' er' n' :=
  ⟨h.1, ((h.2.set_ 0 _).set_ 1 _).set_ 2 _⟩
theorem Oc.far {B : Nat} {V : World} {g g' : Nat} {O : ByteArray} {er n : Int} (h : Oc B V g O er n) (hg : g ≠ g') (u1 u2 u3 : Value) : Oc B (((V.setCell ⟨g', 0, none⟩ u1).setCell ⟨g', 1, none⟩ u2).setCell ⟨g', 2, none⟩ u3) g O er n :=
  ⟨h.1, ((h.2.far hg _).far hg _).far hg _⟩
theorem below_set {B : Nat} {W V : World} {g : Nat} (h : Below B W V) (hg : B ≤ g) (u1 u2 u3 : Value) : Below B W (((V.setCell ⟨g, 0, none⟩ u1).setCell ⟨g, 1, none⟩ u2).setCell ⟨g, 2, none⟩ u3) :=
  ((h.setCell (by exact hg) _).setCell (by exact hg) _).setCell (by exact hg) _

theorem txs_two {W : World} {g : Nat} {a b : Int} {c d : ByteArray} (h : Blk W g 30 #[.int .i64 a, .string c, .int .i64 b, .string d]) : Txs W (some ⟨g, 0, none⟩) 2 2 [(a, c), (b, d)] :=
  Blk.sl (n := 2) (size := 2) h rfl (by unfold maxLen; omega)
theorem ilim {a : Int} (h0 : -100000 ≤ a) (h1 : a ≤ 100000) : IntKind.i64.min ≤ a ∧ a ≤ IntKind.i64.max :=
  ⟨by rw [show IntKind.i64.min = -9223372036854775808 from rfl]; omega, by rw [show IntKind.i64.max = 9223372036854775807 from rfl]; omega⟩
theorem run_t1 {V : World} {g : Nat} {a at_ steps : Int} {c : ByteArray} (h : Blk V g 30 #[.int .i64 a, .string c]) (hc : c.size ≤ 10000) (ha : 0 ≤ a ∧ a ≤ 100000) (hat : 0 ≤ at_ ∧ at_ ≤ 100000) (hst : 0 ≤ steps ∧ steps ≤ 100000) {Ai : Option Addr} {ni ci : Nat} {input : List Int} (hi : Sl V 1 Ai ni ci (iv input)) (hiw : ∀ x ∈ input, W32 x)
    {O : List UInt8} {er k : Int} (hr : Mc.runT [(a, c)] at_ input steps = (O, er, k)) :
    Calls Tryd.prog 7 #[.slice (some ⟨g, 0, none⟩) 1 1, .int .i64 at_, .slice Ai ni ci, .int .i64 steps] V (Outs V (ofL O) er k) :=
  outs_of (mrun_f V _ 1 1 [(a, c)] (txs_one h) (fun t ht => by
    rw [List.mem_singleton] at ht
    subst ht
    exact ⟨ilim (by omega) (by omega), (by unfold maxLen; omega : c.size ≤ maxLen)⟩) at_ (ilim (by omega) (by omega)) Ai ni ci input hi hiw steps (ilim (by omega) (by omega))) (by rw [hr, bl_ofL])
theorem run_t2 {V : World} {g : Nat} {a b at_ steps : Int} {c d : ByteArray} (h : Blk V g 30 #[.int .i64 a, .string c, .int .i64 b, .string d]) (hc : c.size ≤ 10000) (hd : d.size ≤ 10000) (ha : 0 ≤ a ∧ a ≤ 100000) (hb : 0 ≤ b ∧ b ≤ 100000) (hat : 0 ≤ at_ ∧ at_ ≤ 100000) (hst : 0 ≤ steps ∧ steps ≤ 100000) {Ai : Option Addr} {ni ci : Nat} {input : List Int} (hi : Sl V 1 Ai ni ci (iv input)) (hiw : ∀ x ∈ input, W32 x)
    {O : List UInt8} {er k : Int} (hr : Mc.runT [(a, c), (b, d)] at_ input steps = (O, er, k)) :
    Calls Tryd.prog 7 #[.slice (some ⟨g, 0, none⟩) 2 2, .int .i64 at_, .slice Ai ni ci, .int .i64 steps] V (Outs V (ofL O) er k) :=
  outs_of (mrun_f V _ 2 2 [(a, c), (b, d)] (txs_two h) (fun t ht => by
    rcases List.mem_cons.1 ht with rfl | ht
    · exact ⟨ilim (by omega) (by omega), (by unfold maxLen; omega : c.size ≤ maxLen)⟩
    · rw [List.mem_singleton] at ht
      subst ht
      exact ⟨ilim (by omega) (by omega), (by unfold maxLen; omega : d.size ≤ maxLen)⟩) at_ (ilim (by omega) (by omega)) Ai ni ci input hi hiw steps (ilim (by omega) (by omega))) (by rw [hr, bl_ofL])
theorem place_n (a : Int) (l : Nat) (hl : l ≤ 300) : ∃ N : Nat, (wrap64 (wrap64 (a.tmod ((l : Int) + 1) + (l : Int)) + 1)).tmod ((l : Int) + 1) = (N : Int) ∧ N ≤ l := by
  have h1 := Int.lt_tmod_of_pos a (b := (l : Int) + 1) (by omega)
  have h2 := Int.tmod_lt_of_pos a (b := (l : Int) + 1) (by omega)
  rw [IntWalk.wrap64_in (a.tmod ((l : Int) + 1) + (l : Int)) (by omega), IntWalk.wrap64_in _ (by omega)]
  have h3 := Int.tmod_nonneg (a := a.tmod ((l : Int) + 1) + (l : Int) + 1) ((l : Int) + 1) (by omega)
  have h4 := Int.tmod_lt_of_pos (a.tmod ((l : Int) + 1) + (l : Int) + 1) (b := (l : Int) + 1) (by omega)
  exact ⟨((a.tmod ((l : Int) + 1) + (l : Int) + 1).tmod ((l : Int) + 1)).toNat, by omega, by omega⟩
theorem place_b (b : Int) : ∃ B : Nat, (wrap64 (b.tmod 1000 + 1000)).tmod 1000 = (B : Int) ∧ B ≤ 999 := by
  have h1 := Int.lt_tmod_of_pos b (b := 1000) (by omega)
  have h2 := Int.tmod_lt_of_pos b (b := 1000) (by omega)
  rw [IntWalk.wrap64_in _ (by omega)]
  have h3 := Int.tmod_nonneg (a := b.tmod 1000 + 1000) 1000 (by omega)
  have h4 := Int.tmod_lt_of_pos (b.tmod 1000 + 1000) (b := 1000) (by omega)
  exact ⟨((b.tmod 1000 + 1000).tmod 1000).toNat, by omega, by omega⟩

end Mc
end Go.Proofs.YtfjjdogjihpbnaaDoor
