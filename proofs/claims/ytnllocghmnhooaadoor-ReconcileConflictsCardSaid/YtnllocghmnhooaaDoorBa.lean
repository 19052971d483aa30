/- BLAKE2s: words and rotations, of the program's library and of the reference. -/
import Derived.Test.YtnllocghmnhooaaDoorRows
import Derived.Test.YtnllocghmnhooaaDoorBase
namespace Go.Proofs.YtnllocghmnhooaaDoor
open Go.RowKit
set_option linter.unusedVariables false
namespace Bk

/-- a word of 32 bits -/
def W (x : Int) : Prop := 0 ≤ x ∧ x < 4294967296
theorem W.wf {x : Int} (h : W x) : 0 ≤ x ∧ x ≤ 4294967295 := ⟨h.1, by have := h.2; omega⟩
theorem w_mod (x : Int) : W (x % 4294967296) := by unfold W; omega
theorem wrap32 (n : Int) : IntKind.u32.wrap n = n % 4294967296 := by simp [IntKind.wrap, IntKind.bits, IntKind.signed]
def xr (a b : Int) : Int := bits .xor .u32 a b
def orr (a b : Int) : Int := bits .or .u32 a b
theorem ofInt_nat (a : Nat) (ha : a < 4294967296) : (BitVec.ofInt 32 (a : Int)).toNat = a := by
  rw [BitVec.ofInt_natCast, BitVec.toNat_ofNat]; exact Nat.mod_eq_of_lt (by omega)
theorem xr_nat (a b : Nat) (ha : a < 4294967296) (hb : b < 4294967296) : xr (a : Int) (b : Int) = ((a ^^^ b : Nat) : Int) := by
  have hx : a ^^^ b < 2 ^ 32 := Nat.xor_lt_two_pow (by omega) (by omega)
  show IntKind.u32.wrap ((BitVec.ofInt 32 (a : Int) ^^^ BitVec.ofInt 32 (b : Int)).toNat : Int) = _
  rw [BitVec.toNat_xor, ofInt_nat a ha, ofInt_nat b hb, wrap32]
  omega
theorem orr_nat (a b : Nat) (ha : a < 4294967296) (hb : b < 4294967296) : orr (a : Int) (b : Int) = ((a ||| b : Nat) : Int) := by
  have hx : a ||| b < 2 ^ 32 := Nat.or_lt_two_pow (by omega) (by omega)
  show IntKind.u32.wrap ((BitVec.ofInt 32 (a : Int) ||| BitVec.ofInt 32 (b : Int)).toNat : Int) = _
  rw [BitVec.toNat_or, ofInt_nat a ha, ofInt_nat b hb, wrap32]
  omega
theorem w_xr (a b : Int) : W (xr a b) := by
  show W (IntKind.u32.wrap _)
  rw [wrap32]; exact w_mod _
theorem w_orr (a b : Int) : W (orr a b) := by
  show W (IntKind.u32.wrap _)
  rw [wrap32]; exact w_mod _
theorem W.nat {x : Int} (h : W x) : ∃ n : Nat, x = (n : Int) ∧ n < 4294967296 := ⟨x.toNat, by have := h.1; omega, by have := h.2; have := h.1; omega⟩
theorem orr_comm {a b : Int} (ha : W a) (hb : W b) : orr a b = orr b a := by
  obtain ⟨n, rfl, hn⟩ := ha.nat
  obtain ⟨m, rfl, hm⟩ := hb.nat
  rw [orr_nat n m hn hm, orr_nat m n hm hn, Nat.or_comm]
/-- to the right by r places, round -/
def rr (r : Nat) (x : Int) : Int := orr (x / 2 ^ r) (x * 2 ^ (32 - r) % 4294967296)
theorem w_rr (r : Nat) (x : Int) : W (rr r x) := w_orr _ _
theorem rr_l {x : Int} (hx : W x) {r : Nat} (p q : Int) (hp : x / 2 ^ r = p) (hq : x * 2 ^ (32 - r) % 4294967296 = q) (wp : W p) (wq : W q) : bits .or .u32 q p = rr r x := by
  show orr q p = orr _ _
  rw [hp, hq, orr_comm wq wp]

set_option maxRecDepth 100000 in
theorem rot16 (x : Int) (hx : W x) (w : World) : Calls Tryd.prog 95 #[.int .u32 x, .int .i64 (-16)] w fun e w' => e = .returned (.int .u32 (rr 16 x)) ∧ w' = w := by
  have h1 : bits BinOp.and IntKind.u64 (IntKind.u64.wrap (-16)) 31 = 16 := by kernel_rfl
  have h2 := hx.1
  have h3 := hx.2
  have HX := Lib.hid hx
  clear hx
  go_enter Tryd.func95, Tryd.ntmps95
  go_wp2_with fail
  go_ret
  exact ⟨congrArg (fun z => Ending.returned (Value.int .u32 z)) (rr_l (r := 16) HX.out _ _ rfl rfl (by unfold W; omega) (w_mod _)), rfl⟩
set_option maxRecDepth 100000 in
theorem rot12 (x : Int) (hx : W x) (w : World) : Calls Tryd.prog 95 #[.int .u32 x, .int .i64 (-12)] w fun e w' => e = .returned (.int .u32 (rr 12 x)) ∧ w' = w := by
  have h1 : bits BinOp.and IntKind.u64 (IntKind.u64.wrap (-12)) 31 = 20 := by kernel_rfl
  have h2 := hx.1
  have h3 := hx.2
  have HX := Lib.hid hx
  clear hx
  go_enter Tryd.func95, Tryd.ntmps95
  go_wp2_with fail
  go_ret
  exact ⟨congrArg (fun z => Ending.returned (Value.int .u32 z)) (rr_l (r := 12) HX.out _ _ rfl rfl (by unfold W; omega) (w_mod _)), rfl⟩
set_option maxRecDepth 100000 in
theorem rot8 (x : Int) (hx : W x) (w : World) : Calls Tryd.prog 95 #[.int .u32 x, .int .i64 (-8)] w fun e w' => e = .returned (.int .u32 (rr 8 x)) ∧ w' = w := by
  have h1 : bits BinOp.and IntKind.u64 (IntKind.u64.wrap (-8)) 31 = 24 := by kernel_rfl
  have h2 := hx.1
  have h3 := hx.2
  have HX := Lib.hid hx
  clear hx
  go_enter Tryd.func95, Tryd.ntmps95
  go_wp2_with fail
  go_ret
  exact ⟨congrArg (fun z => Ending.returned (Value.int .u32 z)) (rr_l (r := 8) HX.out _ _ rfl rfl (by unfold W; omega) (w_mod _)), rfl⟩
set_option maxRecDepth 100000 in
theorem rot7 (x : Int) (hx : W x) (w : World) : Calls Tryd.prog 95 #[.int .u32 x, .int .i64 (-7)] w fun e w' => e = .returned (.int .u32 (rr 7 x)) ∧ w' = w := by
  have h1 : bits BinOp.and IntKind.u64 (IntKind.u64.wrap (-7)) 31 = 25 := by kernel_rfl
  have h2 := hx.1
  have h3 := hx.2
  have HX := Lib.hid hx
  clear hx
  go_enter Tryd.func95, Tryd.ntmps95
  go_wp2_with fail
  go_ret
  exact ⟨congrArg (fun z => Ending.returned (Value.int .u32 z)) (rr_l (r := 7) HX.out _ _ rfl rfl (by unfold W; omega) (w_mod _)), rfl⟩
set_option maxRecDepth 100000 in
theorem rrot (x : Int) (r : Nat) (hx : W x) (hr : r < 32) (w : World) : Calls Tryd.prog 93 #[.int .u32 x, .int .u64 (r : Int)] w fun e w' => e = .returned (.int .u32 (rr r x)) ∧ w' = w := by
  have h2 := hx.1
  have h3 := hx.2
  have HX := Lib.hid hx
  clear hx
  go_enter Tryd.func93, Tryd.ntmps93
  go_wp2_with fail
  go_ret
  exact ⟨rfl, rfl⟩

/-- one mixing of four words with two words of the message -/
def G (a b c d x y : Int) : Int × Int × Int × Int :=
  let a1 := (a + (b + x) % 4294967296) % 4294967296
  let d1 := rr 16 (xr d a1)
  let c1 := (c + d1) % 4294967296
  let b1 := rr 12 (xr b c1)
  let a2 := (a1 + (b1 + y) % 4294967296) % 4294967296
  let d2 := rr 8 (xr d1 a2)
  let c2 := (c1 + d2) % 4294967296
  let b2 := rr 7 (xr b1 c2)
  (a2, b2, c2, d2)
def put4 (l : List Int) (a b c d : Nat) (r : Int × Int × Int × Int) : List Int := (((l.set a r.1).set b r.2.1).set c r.2.2.1).set d r.2.2.2
def Gm (l : List Int) (a b c d : Nat) (x y : Int) : List Int := put4 l a b c d (G (l.getD a 0) (l.getD b 0) (l.getD c 0) (l.getD d 0) x y)
theorem Gm_len (l : List Int) (a b c d : Nat) (x y : Int) : (Gm l a b c d x y).length = l.length := by simp [Gm, put4]
def Ws (l : List Int) : Prop := ∀ x ∈ l, W x
theorem Ws.at_ {l : List Int} (h : Ws l) (k : Nat) : W (l.getD k 0) := by
  rcases Nat.lt_or_ge k l.length with hk | hk
  · rw [List.getD_eq_getElem?_getD, List.getElem?_eq_getElem hk]; exact h _ (List.getElem_mem hk)
  · rw [List.getD_eq_getElem?_getD, List.getElem?_eq_none hk]; exact ⟨by simp, by simp⟩
theorem Ws.set {l : List Int} (h : Ws l) (k : Nat) {x : Int} (hx : W x) : Ws (l.set k x) := by
  intro y hy
  rcases List.mem_or_eq_of_mem_set hy with h1 | h1
  · exact h y h1
  · rw [h1]; exact hx
theorem Gm_ws {l : List Int} (h : Ws l) (a b c d : Nat) (x y : Int) : Ws (Gm l a b c d x y) :=
  (((h.set a (w_mod _)).set b (w_rr _ _)).set c (w_mod _)).set d (w_rr _ _)
/-- words as cells -/
def U (x : Int) : Value := .int .u32 x
def iw (l : List Int) : Array Value := (l.map U).toArray
theorem iw_at {l : List Int} {k : Nat} (h : k < l.length) : (iw l)[k]? = some (.int .u32 (l.getD k 0)) := by
  unfold iw
  simp [List.getD, List.getElem?_eq_getElem h]
  rfl
theorem iw_set (l : List Int) (k : Nat) (x : Int) : (iw l).setIfInBounds k (.int .u32 x) = iw (l.set k x) := by
  unfold iw
  rw [List.setIfInBounds_toArray]
  show ((List.map U l).set k (U x)).toArray = _
  rw [← List.map_set]
theorem iw_size (l : List Int) : (iw l).size = l.length := by simp [iw]

end Bk
end Go.Proofs.YtnllocghmnhooaaDoor
