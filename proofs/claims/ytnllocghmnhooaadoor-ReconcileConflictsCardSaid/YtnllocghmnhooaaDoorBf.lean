/- BLAKE2s in plain Lean: the digest of a list of bytes. -/
import Derived.Test.YtnllocghmnhooaaDoorBc
import Derived.Lib.ItoaNum
namespace Go.Proofs.YtnllocghmnhooaaDoor
open Go.RowKit
set_option linter.unusedVariables false
namespace Bk

def bl (s : ByteArray) : List UInt8 := s.data.toList
theorem bl_len (s : ByteArray) : (bl s).length = s.size := by simp [bl]
theorem bl_ofL (l : List UInt8) : bl (ofL l) = l := by simp [ofL, bl]
theorem ofL_bl (s : ByteArray) : ofL (bl s) = s := by simp [ofL, bl]
theorem bl_app (a b : ByteArray) : bl (a ++ b) = bl a ++ bl b := by simp [bl, ByteArray.data_append]
def byte (x : Int) : UInt8 := UInt8.ofNat (x % 256).toNat
theorem byte_nat (x : Int) : ((byte x).toNat : Int) = x % 256 := by
  unfold byte
  rw [UInt8.toNat_ofNat', Nat.mod_eq_of_lt (by omega)]
  omega
/-- the first words of a digest of 32 bytes without a key -/
def hst : List Int := iv.set 0 (xr (iv.getD 0 0) 16842784)
theorem hst_len : hst.length = 8 := rfl
theorem hst_ws : Ws hst := iv_ws.set 0 (w_xr _ _)
/-- the words behind all whole blocks but the last -/
def dig (l : List UInt8) (h : List Int) (n : Nat) : List Int :=
  if 64 < l.length then dig (l.drop 64) (comp h (l.take 64) ((n + 64 : Nat) : Int) false) (n + 64)
  else comp h (l ++ List.replicate (64 - l.length) 0) ((n + l.length : Nat) : Int) true
termination_by l.length
decreasing_by rw [List.length_drop]; omega
theorem dig_more {l : List UInt8} (hl : 64 < l.length) (h : List Int) (n : Nat) : dig l h n = dig (l.drop 64) (comp h (l.take 64) ((n + 64 : Nat) : Int) false) (n + 64) := by
  rw [dig, if_pos hl]
theorem dig_last {l : List UInt8} (hl : ¬ 64 < l.length) (h : List Int) (n : Nat) : dig l h n = comp h (l ++ List.replicate (64 - l.length) 0) ((n + l.length : Nat) : Int) true := by
  rw [dig, if_neg hl]
theorem dig_len (l : List UInt8) : ∀ (h : List Int) (n : Nat), (dig l h n).length = h.length := by
  induction hk : l.length using Nat.strongRecOn generalizing l with
  | _ k ih =>
    intro h n
    by_cases hl : 64 < l.length
    · rw [dig_more hl, ih (l.drop 64).length (by rw [List.length_drop]; omega) (l.drop 64) rfl, comp_len]
    · rw [dig_last hl, comp_len]
theorem dig_ws (l : List UInt8) : ∀ (h : List Int) (n : Nat), Ws h → Ws (dig l h n) := by
  induction hk : l.length using Nat.strongRecOn generalizing l with
  | _ k ih =>
    intro h n hh
    by_cases hl : 64 < l.length
    · rw [dig_more hl]; exact ih (l.drop 64).length (by rw [List.length_drop]; omega) (l.drop 64) rfl _ _ (comp_ws hh _ _ _)
    · rw [dig_last hl]; exact comp_ws hh _ _ _
def outw (x : Int) : List UInt8 := [byte x, byte (x / 256), byte (x / 65536), byte (x / 16777216)]
def outs (h : List Int) : List UInt8 := h.flatMap outw
theorem outs_len (h : List Int) : (outs h).length = 4 * h.length := by
  induction h with
  | nil => rfl
  | cons x l ih =>
    show (outw x ++ outs l).length = _
    rw [List.length_append, ih]
    simp [outw]; omega
theorem outs_take {h : List Int} {k : Nat} (hk : k < h.length) : outs (h.take (k + 1)) = outs (h.take k) ++ outw (h.getD k 0) := by
  unfold outs
  rw [List.take_succ_eq_append_getElem hk, List.flatMap_append]
  simp [List.getD, List.getElem?_eq_getElem hk]
/-- the digest -/
def blake (l : List UInt8) : List UInt8 := outs (dig l hst 0)
theorem blake_len (l : List UInt8) : (blake l).length = 32 := by
  unfold blake
  rw [outs_len, dig_len]; rfl

/-! netstrings -/
def nstr (s : List UInt8) : List UInt8 := Lib.itoa (s.length : Int) ++ [58] ++ s ++ [44]
def nstrs (l : List (List UInt8)) : List UInt8 := l.flatMap nstr
def num (n : Int) : List UInt8 := Lib.itoa n ++ [32]
theorem nstrs_take {l : List (List UInt8)} {k : Nat} (hk : k < l.length) : nstrs (l.take (k + 1)) = nstrs (l.take k) ++ nstr (l.getD k []) := by
  unfold nstrs
  rw [List.take_succ_eq_append_getElem hk, List.flatMap_append]
  simp [List.getD, List.getElem?_eq_getElem hk]
/-- the hash of a list of strings -/
def H (l : List (List UInt8)) : List UInt8 := (blake (nstrs l)).take 16
theorem H_len (l : List (List UInt8)) : (H l).length = 16 := by
  unfold H
  rw [List.length_take, blake_len]; rfl

end Bk
end Go.Proofs.YtnllocghmnhooaaDoor
