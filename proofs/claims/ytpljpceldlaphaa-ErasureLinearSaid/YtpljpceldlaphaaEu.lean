/- Plain laws: the spare blocks of the exclusive or of two stripes. -/
import Derived.Test.YtpljpceldlaphaaEt
import Derived.Test.YtpljpceldlaphaaOx
namespace Go.Proofs.Ytpljpceldlaphaa
open Go.RowKit
open Gf (ga gm)

theorem xorL_len (a b : List UInt8) (h : a.length = b.length) : (xorL a b).length = a.length := by unfold xorL; rw [List.length_zipWith, h, Nat.min_self]
theorem xorL_getD {a b : List UInt8} (h : a.length = b.length) (i : Nat) : (xorL a b).getD i 0 = ga (a.getD i 0) (b.getD i 0) := by
  by_cases hi : i < a.length
  · have hi' : i < b.length := by omega
    have hx : i < (xorL a b).length := by rw [xorL_len a b h]; exact hi
    rw [getD_lt hi, getD_lt hi', getD_lt hx]
    exact List.getElem_zipWith
  · rw [getD_ge (l := a) (by omega), getD_ge (l := b) (by omega), getD_ge (by rw [xorL_len a b h]; omega), ga_zero]
/-- the exclusive or of two lists of strings -/
def xorS (X Y : List ByteArray) : List ByteArray := List.zipWith (fun s t => ofL (xorL (bl s) (bl t))) X Y
theorem xorS_len (X Y : List ByteArray) (h : X.length = Y.length) : (xorS X Y).length = X.length := by unfold xorS; rw [List.length_zipWith, h, Nat.min_self]
theorem xorS_at {X Y : List ByteArray} {i : Nat} (h : i < X.length) (h' : i < Y.length) (hx : i < (xorS X Y).length) : (xorS X Y)[i] = ofL (xorL (bl X[i]) (bl Y[i])) := List.getElem_zipWith
theorem blkB_xor {X Y : List ByteArray} {k : Nat} (hl : X.length = Y.length) (hx : ∀ s ∈ X, s.size = k) (hy : ∀ s ∈ Y, s.size = k) (xs : List UInt8) (x : UInt8) (i : Nat) :
    ∀ m, blkB xs ((xorS X Y).map bl) x i m = ga (blkB xs (X.map bl) x i m) (blkB xs (Y.map bl) x i m)
  | 0 => (ga_zero 0).symm
  | m + 1 => by
    show ga _ _ = ga (ga _ _) (ga _ _)
    have hb : (((xorS X Y).map bl).getD m []).getD i 0 = ga (((X.map bl).getD m []).getD i 0) (((Y.map bl).getD m []).getD i 0) := by
      by_cases hm : m < X.length
      · have hm' : m < Y.length := by omega
        have hms : m < (xorS X Y).length := by rw [xorS_len X Y hl]; exact hm
        rw [map_getD_bl _ _ hm, map_getD_bl _ _ hm', map_getD_bl _ _ hms]
        simp only [List.getD, List.getElem?_eq_getElem hm, List.getElem?_eq_getElem hm', List.getElem?_eq_getElem hms, Option.getD_some]
        rw [xorS_at hm hm', bl_ofL]
        exact xorL_getD (by rw [bl_length, bl_length, hx _ (List.getElem_mem hm), hy _ (List.getElem_mem hm')]) i
      · have hms : ¬ m < (xorS X Y).length := by rw [xorS_len X Y hl]; exact hm
        simp only [List.getD, List.getElem?_map, List.getElem?_eq_none (show (xorS X Y).length ≤ m by omega), List.getElem?_eq_none (show X.length ≤ m by omega), List.getElem?_eq_none (show Y.length ≤ m by omega), Option.map_none, Option.getD_none, List.getElem?_nil]
        exact (ga_zero 0).symm
    rw [hb, blkB_xor hl hx hy xs x i m, gm_ga, ga_assoc, ga_assoc, ga_left_comm (blkB xs (Y.map bl) x i m)]
theorem spr_xor {X Y : List ByteArray} {k : Nat} (hl : X.length = Y.length) (h0 : 0 < X.length) (hx : ∀ s ∈ X, s.size = k) (hy : ∀ s ∈ Y, s.size = k) (i : Nat) : spr (xorS X Y) i = ofL (xorL (bl (spr X i)) (bl (spr Y i))) := by
  unfold spr
  rw [bl_ofL, bl_ofL, xorS_len X Y hl, ← hl]
  congr 1
  have h0' : 0 < Y.length := by omega
  have hs : 0 < (xorS X Y).length := by rw [xorS_len X Y hl]; exact h0
  have e1 : ((X.map bl).getD 0 []).length = k := by rw [map_getD_bl _ _ h0, bl_length]; simp only [List.getD, List.getElem?_eq_getElem h0, Option.getD_some]; exact hx _ (List.getElem_mem h0)
  have e2 : ((Y.map bl).getD 0 []).length = k := by rw [map_getD_bl _ _ h0', bl_length]; simp only [List.getD, List.getElem?_eq_getElem h0', Option.getD_some]; exact hy _ (List.getElem_mem h0')
  have e3 : (((xorS X Y).map bl).getD 0 []).length = k := by
    rw [map_getD_bl _ _ hs, bl_length]
    simp only [List.getD, List.getElem?_eq_getElem hs, Option.getD_some]
    rw [xorS_at h0 h0', ← bl_length, bl_ofL, xorL_len _ _ (by rw [bl_length, bl_length, hx _ (List.getElem_mem h0), hy _ (List.getElem_mem h0')]), bl_length, hx _ (List.getElem_mem h0)]
  refine List.ext_getElem (by rw [blk_len, xorL_len _ _ (by rw [blk_len, blk_len, e1, e2]), blk_len, e1, e3]) fun j h1 h2 => ?_
  have hj : j < k := by rw [blk_len, e3] at h1; exact h1
  have h3 := blk_at (xs := idx X.length) (bs := (xorS X Y).map bl) (x := UInt8.ofNat (X.length + i)) (i := j) (by rw [e3]; exact hj)
  rw [getD_lt h1] at h3
  rw [h3, blkB_xor hl hx hy]
  have h4 := xorL_getD (a := blk (idx X.length) (X.map bl) (UInt8.ofNat (X.length + i))) (b := blk (idx X.length) (Y.map bl) (UInt8.ofNat (X.length + i))) (by rw [blk_len, blk_len, e1, e2]) j
  rw [getD_lt h2] at h4
  rw [h4, blk_at (by rw [e1]; exact hj), blk_at (by rw [e2]; exact hj)]

/-! the first i strings cut to k bytes -/
def trL (l : List ByteArray) (k i : Nat) : List ByteArray := (l.take i).map (fun s => s.extract 0 k) ++ l.drop i
theorem trL_len (l : List ByteArray) (k : Nat) {i : Nat} (h : i ≤ l.length) : (trL l k i).length = l.length := by
  unfold trL; rw [List.length_append, List.length_map, List.length_take, List.length_drop]; omega
theorem trL_at {l : List ByteArray} {k i : Nat} (h : i < l.length) (h' : i < (trL l k i).length) : (trL l k i)[i] = l[i] := by
  have h2 : (trL l k i)[i]? = some l[i] := by
    unfold trL
    have e : (List.map (fun s : ByteArray => s.extract 0 k) (List.take i l)).length = i := by rw [List.length_map, List.length_take]; omega
    rw [List.getElem?_append_right (by rw [e]; exact Nat.le_refl _), e, Nat.sub_self, List.getElem?_drop, Nat.add_zero, List.getElem?_eq_getElem h]
  exact Option.some.inj ((List.getElem?_eq_getElem h').symm.trans h2)
theorem trL_set {l : List ByteArray} {k i : Nat} (h : i < l.length) : (trL l k i).set i (l[i].extract 0 k) = trL l k (i + 1) := by
  unfold trL
  rw [List.set_append_right _ _ (by rw [List.length_map, List.length_take]; omega), List.take_succ_eq_append_getElem h, List.map_append, List.append_assoc]
  congr 1
  rw [List.length_map, List.length_take, Nat.min_eq_left (by omega), Nat.sub_self, List.drop_eq_getElem_cons h]
  rfl
theorem trL_zero (l : List ByteArray) (k : Nat) : trL l k 0 = l := by simp [trL]
/-- what is left of them -/
def cutL (l : List ByteArray) (k i : Nat) : List ByteArray := (l.take i).map fun s => s.extract 0 k
theorem trL_take (l : List ByteArray) (k : Nat) {i : Nat} (h : i ≤ l.length) : (trL l k i).take i = cutL l k i := by
  unfold trL cutL
  rw [List.take_append_of_le_length (by simp; omega), List.take_of_length_le (by rw [List.length_map, List.length_take]; omega)]
theorem cutL_len (l : List ByteArray) (k : Nat) {i : Nat} (h : i ≤ l.length) : (cutL l k i).length = i := by unfold cutL; rw [List.length_map, List.length_take]; omega
theorem cutL_size {l : List ByteArray} {k i : Nat} (h : ∀ s ∈ l, k ≤ s.size) : ∀ s ∈ cutL l k i, s.size = k := fun s hs => by
  unfold cutL at hs
  obtain ⟨t, ht, rfl⟩ := List.mem_map.1 hs
  exact size_extract' _ (h t (List.mem_of_mem_take ht))
theorem cutL_succ {l : List ByteArray} {k i : Nat} (h : i < l.length) : cutL l k (i + 1) = cutL l k i ++ [l[i].extract 0 k] := by
  unfold cutL
  rw [List.take_succ_eq_append_getElem h, List.map_append]
  rfl
theorem xorS_snoc {X Y : List ByteArray} {s t : ByteArray} (h : X.length = Y.length) : xorS (X ++ [s]) (Y ++ [t]) = xorS X Y ++ [ofL (xorL (bl s) (bl t))] := by
  unfold xorS
  rw [List.zipWith_append h]
  rfl
theorem enc_even {X : List ByteArray} {k : Nat} (h0 : 0 < X.length) (h8 : X.length ≤ 8) (hk : ∀ s ∈ X, s.size = k) {sp : Nat} (hsp : sp ≤ 7) : encE X (sp : Int) = 0 ∧ encB X (sp : Int) = sprs X sp := by
  have hu : X.any (unev X) = false := any_false fun s hs => by
    unfold unev
    have h1 : X.getD 0 default ∈ X := by rw [List.getD, List.getElem?_eq_getElem h0]; exact List.getElem_mem h0
    rw [hk s hs, hk _ h1]
    simp
  have h1 : encE X (sp : Int) = 0 := by
    unfold encE
    rw [if_neg (by omega), hu]
    rfl
  refine ⟨h1, ?_⟩
  unfold encB
  rw [if_pos h1, Int.toNat_natCast]

end Go.Proofs.Ytpljpceldlaphaa
