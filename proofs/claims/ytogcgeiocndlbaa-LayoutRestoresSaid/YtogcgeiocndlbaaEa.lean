/- Plain laws of the erasure code: weights, blocks, stripes. No program in sight. -/
import Derived.Test.YtogcgeiocndlbaaPn
namespace Go.Proofs.Ytogcgeiocndlbaa
open Gf

theorem inv_gm (a b : UInt8) : inv (gm a b) = gm (inv a) (inv b) := by
  by_cases ha : a = 0
  · subst ha; rw [zero_gm, inv_zero, zero_gm]
  · by_cases hb : b = 0
    · subst hb; rw [gm_zero, inv_zero, gm_zero]
    · refine (inv_unique ?_).symm
      rw [gm_assoc, gm_left_comm b, gm_inv hb, gm_one, gm_inv ha]
theorem inv_one : inv 1 = 1 := (inv_unique (by rw [gm_one])).symm

/-! weights -/
/-- the two products of the program's weight after m points -/
def wab (xs : List UInt8) (k : Nat) (x : UInt8) : Nat → UInt8 × UInt8
  | 0 => (1, 1)
  | m + 1 => if m = k then wab xs k x m else (gm (wab xs k x m).1 (ga x (xs.getD m 0)), gm (wab xs k x m).2 (ga (xs.getD k 0) (xs.getD m 0)))
def wgt (xs : List UInt8) (k : Nat) (x : UInt8) : UInt8 := gm (wab xs k x xs.length).1 (inv (wab xs k x xs.length).2)
/-- the reference's weight after m points -/
def rwt (xs : List UInt8) (k : Nat) (x : UInt8) : Nat → UInt8
  | 0 => 1
  | m + 1 => if m = k then rwt xs k x m else gm (rwt xs k x m) (gm (ga x (xs.getD m 0)) (inv (ga (xs.getD k 0) (xs.getD m 0))))
theorem wab_skip {xs : List UInt8} {k : Nat} {x : UInt8} {m : Nat} (h : m = k) : wab xs k x (m + 1) = wab xs k x m := by
  show (if m = k then _ else _) = _
  rw [if_pos h]
theorem wab_step {xs : List UInt8} {k : Nat} {x : UInt8} {m : Nat} (hm : m < xs.length) (hk : k < xs.length) (h : m ≠ k) : wab xs k x (m + 1) = (gm (wab xs k x m).1 (ga x xs[m]), gm (wab xs k x m).2 (ga xs[k] xs[m])) := by
  show (if m = k then _ else _) = _
  rw [if_neg h, getD_lt hm, getD_lt hk]
theorem rwt_skip {xs : List UInt8} {k : Nat} {x : UInt8} {m : Nat} (h : m = k) : rwt xs k x (m + 1) = rwt xs k x m := by
  show (if m = k then _ else _) = _
  rw [if_pos h]
theorem rwt_step {xs : List UInt8} {k : Nat} {x : UInt8} {m : Nat} (hm : m < xs.length) (hk : k < xs.length) (h : m ≠ k) : rwt xs k x (m + 1) = gm (rwt xs k x m) (gm (ga x xs[m]) (inv (ga xs[k] xs[m]))) := by
  show (if m = k then _ else _) = _
  rw [if_neg h, getD_lt hm, getD_lt hk]
theorem rwt_wab (xs : List UInt8) (k : Nat) (x : UInt8) : ∀ m, rwt xs k x m = gm (wab xs k x m).1 (inv (wab xs k x m).2)
  | 0 => by show (1 : UInt8) = gm 1 (inv 1); rw [inv_one, gm_one]
  | m + 1 => by
    unfold rwt wab
    by_cases h : m = k
    · rw [if_pos h, if_pos h]; exact rwt_wab xs k x m
    · rw [if_neg h, if_neg h, rwt_wab xs k x m]
      show _ = gm (gm (wab xs k x m).1 (ga x (xs.getD m 0))) (inv (gm (wab xs k x m).2 (ga (xs.getD k 0) (xs.getD m 0))))
      rw [inv_gm, gm_assoc, gm_assoc, gm_left_comm (inv _) (ga x _)]
theorem rwt_wgt (xs : List UInt8) (k : Nat) (x : UInt8) : rwt xs k x xs.length = wgt xs k x := rwt_wab xs k x _

/-! blocks -/
/-- byte i of the block at x after k blocks -/
def blkB (xs : List UInt8) (bs : List (List UInt8)) (x : UInt8) (i : Nat) : Nat → UInt8
  | 0 => 0
  | k + 1 => ga (blkB xs bs x i k) (gm (wgt xs k x) ((bs.getD k []).getD i 0))
/-- the block at x -/
def blk (xs : List UInt8) (bs : List (List UInt8)) (x : UInt8) : List UInt8 := (List.range (bs.getD 0 []).length).map fun i => blkB xs bs x i xs.length
/-- the row after k blocks and i bytes of the next one -/
def rowS (xs : List UInt8) (bs : List (List UInt8)) (x : UInt8) (L k i : Nat) : List UInt8 := (List.range L).map fun j => blkB xs bs x j (if j < i then k + 1 else k)
theorem rowS_len (xs : List UInt8) (bs : List (List UInt8)) (x : UInt8) (L k i : Nat) : (rowS xs bs x L k i).length = L := by simp [rowS]
theorem rowS_start (xs : List UInt8) (bs : List (List UInt8)) (x : UInt8) (L : Nat) : rowS xs bs x L 0 0 = List.replicate L 0 := by
  unfold rowS
  refine List.ext_getElem (by simp) fun j h1 h2 => ?_
  simp [blkB]
theorem rowS_next (xs : List UInt8) (bs : List (List UInt8)) (x : UInt8) (L k : Nat) : rowS xs bs x L k L = rowS xs bs x L (k + 1) 0 := by
  unfold rowS
  refine List.ext_getElem (by simp) fun j h1 h2 => ?_
  have hj : j < L := by simpa using h1
  simp [hj]
theorem rowS_at {xs : List UInt8} {bs : List (List UInt8)} {x : UInt8} {L k i : Nat} (h : i < (rowS xs bs x L k i).length) : (rowS xs bs x L k i)[i] = blkB xs bs x i k := by
  simp only [rowS, List.getElem_map, List.getElem_range]
  rw [if_neg (Nat.lt_irrefl i)]
theorem rowS_set (xs : List UInt8) (bs : List (List UInt8)) (x : UInt8) {L k i : Nat} (v : UInt8) (hv : v = ga (blkB xs bs x i k) (gm (wgt xs k x) ((bs.getD k []).getD i 0))) :
    (rowS xs bs x L k i).set i v = rowS xs bs x L k (i + 1) := by
  subst hv
  refine List.ext_getElem (by simp [rowS_len]) fun j h1 h2 => ?_
  have hj : j < L := by rw [rowS_len] at h2; exact h2
  rw [List.getElem_set]
  simp only [rowS, List.getElem_map, List.getElem_range]
  by_cases h : i = j
  · subst h
    rw [if_pos rfl, if_pos (by omega)]
    rfl
  · rw [if_neg h]
    by_cases h2 : j < i
    · rw [if_pos h2, if_pos (by omega)]
    · rw [if_neg h2, if_neg (by omega)]
theorem rowS_end (xs : List UInt8) (bs : List (List UInt8)) (x : UInt8) : rowS xs bs x (bs.getD 0 []).length xs.length 0 = blk xs bs x := by
  unfold rowS blk
  simp
theorem blk_len (xs : List UInt8) (bs : List (List UInt8)) (x : UInt8) : (blk xs bs x).length = (bs.getD 0 []).length := by simp [blk]
theorem blk_at {xs : List UInt8} {bs : List (List UInt8)} {x : UInt8} {i : Nat} (h : i < (bs.getD 0 []).length) : (blk xs bs x).getD i 0 = blkB xs bs x i xs.length := by
  rw [getD_lt (by rw [blk_len]; exact h)]
  simp [blk]

/-! values of polynomials -/
/-- the bytes of the blocks at one offset -/
def col (bs : List (List UInt8)) (i : Nat) : List UInt8 := bs.map fun b => b.getD i 0
theorem col_getD (bs : List (List UInt8)) (i k : Nat) : (col bs i).getD k 0 = (bs.getD k []).getD i 0 := by
  unfold col
  simp only [List.getD, List.getElem?_map]
  cases bs[k]? <;> simp
theorem gm4 (i r y a : UInt8) : gm i (gm (gm r y) a) = gm (gm r (gm a i)) y := by
  rw [gm_assoc r y a, gm_assoc r (gm a i) y, gm_left_comm i r, gm_comm y a, gm_left_comm i a, gm_assoc a i y]
theorem hor_lgT (xs ys : List UInt8) (k : Nat) (x : UInt8) : ∀ m, hor x (lgT xs ys k m) = gm (rwt xs k x m) (ys.getD k 0)
  | 0 => by show hor x (trim [ys.getD k 0]) = gm 1 _; rw [hor_trim, hor_single, one_gm]
  | m + 1 => by
    unfold lgT rwt
    by_cases h : m = k
    · rw [if_pos h, if_pos h]; exact hor_lgT xs ys k x m
    · rw [if_neg h, if_neg h, hor_pscale, hor_pmul, hor_lin, hor_lgT xs ys k x m, gm4]
theorem hor_lgS (xs : List UInt8) (bs : List (List UInt8)) (i : Nat) (x : UInt8) : ∀ m, hor x (lgS xs (col bs i) m) = blkB xs bs x i m
  | 0 => rfl
  | m + 1 => by
    unfold lgS blkB
    rw [hor_padd, hor_lgS xs bs i x m, hor_lgT, rwt_wgt, col_getD]
/-- the polynomial of the bytes at one offset -/
def pol (xs : List UInt8) (bs : List (List UInt8)) (i : Nat) : List UInt8 := lgS xs (col bs i) xs.length
theorem pol_canon (xs : List UInt8) (bs : List (List UInt8)) (i : Nat) : Canon (pol xs bs i) := lgS_canon _ _ _
theorem pol_len (xs : List UInt8) (bs : List (List UInt8)) (i : Nat) : (pol xs bs i).length ≤ xs.length := lgS_len _ _ _ (Nat.le_refl _)
theorem pol_blk (xs : List UInt8) (bs : List (List UInt8)) (x : UInt8) (i : Nat) : hor x (pol xs bs i) = blkB xs bs x i xs.length := hor_lgS xs bs i x _
theorem pol_val {xs : List UInt8} (hd : xs.Nodup) (bs : List (List UInt8)) (i : Nat) {j : Nat} (hj : j < xs.length) : hor (xs.getD j 0) (pol xs bs i) = (bs.getD j []).getD i 0 := by
  unfold pol
  rw [lgS_val hd hj _ (Nat.le_refl _), if_pos hj, col_getD]

/-- two sets of blocks that lie on polynomials p i of no more than n coefficients give the same block everywhere -/
theorem blk_on {xs : List UInt8} {bs : List (List UInt8)} (hd : xs.Nodup) (p : Nat → List UInt8) (hc : ∀ i, Canon (p i)) (hl : ∀ i, (p i).length ≤ xs.length)
    (hv : ∀ j, j < xs.length → ∀ i, i < (bs.getD 0 []).length → (bs.getD j []).getD i 0 = hor (xs.getD j 0) (p i)) (x : UInt8) : blk xs bs x = (List.range (bs.getD 0 []).length).map fun i => hor x (p i) := by
  unfold blk
  refine List.map_congr_left fun i hi => ?_
  rw [← pol_blk]
  congr 1
  refine interp_unique hd (pol_canon _ _ _) (hc i) (pol_len _ _ _) (hl i) fun y hy => ?_
  obtain ⟨j, hj, rfl⟩ := mem_getD hy
  rw [pol_val hd bs i hj, hv j hj i (List.mem_range.1 hi)]
theorem blk_self {xs : List UInt8} {bs : List (List UInt8)} (hd : xs.Nodup) {j : Nat} (hj : j < xs.length) (hl : (bs.getD j []).length = (bs.getD 0 []).length) : blk xs bs (xs.getD j 0) = bs.getD j [] := by
  refine List.ext_getElem (by rw [blk_len, hl]) fun i h1 h2 => ?_
  have hi : i < (bs.getD 0 []).length := by rw [← hl]; exact h2
  have h3 := blk_at (xs := xs) (bs := bs) (x := xs.getD j 0) hi
  rw [getD_lt h1] at h3
  rw [h3, ← pol_blk, pol_val hd bs i hj, getD_lt h2]

/-! a stripe -/
/-- the elements 0 to n - 1 -/
def idx (n : Nat) : List UInt8 := (List.range n).map UInt8.ofNat
theorem idx_len (n : Nat) : (idx n).length = n := by simp [idx]
theorem idx_at {n j : Nat} (h : j < n) : (idx n).getD j 0 = UInt8.ofNat j := by rw [getD_lt (by rw [idx_len]; exact h)]; simp [idx]
theorem ofNat_inj {a b : Nat} (ha : a < 256) (hb : b < 256) (h : UInt8.ofNat a = UInt8.ofNat b) : a = b := by
  have := congrArg UInt8.toNat h
  rwa [UInt8.toNat_ofNat', UInt8.toNat_ofNat', Nat.mod_eq_of_lt ha, Nat.mod_eq_of_lt hb] at this
theorem idx_nodup {n : Nat} (hn : n ≤ 256) : (idx n).Nodup := by
  refine List.nodup_iff_pairwise_ne.2 ?_ |> id
  unfold idx
  rw [List.pairwise_map]
  refine List.Pairwise.imp_of_mem (R := fun a b => a ≠ b) ?_ List.nodup_range
  intro a b ha hb hne e
  rw [List.mem_range] at ha hb
  exact hne (ofNat_inj (by omega) (by omega) e)
theorem idx_succ (n : Nat) : idx (n + 1) = idx n ++ [UInt8.ofNat n] := by simp [idx, List.range_succ]
/-- share j of the stripe whose data blocks are ds -/
def shr (ds : List (List UInt8)) (j : Nat) : List UInt8 := blk (idx ds.length) ds (UInt8.ofNat j)
/-- the data blocks have one length, and there are from 1 to 15 of them -/
structure Even (ds : List (List UInt8)) (L : Nat) : Prop where
  pos : 0 < ds.length
  few : ds.length ≤ 15
  len : ∀ j, j < ds.length → (ds.getD j []).length = L
theorem shr_len {ds : List (List UInt8)} {L : Nat} (h : Even ds L) (j : Nat) : (shr ds j).length = L := by
  unfold shr
  rw [blk_len, h.len 0 h.pos]
theorem shr_data {ds : List (List UInt8)} {L : Nat} (h : Even ds L) {j : Nat} (hj : j < ds.length) : shr ds j = ds.getD j [] := by
  unfold shr
  rw [← idx_at hj]
  exact blk_self (idx_nodup (by have := h.few; omega)) (by rw [idx_len]; exact hj) (by rw [h.len j hj, h.len 0 h.pos])
/-- the polynomial of a stripe at an offset -/
def spol (ds : List (List UInt8)) (i : Nat) : List UInt8 := pol (idx ds.length) ds i
theorem shr_at {ds : List (List UInt8)} {L : Nat} (h : Even ds L) (j : Nat) {i : Nat} (hi : i < L) : (shr ds j).getD i 0 = hor (UInt8.ofNat j) (spol ds i) := by
  unfold shr spol
  rw [blk_at (by rw [h.len 0 h.pos]; exact hi), pol_blk]
theorem spol_len (ds : List (List UInt8)) (i : Nat) : (spol ds i).length ≤ ds.length := by
  have := pol_len (idx ds.length) ds i
  rwa [idx_len] at this
theorem spol_canon (ds : List (List UInt8)) (i : Nat) : Canon (spol ds i) := pol_canon _ _ _
/-- any n shares of a stripe give every share -/
theorem rebuild {ds : List (List UInt8)} {L : Nat} (h : Even ds L) {xs : List UInt8} {bs : List (List UInt8)} (hd : xs.Nodup) (hn : xs.length = ds.length)
    (hb : ∀ k, k < xs.length → bs.getD k [] = shr ds (xs.getD k 0).toNat) (j : Nat) : blk xs bs (UInt8.ofNat j) = shr ds j := by
  have hL : (bs.getD 0 []).length = L := by rw [hb 0 (by rw [hn]; exact h.pos), shr_len h]
  rw [blk_on hd (spol ds) (spol_canon ds) (fun i => by rw [hn]; exact spol_len ds i) (fun k hk i hi => by
    rw [hb k hk, shr_at h _ (by rw [← hL]; exact hi), UInt8.ofNat_toNat])]
  refine List.ext_getElem (by rw [List.length_map, List.length_range, hL, shr_len h]) fun i h1 h2 => ?_
  have hi : i < L := by rw [shr_len h] at h2; exact h2
  have := shr_at h j hi
  rw [getD_lt h2] at this
  rw [this]; simp

end Go.Proofs.Ytogcgeiocndlbaa
