/- Walks of the program's polynomial functions: Derivative, Add, Mul. -/
import Derived.Test.YtogcgeiocndlbaaPr
import Derived.StillTailTactics
import Derived.Deep.RegionHeld3
namespace Go.Proofs.Ytogcgeiocndlbaa
open Go.RowKit

theorem size_u8 : (Try.prog.info? 5).map (·.size) = some 1 := by kernel_rfl
theorem src_cells {w : World} {A : Option Addr} {n c : Nat} {l : List UInt8} (h : Byt w A n c l) (hpos : 0 < (bv l).length) : ∃ ad, A = some ad ∧ ∀ j v, (bv l)[j]? = some v → w.cell? (ad.add j) = some v := by
  rw [bv_length] at hpos
  obtain ⟨ad, e, _, hc⟩ := h.2.2.2 (by rw [h.len]; exact hpos)
  exact ⟨ad, e, hc⟩
theorem Blk.byt {w : World} {g m : Nat} {t : TypeId} {l : List UInt8} (h : Blk w g t (bv l).toArray) (hm : l.length = m) (hx : m ≤ maxLen) : Byt w (some ⟨g, 0, none⟩) m m l := by
  have := Blk.sl (size := 1) (n := m) h (by simp [bv_length, hm]) hx
  unfold Byt
  simpa using this
theorem bv_set (l : List UInt8) (k : Nat) (x : UInt8) : (bv (l.set k x)).toArray = (bv l).toArray.setIfInBounds k (B x) := by
  simp [bv, List.map_set]
theorem bv_cell (l : List UInt8) {k : Nat} (hk : k < l.length) : (bv l).toArray[k]? = some (B l[k]) := by
  simp [bv, List.getElem?_map, List.getElem?_eq_getElem hk]

/-- the copy of p, m bytes of it, with the first k bytes of q added -/
def addIn (p q : List UInt8) (m k : Nat) : List UInt8 := (List.range m).map fun i => if i < k then Gf.ga (p.getD i 0) (q.getD i 0) else p.getD i 0
theorem addIn_get (p q : List UInt8) {m k i : Nat} (hi : i < m) : (addIn p q m k)[i]? = some (if i < k then Gf.ga (p.getD i 0) (q.getD i 0) else p.getD i 0) := by
  unfold addIn
  rw [List.getElem?_map, List.getElem?_range hi]; rfl
theorem addIn_cell (p q : List UInt8) {m k : Nat} (hk : k < m) : (bv (addIn p q m k)).toArray[k]? = some (.int .u8 ((p.getD k 0).toNat : Int)) := by
  have h := addIn_get p q (k := k) hk
  rw [if_neg (Nat.lt_irrefl _)] at h
  simp only [bv, List.getElem?_toArray, List.getElem?_map, h]
  rfl
theorem addIn_succ (p : List UInt8) {q : List UInt8} {m k : Nat} (hk : k < q.length) : addIn p q m (k + 1) = (addIn p q m k).set k (Gf.ga (p.getD k 0) q[k]) := by
  have e : q.getD k 0 = q[k] := by simp [List.getD, List.getElem?_eq_getElem hk]
  refine List.ext_getElem? fun i => ?_
  rw [List.getElem?_set]
  by_cases him : i < m
  · rw [addIn_get p q him]
    by_cases hik : k = i
    · subst hik
      rw [if_pos rfl, if_pos (by omega), if_pos (by simp [addIn, him]), e]
    · rw [if_neg hik, addIn_get p q him]
      by_cases h1 : i < k
      · rw [if_pos h1, if_pos (by omega)]
      · rw [if_neg h1, if_neg (by omega)]
  · have h1 : (addIn p q m (k + 1))[i]? = none := List.getElem?_eq_none (by simp [addIn]; omega)
    have h2 : (addIn p q m k)[i]? = none := List.getElem?_eq_none (by simp [addIn]; omega)
    rw [h1]
    split
    · rename_i hik
      subst hik
      rw [if_neg (by simp [addIn]; omega)]
    · rw [h2]
theorem ga_zero (x : UInt8) : Gf.ga x 0 = x := by unfold Gf.ga; exact UInt8.xor_zero
theorem zero_ga (x : UInt8) : Gf.ga 0 x = x := by unfold Gf.ga; exact UInt8.zero_xor
theorem getD_ge {l : List UInt8} {i : Nat} (h : l.length ≤ i) : l.getD i 0 = 0 := by simp [List.getD, List.getElem?_eq_none h]
theorem addIn_end (p q : List UInt8) : addIn p q (max p.length q.length) q.length = addTo p q (max p.length q.length) := by
  unfold addIn addTo
  refine List.map_congr_left fun i _ => ?_
  split
  · rfl
  · rw [getD_ge (l := q) (by omega), ga_zero]
theorem splice_start (p q : List UInt8) {m : Nat} (hm : p.length ≤ m) : splice (bv (List.replicate m 0)) 0 (bv p) = bv (addIn p q m 0) := by
  have e : addIn p q m 0 = p ++ List.replicate (m - p.length) 0 := by
    refine List.ext_getElem? fun i => ?_
    by_cases him : i < m
    · rw [addIn_get p q him, if_neg (Nat.not_lt_zero _), List.getElem?_append]
      split
      · rename_i h; simp [List.getD, List.getElem?_eq_getElem h]
      · rename_i h
        rw [getD_ge (by omega), List.getElem?_replicate, if_pos (by omega)]
    · rw [List.getElem?_eq_none (by simp [addIn]; omega), List.getElem?_eq_none (by simp; omega)]
  rw [e, bv_append]
  unfold splice
  simp [bv, List.map_replicate]

end Go.Proofs.Ytogcgeiocndlbaa
