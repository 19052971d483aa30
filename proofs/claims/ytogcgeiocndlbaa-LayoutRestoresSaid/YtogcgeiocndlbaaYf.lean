/- The reels that are left, in plain Lean: Recoverable says whether they are as many as data blocks; their blocks restore a stripe. -/
import Derived.Test.YtogcgeiocndlbaaYe
namespace Go.Proofs.Ytogcgeiocndlbaa
open Go.RowKit
set_option linter.unusedVariables false
namespace Ly

/-- the reels that are left -/
def kept (x M : Nat) : List Nat := (List.range M).filter fun k => !x.testBit k
def keptI (x M : Nat) : List Int := (kept x M).map fun (k : Nat) => (k : Int)
theorem kept_yes {x k : Nat} (h : x.testBit k = false) : kept x (k + 1) = kept x k ++ [k] := by simp [kept, List.range_succ, List.filter_append, h]
theorem kept_no {x k : Nat} (h : x.testBit k = true) : kept x (k + 1) = kept x k := by simp [kept, List.range_succ, List.filter_append, h]
theorem kept_le (x M : Nat) : (kept x M).length ≤ M := by
  unfold kept
  exact Nat.le_trans (List.length_filter_le _ _) (by simp)
theorem keptI_yes {x k : Nat} (h : x.testBit k = false) : keptI x (k + 1) = keptI x k ++ [(k : Int)] := by unfold keptI; rw [kept_yes h, List.map_append]; rfl
theorem keptI_no {x k : Nat} (h : x.testBit k = true) : keptI x (k + 1) = keptI x k := by unfold keptI; rw [kept_no h]
theorem keptI_len (x M : Nat) : (keptI x M).length = (kept x M).length := by simp [keptI]
theorem kept_mem {x M k : Nat} : k ∈ kept x M ↔ k < M ∧ x.testBit k = false := by simp [kept]
theorem has_kept (x M k : Nat) (hk : k < M) : hasI (keptI x M) k = !x.testBit k := by
  unfold hasI keptI
  rw [Bool.eq_iff_iff, List.any_eq_true]
  constructor
  · rintro ⟨z, hz, e⟩
    obtain ⟨j, hj, rfl⟩ := List.mem_map.1 hz
    have e' : j = k := by have := of_decide_eq_true e; omega
    subst e'
    rw [(kept_mem.1 hj).2]
    rfl
  · intro h
    exact ⟨_, List.mem_map.2 ⟨k, kept_mem.2 ⟨hk, by simpa using h⟩, rfl⟩, by simp⟩
theorem cnt_kept (x : Nat) : ∀ M, cntK (fun k => !x.testBit k) M = (kept x M).length
  | 0 => rfl
  | M + 1 => by
    unfold cntK
    rw [cnt_kept x M]
    cases h : x.testBit M
    · rw [kept_yes h, List.length_append]
      rfl
    · rw [kept_no h]
      rfl
theorem rec_kept {D S : Nat} (hD : 1 ≤ D) (hD8 : D ≤ 8) (hS : S ≤ 7) (x : Nat) : recB (D : Int) (S : Int) (keptI x (D + S)) = decide (D ≤ (kept x (D + S)).length) := by
  unfold recB
  rw [decide_eq_true (p := okL (D : Int) (S : Int)) ⟨by omega, by omega, by omega, by omega⟩, Bool.true_and, show ((D : Int) + (S : Int)).toNat = D + S by omega, cntK_congr (q := fun k => !x.testBit k) _ (fun k hk => has_kept x _ k hk), cnt_kept]
  exact decide_eq_decide.2 ⟨fun _ => by omega, fun _ => by omega⟩

/-- the shares of a stripe on the reels k of a list -/
def hvR (D S : Nat) (l : List UInt8) (q : Nat) (ks : List Nat) : List (Int × ByteArray) := ks.map fun (k : Nat) => ((k : Int), (strp D S l q).getD k default)
theorem hvR_snoc (D S : Nat) (l : List UInt8) (q : Nat) (ks : List Nat) (k : Nat) : hvR D S l q (ks ++ [k]) = hvR D S l q ks ++ [((k : Int), (strp D S l q).getD k default)] := by simp [hvR]
theorem dat_blk (D : Nat) (l : List UInt8) (q : Nat) : ∀ s ∈ dat D l q, s.size = 28 := by
  intro s hs
  unfold dat at hs
  obtain ⟨b, _, rfl⟩ := List.mem_map.1 hs
  rw [ofL_size]
  simp [blkAt]
theorem evM_28 {l : List ByteArray} (h : ∀ s ∈ l, s.size = 28) : ∀ k, k < l.length → evM l (k + 1) = 28
  | 0, hk => by
    rw [evM_succ hk, h _ (List.getElem_mem hk)]
    rfl
  | k + 1, hk => by rw [evM_succ hk, h _ (List.getElem_mem hk), evM_28 h k (by omega)]; rfl
theorem evn_dat {D : Nat} (hD : 1 ≤ D) (hD8 : D ≤ 8) (l : List UInt8) (q : Nat) : evn (dat D l q) = dat D l q := by
  have h28 := dat_blk D l q
  have hl : (dat D l q).length = D := dat_len D l q
  have hne : dat D l q ≠ [] := fun h => by rw [h] at hl; simp at hl; omega
  have ht : evT (dat D l q) = dat D l q := List.take_of_length_le (by omega)
  have hN : evN (dat D l q) = 28 := by
    unfold evN
    rw [ht, hl]
    obtain ⟨d, rfl⟩ : ∃ d, D = d + 1 := ⟨D - 1, by omega⟩
    exact evM_28 h28 d (by omega)
  unfold evn
  rw [if_neg hne, ht, hN]
  refine (List.map_congr_left (g := id) fun s hs => ?_).trans (List.map_id _)
  apply bl_inj
  rw [bl_extract, List.take_of_length_le (by rw [bl_length, h28 s hs]; exact Nat.le_refl _)]
  rfl
theorem testBit_flip {x k : Nat} (hk : k < 16) : (x ^^^ 65535).testBit k = !x.testBit k := by
  rw [Nat.testBit_xor, show (65535 : Nat) = 2 ^ 16 - 1 by rfl, Nat.testBit_two_pow_sub_one, decide_eq_true hk]
  cases x.testBit k <;> rfl
theorem hvR_is {D S : Nat} (hD : 1 ≤ D) (hD8 : D ≤ 8) (hS : S ≤ 7) (l : List UInt8) (q x : Nat) : hvR D S l q (kept x (D + S)) = hvS (dat D l q) S (x ^^^ 65535) := by
  have he := evn_dat hD hD8 l q
  have hlen : (stL (dat D l q) S).length = D + S := by rw [stL_len, he, dat_len]
  unfold hvS smL hvR
  rw [hlen, show kept x (D + S) = (List.range (D + S)).filter fun i => (x ^^^ 65535).testBit i from List.filter_congr fun k hk => (testBit_flip (by have := List.mem_range.1 hk; omega)).symm]
  refine List.map_congr_left fun k hk => ?_
  have hk2 := List.mem_range.1 (List.mem_filter.1 hk).1
  unfold stL shsL strp
  rw [he]
  simp only [List.getD]
  by_cases hkD : k < D
  · rw [List.getElem?_append_left (by rw [dat_len]; exact hkD), List.getElem?_append_left (by rw [shA_len, dat_len]; exact hkD)]
    unfold shA
    rw [List.getElem?_map, List.getElem?_range (by rw [dat_len]; exact hkD)]
    simp only [Option.map_some, Option.getD_some, Nat.zero_add, List.getD]
  · have e1 : (sprs (dat D l q) S).length = S := sprs_len _ _
    rw [List.getElem?_append_right (by rw [dat_len]; omega), List.getElem?_append_right (by rw [shA_len, dat_len]; omega), shA_len, dat_len]
    unfold shA
    rw [List.getElem?_map, List.getElem?_range (by rw [e1]; omega)]
    simp only [Option.map_some, Option.getD_some, List.getD]
    rw [show D + (k - D) = k by omega]
/-- Restore of enough of them: the data blocks -/
theorem rest_kept {D S : Nat} (hD : 1 ≤ D) (hD8 : D ≤ 8) (hS : S ≤ 7) (l : List UInt8) (q x : Nat) (h : D ≤ (kept x (D + S)).length) :
    restE (hvR D S l q (kept x (D + S))) (D : Int) = 0 ∧ restB (hvR D S l q (kept x (D + S))) (D : Int) = dat D l q ∧ ∀ y ∈ hvR D S l q (kept x (D + S)), (IntKind.i64.min ≤ y.1 ∧ y.1 ≤ IntKind.i64.max) ∧ y.2.size ≤ 65536 := by
  have he := evn_dat hD hD8 l q
  have hl : (hvS (dat D l q) S (x ^^^ 65535)).length = (kept x (D + S)).length := by rw [← hvR_is hD hD8 hS]; simp [hvR]
  have h1 := hvS_E (dat D l q) (sp := S) (set := x ^^^ 65535) hS
  have h2 := hvS_B (dat D l q) (sp := S) (set := x ^^^ 65535) hS
  rw [he, dat_len, hl, if_neg (by omega)] at h1
  rw [he, dat_len, hl] at h2
  rw [hvR_is hD hD8 hS]
  exact ⟨h1, h2 (by omega), hvS_bound _ hS⟩

end Ly
end Go.Proofs.Ytogcgeiocndlbaa
