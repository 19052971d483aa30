/- Plain laws of the shares of a stripe that a bit set selects. -/
import Derived.Test.YtogcgeiocndlbaaYd
namespace Go.Proofs.Ytogcgeiocndlbaa
open Go.RowKit

theorem i64_lo : IntKind.i64.min = -9223372036854775808 := rfl
theorem i64_hi : IntKind.i64.max = 9223372036854775807 := rfl
theorem stL_bound (l : List ByteArray) {sp : Nat} (hsp : sp ≤ 7) : ∀ x ∈ stL l sp, (IntKind.i64.min ≤ x.1 ∧ x.1 ≤ IntKind.i64.max) ∧ x.2.size ≤ 65536 := fun x hx => by
  obtain ⟨j, hj, h1, h2⟩ := stL_on l hsp x hx
  have h3 := shr_len (stD_even l) j
  have := evL_le l
  rw [h1, ← bl_length, h2, h3, i64_lo, i64_hi]
  omega
theorem smL_mem {l : List (Int × ByteArray)} {set : Nat} : ∀ x ∈ smL l set l.length, x ∈ l := fun x hx => by
  unfold smL at hx
  obtain ⟨i, hi, rfl⟩ := List.mem_map.1 hx
  have := List.mem_range.1 (List.mem_filter.1 hi).1
  simp [List.getD, List.getElem?_eq_getElem this]
def hvS (l : List ByteArray) (sp set : Nat) : List (Int × ByteArray) := smL (stL l sp) set (stL l sp).length
theorem hvS_on (l : List ByteArray) {sp set : Nat} (hsp : sp ≤ 7) : OnStripe (stD l) (hvS l sp set) := fun x hx => stL_on l hsp x (smL_mem x hx)
theorem hvS_bound (l : List ByteArray) {sp set : Nat} (hsp : sp ≤ 7) : ∀ x ∈ hvS l sp set, (IntKind.i64.min ≤ x.1 ∧ x.1 ≤ IntKind.i64.max) ∧ x.2.size ≤ 65536 := fun x hx => stL_bound l hsp x (smL_mem x hx)
theorem hvS_idx (l : List ByteArray) {sp set : Nat} (hsp : sp ≤ 7) : (hvS l sp set).map (fun x => byt8 x.1) = ((List.range (stL l sp).length).filter fun i => set.testBit i).map UInt8.ofNat := by
  unfold hvS smL
  rw [List.map_map]
  refine List.map_congr_left fun i hi => ?_
  have hl := stL_len l sp
  have hb := evn_bound l
  have hi2 := List.mem_range.1 (List.mem_filter.1 hi).1
  show byt8 ((stL l sp).getD i default).1 = _
  rw [show (stL l sp).getD i default = (stL l sp)[i] by simp [List.getD, List.getElem?_eq_getElem hi2], stL_at l hi2, byt8_nat (by omega)]
theorem hvS_nd (l : List ByteArray) {sp set : Nat} (hsp : sp ≤ 7) : ((hvS l sp set).map fun x => byt8 x.1).Nodup := by
  rw [hvS_idx l hsp]
  have hl := stL_len l sp
  have hb := evn_bound l
  unfold List.Nodup
  rw [List.pairwise_map]
  refine List.Pairwise.imp_of_mem (R := fun a b => a ≠ b) ?_ (List.Pairwise.filter _ List.nodup_range)
  intro a b ha hb2 hne e
  have h1 := List.mem_range.1 (List.mem_filter.1 ha).1
  have h2 := List.mem_range.1 (List.mem_filter.1 hb2).1
  exact hne (ofNat_inj (by omega) (by omega) e)
theorem hvS_lt (l : List ByteArray) {sp set : Nat} (hsp : sp ≤ 7) : (chs (stD l).length (hvS l sp set)).1.length < (stD l).length ↔ (hvS l sp set).length < (stD l).length := by
  have := chs_lt (data := (stD l).length) (hv := hvS l sp set) (hvS_nd l hsp) (fun i hi => by
    obtain ⟨x, hx, h⟩ := List.mem_map.1 hi
    exact ⟨x, hx, h⟩) (fun x hx => List.mem_map.2 ⟨x, hx, rfl⟩)
  rwa [List.length_map] at this
theorem hvS_E (l : List ByteArray) {sp set : Nat} (hsp : sp ≤ 7) : restE (hvS l sp set) ((evn l).length : Int) = if (hvS l sp set).length < (evn l).length then 19 else 0 := by
  have := restE_stripe (stD_even l) (hvS_on l (set := set) hsp)
  rw [stD_len] at this
  rw [this]
  have h2 := hvS_lt l (set := set) hsp
  rw [stD_len] at h2
  by_cases h : (hvS l sp set).length < (evn l).length
  · rw [if_pos h, if_pos (h2.2 h)]
  · rw [if_neg h, if_neg fun h3 => h (h2.1 h3)]
theorem hvS_B (l : List ByteArray) {sp set : Nat} (hsp : sp ≤ 7) (h : ¬ (hvS l sp set).length < (evn l).length) : restB (hvS l sp set) ((evn l).length : Int) = evn l := by
  have h2 := hvS_lt l (set := set) hsp
  have := restB_stripe (stD_even l) (hvS_on l (set := set) hsp) (fun h3 => h (by have := h2.1 h3; rwa [stD_len] at this))
  rw [stD_len] at this
  rw [this]
  unfold stD
  rw [List.map_map]
  exact (List.map_congr_left (fun s _ => ofL_bl s)).trans (List.map_id _)
theorem hvS_B0 (l : List ByteArray) {sp set : Nat} (hsp : sp ≤ 7) (h : (hvS l sp set).length < (evn l).length) : restB (hvS l sp set) ((evn l).length : Int) = [] := by
  unfold restB
  rw [hvS_E l hsp, if_pos h]
  rfl

end Go.Proofs.Ytogcgeiocndlbaa
