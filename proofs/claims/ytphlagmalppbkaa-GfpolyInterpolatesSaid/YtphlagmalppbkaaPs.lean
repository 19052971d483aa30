/- Walk of the size guard of the laws. -/
import Derived.Test.YtphlagmalppbkaaPd
namespace Go.Proofs.Ytphlagmalppbkaa
open Go.RowKit

/-- a slice value as a value -/
def sv (x : Option Addr × Nat × Nat) : Value := .slice x.1 x.2.1 x.2.2
/-- none of the first k is longer than most -/
def allLe (most : Nat) (ls : List (Option Addr × Nat × Nat)) : Bool := ls.all fun x => decide (x.2.1 ≤ most)
theorem allLe_take_succ {most : Nat} {ls : List (Option Addr × Nat × Nat)} {k : Nat} (hk : k < ls.length) : allLe most (ls.take (k + 1)) = (allLe most (ls.take k) && decide (ls[k].2.1 ≤ most)) := by
  unfold allLe
  rw [List.take_succ_eq_append_getElem hk, List.all_append]
  simp only [List.all_cons, List.all_nil, Bool.and_true]
theorem allLe_false {most : Nat} {ls : List (Option Addr × Nat × Nat)} {k : Nat} (hk : k < ls.length) (h : most < ls[k].2.1) : allLe most ls = false := by
  unfold allLe
  rw [List.all_eq_false]
  exact ⟨ls[k], List.getElem_mem hk, by simp; omega⟩

set_option maxRecDepth 100000 in
set_option maxHeartbeats 400000 in
theorem small_b (w : World) (A : Option Addr) (n c most : Nat) (ls : List (Option Addr × Nat × Nat)) (h : Sl w 1 A n c (ls.map sv)) (hl : ∀ x ∈ ls, x.2.1 ≤ maxLen) :
    Calls Try.prog 12 #[.int .i64 (most : Int), .slice A n c] w fun e w' => e = .returned (.bool (allLe most ls)) ∧ w' = w := by
  have hn : n = ls.length := by have := h.2.2.1; simp at this; omega
  have hlc : n ≤ c := h.1
  have hcm : c ≤ 9223372036854775807 := h.2.1
  have H := Lib.hid h
  have HN := Lib.hid hn
  have HL := Lib.hid hl
  clear h hn hl
  go_enter Try.func12, Try.ntmps12
  go_wp2
  go_loop [9] (fun i => ∃ k : Nat, k ≤ n ∧ i = .int .i64 (k : Int) ∧ allLe most (ls.take k) = true) (fun i => n - (intOf i).toNat)
  case atStart => exact ⟨0, by omega, rfl, rfl⟩
  case round =>
    obtain ⟨k, hk, rfl, hall⟩ := hrel
    have HA := Lib.hid hall
    clear hall
    by_cases hlt : k < n
    · have hj : k < ls.length := by rw [← HN.out]; omega
      obtain ⟨ad, u, rfl, _, hx, hc⟩ := Sl.at_ H.out hlt
      rw [List.getElem?_map, List.getElem?_eq_getElem hj] at hx
      have hu : u = .slice ls[k].1 ls[k].2.1 ls[k].2.2 := by injection hx with hx; exact hx.symm
      subst hu
      have HS := Lib.hid (allLe_take_succ (most := most) hj)
      have hbd := HL.out _ (List.getElem_mem hj)
      unfold maxLen at hbd
      clear hx
      by_cases hle : ls[k].2.1 ≤ most
      · have HLE := Lib.hid hle
        generalize hz : ls[k] = z at *
        go_wp2
        go_round
        case rel => exact ⟨k + 1, by omega, by go_num, by rw [HS.out, HA.out]; simpa using HLE.out⟩
        case measure => simp [intOf]; omega
      · have HF := Lib.hid (allLe_false (most := most) hj (by omega))
        generalize hz : ls[k] = z at *
        go_wp2
        go_ret
        exact ⟨by rw [HF.out]; rfl, rfl⟩
    · have HK := Lib.hid (show ls.take k = ls by rw [List.take_of_length_le]; rw [← HN.out]; omega)
      go_wp2
      go_ret
      refine ⟨ret_eq ?_, rfl⟩
      have := HA.out
      rw [HK.out] at this
      rw [this]; rfl

end Go.Proofs.Ytphlagmalppbkaa
