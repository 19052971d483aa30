/- Walks of the statements' helpers of chapter 15: even; the exclusive or of two strings. -/
import Derived.Test.YtpljpceldlaphaaEj
import Derived.Lib.MinMax
namespace Go.Proofs.Ytpljpceldlaphaa
open Go.RowKit

/-- the least length of the first k strings, 40 at most -/
def evM (l : List ByteArray) : Nat → Nat
  | 0 => 40
  | k + 1 => min (evM l k) (l.getD k default).size
def evT (l : List ByteArray) : List ByteArray := l.take 8
def evN (l : List ByteArray) : Nat := evM (evT l) (evT l).length
def evn (l : List ByteArray) : List ByteArray := if l = [] then [ofL [97]] else (evT l).map fun s => s.extract 0 (evN l)
theorem evM_le (l : List ByteArray) : ∀ k, evM l k ≤ 40
  | 0 => Nat.le_refl _
  | k + 1 => Nat.le_trans (Nat.min_le_left _ _) (evM_le l k)
theorem evM_succ {l : List ByteArray} {k : Nat} (hk : k < l.length) : evM l (k + 1) = min (evM l k) l[k].size := by
  show min _ _ = _
  simp [List.getD, List.getElem?_eq_getElem hk]
theorem evM_size {l : List ByteArray} {j : Nat} (hj : j < l.length) : ∀ k, j < k → evM l k ≤ l[j].size
  | 0, h => absurd h (by omega)
  | k + 1, h => by
    rcases Nat.lt_or_eq_of_le (Nat.le_of_lt_succ h) with h1 | h1
    · exact Nat.le_trans (Nat.min_le_left _ _) (evM_size hj k h1)
    · subst h1; rw [evM_succ hj]; exact Nat.min_le_right _ _
theorem bl_extract (s : ByteArray) (n : Nat) : bl (s.extract 0 n) = (bl s).take n := by
  unfold bl
  simp [ByteArray.data_extract]
theorem size_extract' (s : ByteArray) {n : Nat} (h : n ≤ s.size) : (s.extract 0 n).size = n := by
  rw [← bl_length, bl_extract, List.length_take, bl_length]; omega
theorem evn_len (l : List ByteArray) : (evn l).length = if l = [] then 1 else min 8 l.length := by
  unfold evn evT
  split <;> simp
theorem evn_bound (l : List ByteArray) : 0 < (evn l).length ∧ (evn l).length ≤ 8 := by
  rw [evn_len]
  split
  · simp
  · rename_i h
    have := List.length_pos_iff.2 h
    omega
/-- the length of the blocks -/
def evL (l : List ByteArray) : Nat := if l = [] then 1 else evN l
theorem evn_size (l : List ByteArray) : ∀ s ∈ evn l, s.size = evL l := by
  unfold evn evL
  split
  · intro s hs; simp at hs; subst hs; rfl
  · intro s hs
    obtain ⟨t, ht, rfl⟩ := List.mem_map.1 hs
    obtain ⟨j, hj, rfl⟩ := List.mem_iff_getElem.1 ht
    exact size_extract' _ (evM_size hj _ hj)
theorem evL_le (l : List ByteArray) : evL l ≤ 40 := by
  unfold evL
  split
  · omega
  · exact evM_le _ _
theorem map_take_succ {α β : Type} {f : α → β} {l : List α} {k : Nat} (hk : k < l.length) : (l.take (k + 1)).map f = (l.take k).map f ++ [f l[k]] := by
  rw [List.take_succ_eq_append_getElem hk, List.map_append]; rfl

set_option maxRecDepth 100000 in
set_option maxHeartbeats 1000000 in
theorem even_b (w : World) (A : Option Addr) (n c : Nat) (l : List ByteArray) (h : Lst Value.string w A n c l) :
    Calls Try.prog 16 #[.slice A n c] w (GivesL 9 Value.string w (evn l)) := by
  have hn := h.len
  have hlc : n ≤ c := h.1
  have hcm : c ≤ 9223372036854775807 := h.2.1
  by_cases h0 : n = 0
  · have hl : l = [] := List.eq_nil_of_length_eq_zero (by omega)
    have HE := Lib.hid (show evn l = [ofL [97]] by unfold evn; rw [if_pos hl])
    have e1 : ((n : Int) == 0) = true := by simp; omega
    clear h hn hl
    go_enter Try.func16, Try.ntmps16
    go_wp2
    go_ret
    refine ⟨_, rfl, ?_, (Below.refl _ w).alloc (Nat.le_refl _) _⟩
    rw [HE.out]
    exact World.ownsRow_lit w #[.string ⟨#[97]⟩] 1 (Nat.le_refl _) (by unfold maxLen; omega) rfl
  · have e1 : ((n : Int) == 0) = false := by simp; omega
    obtain ⟨m, hm⟩ : ∃ m, m = min n 8 := ⟨_, rfl⟩
    have hm1 : m ≤ n := by omega
    have hm8 : m ≤ 8 := by omega
    have hmi : min (n : Int) 8 = (m : Int) := by omega
    have HT := Lib.hid (show Lst Value.string w A m c (evT l) by
      have := h.take hm1
      rw [show evT l = l.take m by unfold evT; rw [hm]; rcases Nat.le_total n 8 with h8 | h8
                                   · rw [Nat.min_eq_left h8, List.take_of_length_le (by omega), List.take_of_length_le (by omega)]
                                   · rw [Nat.min_eq_right h8]]
      exact this)
    have HE := Lib.hid (show evn l = (evT l).map fun s => s.extract 0 (evN l) by unfold evn; rw [if_neg (by intro e; rw [e] at hn; simp at hn; omega)])
    have HM := Lib.hid (show m = (evT l).length from (HT.out).len)
    have HEN := Lib.hid (show evN l = evM (evT l) (evT l).length from rfl)
    generalize evT l = t at *
    clear h hn hm
    go_enter Try.func16, Try.ntmps16
    go_wp2
    go_loop [3, 18] (fun x i => ∃ k : Nat, k ≤ m ∧ i = .int .i64 (k : Int) ∧ x = .int .i64 ((evM t k : Nat) : Int)) (fun _ i => m - (intOf i).toNat)
    case atStart => exact ⟨0, by omega, rfl, rfl⟩
    case round =>
      obtain ⟨k, hk, rfl, rfl⟩ := hrel
      have hek := evM_le t k
      by_cases hlt : k < m
      · have hkl : k < t.length := by rw [← HM.out]; exact hlt
        obtain ⟨ad, rfl, _, hc⟩ := HT.out.at_ hkl
        have hmi2 : min ((evM t k : Nat) : Int) (t[k].size : Int) = ((evM t (k + 1) : Nat) : Int) := by rw [evM_succ hkl]; omega
        go_wp2
        go_round
        case rel => exact ⟨k + 1, by omega, by go_num, rfl⟩
        case measure => simp [intOf]; omega
      · have hkm : k = m := by omega
        have HK := Lib.hid (show evM t k = evN l by rw [HEN.out, hkm, HM.out])
        have hge : m ≤ k := by omega
        obtain ⟨y, hy⟩ : ∃ y, y = evM t k := ⟨_, rfl⟩
        have HY := Lib.hid hy
        rw [← hy] at hek
        simp only [← hy]
        clear hkm hy
        go_wp2
        go_loopw [5, 32] (fun vo i wr => ∃ j : Nat, j ≤ m ∧ i = .int .i64 (j : Int) ∧ wr.ownsRow w.heap.size 9 1 vo j (((t.take j).map fun s => s.extract 0 y).map Value.string) ∧ Below w.heap.size w wr) (fun _ i _ => m - (intOf i).toNat)
        case atStart => exact ⟨0, by omega, rfl, World.ownsRow_lit w #[] 0 (Nat.le_refl _) (Nat.zero_le _) rfl, (Below.refl _ w).alloc (Nat.le_refl _) _⟩
        case round =>
          obtain ⟨j, hj, rfl, hown, hb⟩ := hrel
          have HO := Lib.hid hown
          have HB := Lib.hid hb
          have HX := Lib.hid (HT.out.below hb)
          have hbs := hb.size
          clear hown hb
          by_cases hlt2 : j < m
          · have hjl : j < t.length := by rw [← HM.out]; exact hlt2
            obtain ⟨ad, rfl, _, hc⟩ := HX.out.at_ hjl
            have hys : y ≤ t[j].size := by rw [HY.out]; exact evM_size hjl k (by omega)
            have HS := Lib.hid (map_take_succ (f := fun s : ByteArray => s.extract 0 y) hjl)
            go_wp2_with (at_builtin; refine wpl_push ty_str rfl _ _ rfl w.heap.size u5 j (((t.take j).map fun s => s.extract 0 y).map Value.string) rfl (HO.out.alloc _) _ (.string (t[j].extract 0 y)) rfl (Blk.new _ _ _) rfl (by simp; omega) (by unfold maxLen; omega) (by omega) ?_; intro v' w8 hown8 hgrow _)
            go_roundw
            case rel => exact ⟨j + 1, by omega, by go_num, by rw [HS.out, List.map_append]; exact hown8, push_below HB.out hbs HO.out hgrow⟩
            case measure => simp [intOf]; omega
          · have HJ := Lib.hid (show j = m by omega)
            go_wp2
            go_ret
            refine ⟨_, rfl, ?_, HB.out⟩
            have h7 := HO.out
            rw [List.take_of_length_le (by rw [← HM.out]; omega), HY.out, HK.out, ← HE.out] at h7
            rwa [show (evn l).length = j by rw [HE.out, List.length_map, ← HM.out, HJ.out]]

end Go.Proofs.Ytpljpceldlaphaa
