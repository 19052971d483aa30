/- Walks of the statements' own helpers of chapter 15: short, awake. -/
import Derived.Test.YtpljpceldlaphaaEi
namespace Go.Proofs.Ytpljpceldlaphaa
open Go.RowKit

def shortB (l : List ByteArray) : Bool := l.all (fun s => decide (s.size ≤ 40)) && decide (l.length ≤ 16)

theorem all_take {α : Type} {l : List α} {p : α → Bool} {k : Nat} (hk : k < l.length) (h : (l.take k).all p = true) (h1 : p l[k] = true) : (l.take (k + 1)).all p = true := by
  rw [List.take_succ_eq_append_getElem hk, List.all_append, h]
  simp [h1]
theorem all_miss {α : Type} {l : List α} {p : α → Bool} {k : Nat} (hk : k < l.length) (h : p l[k] = false) : l.all p = false := by
  rw [List.all_eq_false]
  exact ⟨_, List.getElem_mem hk, by simp [h]⟩

set_option maxRecDepth 100000 in
set_option maxHeartbeats 1000000 in
theorem short_s (w : World) (A : Option Addr) (n c : Nat) (l : List ByteArray) (h : Lst Value.string w A n c l) (b : Bool) (hb : Hid (b = shortB l)) (hsm : ∀ s ∈ l, s.size ≤ maxLen) :
    Calls Try.prog 11 #[.slice A n c] w fun e w' => e = .returned (.bool b) ∧ w' = w := by
  have hn := h.len
  have hlc : n ≤ c := h.1
  have hcm : c ≤ 9223372036854775807 := h.2.1
  have H := Lib.hid h
  have HN := Lib.hid hn
  have HS := Lib.hid hsm
  clear h hn hsm
  go_enter Try.func11, Try.ntmps11
  go_wp2
  go_loop [6] (fun i => ∃ k : Nat, k ≤ n ∧ i = .int .i64 (k : Int) ∧ Hid ((l.take k).all (fun s => decide (s.size ≤ 40)) = true)) (fun i => n - (intOf i).toNat)
  case atStart => exact ⟨0, by omega, rfl, Lib.hid (by simp)⟩
  case round =>
    obtain ⟨k, hk, rfl, HF⟩ := hrel
    by_cases hlt : k < n
    · have hkl : k < l.length := by rw [← HN.out]; exact hlt
      obtain ⟨ad, rfl, _, hc⟩ := H.out.at_ hkl
      have hm := HS.out _ (List.getElem_mem hkl)
      unfold maxLen at hm
      by_cases hq : l[k].size ≤ 40
      · go_wp2
        go_round
        case rel => exact ⟨k + 1, by omega, by go_num, Lib.hid (all_take hkl HF.out (decide_eq_true hq))⟩
        case measure => simp [intOf]; omega
      · go_wp2
        go_ret
        refine ⟨ret_eq ?_, rfl⟩
        rw [hb.out]
        unfold shortB
        rw [all_miss hkl (decide_eq_false hq)]
        rfl
    · have hkn : n ≤ k := by omega
      have h7 := HF.out
      rw [List.take_of_length_le (by rw [← HN.out]; exact hkn)] at h7
      have H7 := Lib.hid h7
      clear h7
      go_wp2
      go_ret
      refine ⟨ret_eq ?_, rfl⟩
      rw [hb.out]
      unfold shortB
      rw [H7.out, ← HN.out]
      simp only [Bool.true_and]
      show Value.bool (decide ((n : Int) ≤ 16)) = Value.bool (decide (n ≤ 16))
      congr 1
      rw [Bool.eq_iff_iff]; simp; omega

theorem lit_lst (w : World) (g : Nat) (hg : g = w.heap.size) (l : List ByteArray) (cs : Array Value) (hc : cs = (l.map Value.string).toArray) (n : Nat) (hn : l.length = n) (hl : n ≤ 1000) : Lst Value.string (w.alloc (.cells cs 9)) (some ⟨g, 0, none⟩) n n l := by
  subst hc
  subst hg
  have := Blk.sl (size := 1) (n := n) (Blk.new w 9 (l.map Value.string).toArray) (by simp [hn]) (by unfold maxLen; omega)
  unfold Lst
  simpa using this

theorem ex_e1 : encE [ofL [1], ofL [2]] 1 = 0 ∧ encB [ofL [1], ofL [2]] 1 = [ofL [7]] := by decide +kernel
theorem ex_e2 : encE [ofL [120, 121]] 3 = 0 ∧ encB [ofL [120, 121]] 3 = [ofL [120, 121], ofL [120, 121], ofL [120, 121]] := by decide +kernel

set_option maxRecDepth 100000 in
set_option maxHeartbeats 1000000 in
theorem awake_e (w : World) : Calls Try.prog 12 #[] w fun e w' => e = .returned (.bool true) ∧ Below w.heap.size w w' := by
  have L1 := Lib.hid (lit_lst w w.heap.size rfl [ofL [1], ofL [2]] #[.string ⟨#[1]⟩, .string ⟨#[2]⟩] rfl 2 rfl (by omega))
  go_enter Try.func12, Try.ntmps12
  go_wp2_with fail
  refine (encode_f _ _ 2 2 [ofL [1], ofL [2]] L1.out 1 (by decide) (by decide)).mono ?_
  rw [ex_e1.1, ex_e1.2]
  rintro e w1 ⟨v, rfl, hown, hb⟩
  obtain ⟨A1, c1, rfl, hY, _⟩ := lst_own hown
  obtain ⟨ad, rfl, _, hc0⟩ := hY.at_ (k := 0) (by simp)
  have hlc : 1 ≤ c1 := hY.1
  have hcm : c1 ≤ 9223372036854775807 := hY.2.1
  rw [show ad.add 0 = ad from rfl] at hc0
  have HB1 := Lib.hid (((Below.refl w.heap.size w).alloc (Nat.le_refl _) _).trans (hb.mono (by simp)))
  have HY1 := Lib.hid hY
  clear hown hb hY hc0
  have L2 := Lib.hid (lit_lst w1 w1.heap.size rfl [ofL [120, 121]] #[.string ⟨#[120, 121]⟩] rfl 1 rfl (by omega))
  go_wp2_with fail
  refine (encode_f _ _ 1 1 [ofL [120, 121]] L2.out 3 (by decide) (by decide)).mono ?_
  rw [ex_e2.1, ex_e2.2]
  rintro e w2 ⟨v, rfl, hown, hb⟩
  obtain ⟨A2, c2, rfl, hY, _⟩ := lst_own hown
  obtain ⟨ad2, rfl, _, hd0⟩ := hY.at_ (k := 0) (by simp)
  obtain ⟨_, e1, _, hd2⟩ := hY.at_ (k := 2) (by simp)
  injection e1 with e1
  subst e1
  have hlc2 : 3 ≤ c2 := hY.1
  have hcm2 : c2 ≤ 9223372036854775807 := hY.2.1
  rw [show ad2.add 0 = ad2 from rfl] at hd0
  have HB2 := Lib.hid (HB1.out.trans (((Below.refl w1.heap.size w1).alloc (Nat.le_refl _) _).trans (hb.mono (by simp)) |>.mono HB1.out.size))
  obtain ⟨_, e1, _, hc0⟩ := ((HY1.out.alloc _).below hb).at_ (k := 0) (by simp)
  injection e1 with e1
  subst e1
  rw [show ad.add 0 = ad from rfl] at hc0
  clear hown hb hY
  have hs7 : (ofL [7]).toList = [7] := by unfold ofL; rw [ByteArray.toList_mk]
  have hs12 : (ofL [120, 121]).toList = [120, 121] := by unfold ofL; rw [ByteArray.toList_mk]
  have hd2' : w2.cell? ⟨ad2.block, ad2.off + 2, none⟩ = some (.string (ofL [120, 121])) := hd2
  clear hd2
  go_wp2
  go_ret
  exact ⟨rfl, HB2.out⟩

end Go.Proofs.Ytpljpceldlaphaa
