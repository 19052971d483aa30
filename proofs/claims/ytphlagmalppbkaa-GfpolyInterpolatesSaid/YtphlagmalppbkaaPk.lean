/- Walk of the example of the chapter. -/
import Derived.Test.YtphlagmalppbkaaPi
namespace Go.Proofs.Ytphlagmalppbkaa
open Go.RowKit

theorem ex_ip : ipRun [0, 1] [5, 5] = ([5], 0) := by decide +kernel
theorem ex_mul : pmul [1, 1] [1, 1] = [1, 0, 1] := by decide +kernel

theorem lit_byt (w : World) (g : Nat) (hg : g = w.heap.size) (l : List UInt8) (cs : Array Value) (hc : cs = (bv l).toArray) (n : Nat) (hn : l.length = n) (hl : n ≤ 1000) : Byt (w.alloc (.cells cs 5)) (some ⟨g, 0, none⟩) n n l := by
  subst hc
  subst hg
  exact Blk.byt (Blk.new w 5 _) hn (by unfold maxLen; omega)

set_option maxRecDepth 100000 in
set_option maxHeartbeats 1000000 in
theorem awake_b (w : World) : Calls Try.prog 13 #[] w fun e w' => e = .returned (.bool true) ∧ Below w.heap.size w w' := by
  have L1 := Lib.hid (lit_byt (w.alloc (.cells #[.int .u8 0, .int .u8 1] 5)) (w.heap.size + 1) (by simp) [5, 5] #[.int .u8 5, .int .u8 5] rfl 2 rfl (by omega))
  have L0 := Lib.hid ((lit_byt w w.heap.size rfl [0, 1] #[.int .u8 0, .int .u8 1] rfl 2 rfl (by omega)).alloc (.cells #[.int .u8 5, .int .u8 5] 5))
  go_enter Try.func13, Try.ntmps13
  go_wp2_with fail
  refine (interp_b _ _ 2 2 [0, 1] _ 2 2 [5, 5] L0.out L1.out (by simp)).mono ?_
  rw [ex_ip]
  rintro e w1 ⟨v, rfl, hown, hb⟩
  obtain ⟨A1, c1, rfl, hY, _⟩ := byt_own hown
  have HB := Lib.hid ((((Below.refl w.heap.size w).alloc (Nat.le_refl _) _).alloc (by simp) _).trans (hb.mono (by simp; omega)))
  have HY := Lib.hid hY
  clear hown hb hY
  have M1 := Lib.hid (lit_byt (w1.alloc (.cells #[.int .u8 1, .int .u8 1] 5)) (w1.heap.size + 1) (by simp) [1, 1] #[.int .u8 1, .int .u8 1] rfl 2 rfl (by omega))
  have M0 := Lib.hid ((lit_byt w1 w1.heap.size rfl [1, 1] #[.int .u8 1, .int .u8 1] rfl 2 rfl (by omega)).alloc (.cells #[.int .u8 1, .int .u8 1] 5))
  go_wp2_with fail
  refine (pmul_b _ _ 2 2 [1, 1] _ 2 2 [1, 1] M0.out M1.out (by simp) (by simp)).mono ?_
  rw [ex_mul]
  rintro e w2 ⟨v2, rfl, hown2, hb2⟩
  obtain ⟨A2, c2, rfl, hY2, _⟩ := byt_own hown2
  have HB2 := Lib.hid ((((Below.refl w1.heap.size w1).alloc (Nat.le_refl _) _).alloc (by simp) _).trans (hb2.mono (by simp; omega)))
  have HS2 := Lib.hid (lit_byt w2 w2.heap.size rfl [1, 0, 1] #[.int .u8 1, .int .u8 0, .int .u8 1] rfl 3 rfl (by omega))
  have HY2 := Lib.hid (hY2.alloc (.cells #[.int .u8 1, .int .u8 0, .int .u8 1] 5))
  have HY1 := Lib.hid ((HY.out.below HB2.out).alloc (.cells #[.int .u8 1, .int .u8 0, .int .u8 1] 5))
  clear hown2 hb2 hY2
  go_wp2_with fail
  refine (same_b _ A2 3 c2 [1, 0, 1] _ 3 3 [1, 0, 1] HY2.out HS2.out).mono ?_
  rintro e w3 ⟨rfl, rfl⟩
  go_wp2_with fail
  have HS3 := Lib.hid (lit_byt (w2.alloc (.cells #[.int .u8 1, .int .u8 0, .int .u8 1] 5)) (w2.heap.size + 1) (by simp) [5] #[.int .u8 5] rfl 1 rfl (by omega))
  have HY3 := Lib.hid (HY1.out.alloc (.cells #[.int .u8 5] 5))
  refine (same_b _ A1 1 c1 [5] _ 1 1 [5] HY3.out HS3.out).mono ?_
  rintro e w3 ⟨rfl, rfl⟩
  go_wp2
  go_ret
  refine ⟨rfl, ?_⟩
  exact HB.out.trans ((((HB2.out.alloc HB2.out.size _).alloc (by simp; exact Nat.le_succ_of_le HB2.out.size) _)).mono HB.out.size)

end Go.Proofs.Ytphlagmalppbkaa
