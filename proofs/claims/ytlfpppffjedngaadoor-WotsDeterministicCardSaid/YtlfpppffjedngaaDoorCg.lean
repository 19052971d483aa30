/- wots of the reference: H, secret, steps, Chain. -/
import Derived.Test.YtlfpppffjedngaaDoorCf
import Derived.Test.YtlfpppffjedngaaDoorBn
namespace Go.Proofs.YtlfpppffjedngaaDoor
open Go.RowKit
set_option linter.unusedVariables false
namespace Bk

set_option maxRecDepth 100000 in
theorem rhash_f (w : World) (A : Option Addr) (n c : Nat) (l : List ByteArray) (h : Stl w A n c l) (hl : ∀ s ∈ l, s.size ≤ 1000000) (htot : tot l ≤ 1000000) :
    Calls Tryd.prog 27 #[.slice A n c] w fun e w' => e = .returned (.string (ofL (H (bls l)))) ∧ Below w.heap.size w w' := by
  have HSF := Lib.hid (rstrs_f w A n c l h hl (by omega))
  obtain ⟨s, hs⟩ : ∃ s, s = ofL (nstrs (bls l)) := ⟨_, rfl⟩
  have HSZ := Lib.hid (show s.size ≤ 1000000 by rw [hs, ofL_size]; exact htot)
  obtain ⟨d, hd⟩ : ∃ d, d = ofL (blake (bl s)) := ⟨_, rfl⟩
  have hds : d.size = 32 := by rw [hd, ofL_size, blake_len]
  have HE := Lib.hid (show d.extract 0 16 = ofL (H (bls l)) by
    have e1 := bl_cut d 0 16
    rw [← ofL_bl (d.extract 0 16), e1, hd, bl_ofL, hs, bl_ofL]
    rfl)
  have HSM := Lib.hid (fun V g hg => rsum_one V g s hg HSZ.out)
  rw [← hs] at HSF
  rw [← hd] at HSM
  clear hs hd h hl htot
  go_enter Tryd.func27, Tryd.ntmps27
  go_wp2_with fail
  refine HSF.out.mono ?_
  rintro e w1 ⟨rfl, rfl⟩
  go_wp2_with fail
  refine (HSM.out _ _ (Blk.new w1 9 #[.string s])).mono ?_
  rintro e w2 ⟨rfl, hb2⟩
  have HB2 := Lib.hid (((Below.refl w1.heap.size w1).alloc (Nat.le_refl _) (.cells #[.string s] 9)).trans (hb2.mono (by simp)))
  clear hb2
  go_wp2_with fail
  go_ret
  exact ⟨congrArg (fun z => Ending.returned (Value.string z)) HE.out, HB2.out⟩

set_option maxRecDepth 100000 in
set_option maxHeartbeats 1000000 in
theorem rsecret_f (w : World) (seed : ByteArray) (hs : seed.size ≤ 900000) (key i : Int) (hk0 : -9223372036854775808 ≤ key) (hk1 : key ≤ 9223372036854775807) (hi0 : -9223372036854775808 ≤ i) (hi1 : i ≤ 9223372036854775807) :
    Calls Tryd.prog 26 #[.string seed, .int .i64 key, .int .i64 i] w fun e w' => e = .returned (.string (ofL (sec (bl seed) key i))) ∧ Below w.heap.size w w' := by
  have HN1 := Lib.hid (rnum_f key hk0 hk1 w)
  have HN2 := Lib.hid (rnum_f i hi0 hi1 w)
  obtain ⟨a, ha⟩ : ∃ a, a = ofL (num key) := ⟨_, rfl⟩
  obtain ⟨b, hb⟩ : ∃ b, b = ofL (num i) := ⟨_, rfl⟩
  have HA := Lib.hid (show a.size ≤ 22 by rw [ha, ofL_size]; exact num_len key hk0 hk1)
  have HB := Lib.hid (show b.size ≤ 22 by rw [hb, ofL_size]; exact num_len i hi0 hi1)
  have HE := Lib.hid (show H (bls [⟨#[119, 111, 116, 115]⟩, seed, a, b]) = sec (bl seed) key i by
    rw [bls_cons, bls_cons, bls_cons, bls_cons, ha, hb, bl_ofL, bl_ofL]; rfl)
  rw [← ha] at HN1
  rw [← hb] at HN2
  clear ha hb
  have HH := Lib.hid (fun (V : World) g (hg : Blk V g 9 #[.string ⟨#[119, 111, 116, 115]⟩, .string seed, .string a, .string b]) => rhash_f V (some ⟨g, 0, none⟩) 4 4 [⟨#[119, 111, 116, 115]⟩, seed, a, b]
    (Blk.sl (n := 4) (size := 1) hg rfl (by unfold maxLen; omega)) (fun s hs' => by
      have h1 := HA.out
      have h2 := HB.out
      simp only [List.mem_cons, List.not_mem_nil, or_false] at hs'
      rcases hs' with rfl | rfl | rfl | rfl
      · decide
      · omega
      · omega
      · omega) (by
      have h1 := HA.out
      have h2 := HB.out
      have t1 := tot_cons ⟨#[119, 111, 116, 115]⟩ [seed, a, b] (by decide)
      have t2 := tot_cons seed [a, b] (by omega)
      have t3 := tot_cons a [b] (by omega)
      have t4 := tot_cons b [] (by omega)
      have t5 := tot_nil
      have t6 : (⟨#[119, 111, 116, 115]⟩ : ByteArray).size = 4 := rfl
      omega))
  go_enter Tryd.func26, Tryd.ntmps26
  go_wp2_with fail
  refine HN1.out.mono ?_
  rintro e w1 ⟨rfl, rfl⟩
  go_wp2_with fail
  refine HN2.out.mono ?_
  rintro e w2 ⟨rfl, rfl⟩
  go_wp2_with fail
  refine (HH.out _ _ (Blk.new w2 _ _)).mono ?_
  rintro e w3 ⟨rfl, hb3⟩
  have HB3 := Lib.hid (((Below.refl w2.heap.size w2).alloc (Nat.le_refl _) _).trans (hb3.mono (by simp)))
  clear hb3
  rw [HE.out]
  go_wp2_with fail
  go_ret
  exact ⟨rfl, HB3.out⟩

set_option maxRecDepth 100000 in
set_option maxHeartbeats 1000000 in
theorem rsteps_f (w : World) (x : ByteArray) (hx : x.size ≤ 900000) (n : Nat) (hn : n ≤ 1000) :
    Calls Tryd.prog 25 #[.string x, .int .i64 (n : Int)] w fun e w' => e = .returned (.string (ofL (Wt.chain fh (bl x) n))) ∧ Below w.heap.size w w' := by
  go_enter Tryd.func25, Tryd.ntmps25
  go_wp2_with fail
  have HBW := Lib.hid (Below.refl w.heap.size w)
  go_loopw [0, 5] (fun y i W => ∃ k : Nat, k ≤ n ∧ i = .int .i64 (k : Int) ∧ y = .string (ofL (Wt.chain fh (bl x) k)) ∧ Hid (Below w.heap.size w W)) (fun _ i _ => n - (intOf i).toNat)
  case atStart => exact ⟨0, by omega, rfl, by rw [show Wt.chain fh (bl x) 0 = bl x from rfl, ofL_bl], HBW⟩
  case round =>
    obtain ⟨k, hk, rfl, rfl, HBW⟩ := hrel
    by_cases hkn : k < n
    · have hyz := chain_size x hx k
      have HE := Lib.hid (show H (bls [⟨#[99, 104, 97, 105, 110]⟩, ofL (Wt.chain fh (bl x) k)]) = Wt.chain fh (bl x) (k + 1) by rw [bls_cons, bls_cons, bl_ofL]; rfl)
      obtain ⟨y, hy⟩ : ∃ y, y = ofL (Wt.chain fh (bl x) k) := ⟨_, rfl⟩
      rw [← hy] at hyz HE ⊢
      clear hy
      have HH := Lib.hid (fun (V : World) g (hg : Blk V g 9 #[.string ⟨#[99, 104, 97, 105, 110]⟩, .string y]) => rhash_f V (some ⟨g, 0, none⟩) 2 2 [⟨#[99, 104, 97, 105, 110]⟩, y]
        (Blk.sl (n := 2) (size := 1) hg rfl (by unfold maxLen; omega)) (fun s hs' => by
          simp only [List.mem_cons, List.not_mem_nil, or_false] at hs'
          rcases hs' with rfl | rfl
          · decide
          · omega) (by
          have t1 := tot_cons ⟨#[99, 104, 97, 105, 110]⟩ [y] (by decide)
          have t2 := tot_cons y [] (by omega)
          have t5 := tot_nil
          have t6 : (⟨#[99, 104, 97, 105, 110]⟩ : ByteArray).size = 5 := rfl
          omega))
      go_wp2_with fail
      refine (HH.out _ _ (Blk.new wr _ _)).mono ?_
      rintro e w2 ⟨rfl, hb2⟩
      have HB2 := Lib.hid ((HBW.out.alloc HBW.out.size _).trans (hb2.mono (Nat.le_trans HBW.out.size (by simp))))
      clear hb2
      rw [HE.out]
      go_wp2_with fail
      go_roundw
      case rel => exact ⟨k + 1, by omega, by go_num, rfl, HB2⟩
      case measure => simp [intOf]; omega
    · have HK := Lib.hid (show k = n by omega)
      rw [HK.out]
      go_wp2_with fail
      go_ret
      exact ⟨rfl, HBW.out⟩
set_option maxRecDepth 100000 in
theorem rchain_f (w : World) (x : ByteArray) (hx : x.size ≤ 900000) (n : Nat) (hn : n ≤ 1000) :
    Calls Tryd.prog 20 #[.string x, .int .i64 (n : Int)] w fun e w' => e = .returned (.string (ofL (Wt.chain fh (bl x) n))) ∧ Below w.heap.size w w' := by
  have HS := Lib.hid (rsteps_f w x hx n hn)
  go_enter Tryd.func20, Tryd.ntmps20
  go_wp2_with fail
  refine HS.out.mono ?_
  rintro e w2 ⟨rfl, hb2⟩
  have HB2 := Lib.hid hb2
  clear hb2
  go_wp2_with fail
  go_ret
  exact ⟨rfl, HB2.out⟩

end Bk
end Go.Proofs.YtlfpppffjedngaaDoor
