/- wots: Public, Recover and Sign; the program's. -/
import Derived.Test.YtlfpppffjedngaaDoorBl
namespace Go.Proofs.YtlfpppffjedngaaDoor
open Go.RowKit
set_option linter.unusedVariables false
namespace Bk

def sf (seed : List UInt8) (key : Int) (i : Nat) : List UInt8 := sec seed key (i : Int)
theorem sf_len (seed : List UInt8) (key : Int) (i : Nat) : (sf seed key i).length = 16 := sec_len _ _ _
/-- the public key of a seed and a number -/
def pubK (seed : List UInt8) (key : Int) : List UInt8 := if key < 0 then [] else pubH (Wt.pubs fh (sf seed key) 35)
/-- the signature of a message -/
def sigK (seed : List UInt8) (key : Int) (msg : List UInt8) : List UInt8 := if key < 0 then [] else Wt.sgn fh (sf seed key) (mdig msg) 35
/-- the public key out of a signature -/
def recP (msg sig : List UInt8) : List UInt8 := if sig.length = 560 then pubH (Wt.ends fh sig (mdig msg) 35) else []
def recE (sig : List UInt8) : Int := if sig.length = 560 then 0 else 4
def ols (l : List (List UInt8)) : List ByteArray := l.map ofL
theorem bls_ols (l : List (List UInt8)) : bls (ols l) = l := by
  unfold bls ols
  rw [List.map_map]
  exact (List.map_congr_left (fun s _ => bl_ofL s)).trans (List.map_id _)
theorem ols_len (l : List (List UInt8)) : (ols l).length = l.length := by simp [ols]
theorem pubs_mem {seed : List UInt8} {key : Int} : ∀ (k : Nat), ∀ s ∈ ols (Wt.pubs fh (sf seed key) k), s.size ≤ 1000
  | 0, s, hs => by cases hs
  | k + 1, s, hs => by
    have e : ols (Wt.pubs fh (sf seed key) (k + 1)) = ols (Wt.pubs fh (sf seed key) k) ++ [ofL (Wt.chain fh (sf seed key k) 15)] := by unfold ols; rw [show Wt.pubs fh (sf seed key) (k + 1) = Wt.pubs fh (sf seed key) k ++ [Wt.chain fh (sf seed key k) 15] from rfl, List.map_append]; rfl
    rw [e] at hs
    rcases List.mem_append.1 hs with h | h
    · exact pubs_mem k s h
    · rw [List.mem_singleton] at h
      rw [h, ofL_size, Wt.chain_len fh_len (sf_len _ _ _)]; omega
theorem ols_pubs (seed : List UInt8) (key : Int) (k : Nat) : ols (Wt.pubs fh (sf seed key) (k + 1)) = ols (Wt.pubs fh (sf seed key) k) ++ [ofL (Wt.chain fh (sf seed key k) 15)] := by
  unfold ols
  rw [show Wt.pubs fh (sf seed key) (k + 1) = Wt.pubs fh (sf seed key) k ++ [Wt.chain fh (sf seed key k) 15] from rfl, List.map_append]; rfl

set_option maxRecDepth 100000 in
set_option maxHeartbeats 2000000 in
theorem pub_f (w : World) (ht : Tab w) (seed : ByteArray) (hs : seed.size ≤ 900000) (key : Int) (hk0 : -9223372036854775808 ≤ key) (hk1 : key ≤ 9223372036854775807) :
    Calls Tryd.prog 11 #[.string seed, .int .i64 key] w fun e w' => e = .returned (.string (ofL (pubK (bl seed) key))) ∧ Below w.heap.size w w' := by
  have HT := Lib.hid ht
  obtain ⟨i0, hi', hz0, hz1, hz2⟩ := info_parts info_str
  clear ht
  by_cases hneg : key < 0
  · have HE := Lib.hid (show pubK (bl seed) key = [] from if_pos hneg)
    rw [HE.out]
    go_enter Tryd.func11, Tryd.ntmps11
    go_wp2_with fail
    go_ret
    exact ⟨rfl, Below.refl _ _⟩
  · have HE := Lib.hid (show pubK (bl seed) key = pubH (Wt.pubs fh (sf (bl seed) key) 35) from if_neg hneg)
    rw [HE.out]
    go_enter Tryd.func11, Tryd.ntmps11
    go_wp2_with fail
    have HO := Lib.hid (World.ownsRow_nil w w.heap.size 9 1)
    have HB := Lib.hid (Below.refl w.heap.size w)
    go_loopw [9, 5] (fun x y W => ∃ k : Nat, k ≤ 35 ∧ x = .int .i64 (k : Int) ∧ Hid (W.ownsRow w.heap.size 9 1 y k (sv (ols (Wt.pubs fh (sf (bl seed) key) k)))) ∧ Hid (Below w.heap.size w W)) (fun x _ _ => 35 - (intOf x).toNat)
    case atStart => exact ⟨0, by omega, rfl, HO, HB⟩
    case round =>
      obtain ⟨k, hk, rfl, HO, HB⟩ := hrel
      by_cases hk35 : k < 35
      · go_wp2_with fail
        refine (secret_f wr (HT.out.bel HB.out) seed hs key (k : Int) hk0 hk1 (by omega) (by omega)).mono ?_
        rintro e w1 ⟨rfl, hb1⟩
        have HO1 := Lib.hid (own_below HO.out hb1)
        have HB1 := Lib.hid (HB.out.trans (hb1.mono HB.out.size))
        clear hb1
        go_wp2_with fail
        refine (walk_f w1 (HT.out.bel HB1.out) (ofL (sec (bl seed) key (k : Int))) (by rw [ofL_size, sec_len]; omega) 15 (by omega)).mono ?_
        rintro e w2 ⟨rfl, hb2⟩
        have HO2 := Lib.hid (own_below HO1.out hb2)
        have HB2 := Lib.hid (HB1.out.trans (hb2.mono HB1.out.size))
        clear hb2 HO1 HB1
        rw [bl_ofL]
        obtain ⟨y, hy⟩ : ∃ y, y = ofL (Wt.chain fh (sec (bl seed) key (k : Int)) 15) := ⟨_, rfl⟩
        have HPS := Lib.hid (show ols (Wt.pubs fh (sf (bl seed) key) (k + 1)) = ols (Wt.pubs fh (sf (bl seed) key) k) ++ [y] by rw [ols_pubs, hy]; rfl)
        rw [← hy]
        clear hy
        have HBN := Lib.hid (Blk.new w2 9 #[.string y])
        have HOA := Lib.hid (own_alloc HO2.out (.cells #[.string y] 9))
        have HBA := Lib.hid (HB2.out.alloc HB2.out.size (.cells #[.string y] 9))
        have HSL := Lib.hid (show Sl (w2.alloc (.cells #[.string y] 9)) 1 (some ⟨w2.heap.size, 0, none⟩) 1 1 (sv [y]) from Blk.sl (n := 1) (size := 1) HBN.out rfl (by unfold maxLen; omega))
        go_wp2_with (at_builtin; refine wpl_append_sl _ rfl _ _ _ rfl w.heap.size 9 i0 (.string ⟨#[]⟩) 1 16 Tryd.underlying42 hi' hz0 hz1 hz2 rfl (by decide) _ k (sv (ols (Wt.pubs fh (sf (bl seed) key) k))) rfl HOA.out (some ⟨w2.heap.size, 0, none⟩) 1 1 (sv [y]) rfl HSL.out (sv_one _) (by unfold maxLen; omega) (by omega) HBA.out.size ?_; intro v' w8 hown hgrow _)
        have HO9 := Lib.hid (show w8.ownsRow w.heap.size 9 1 v' (k + 1) (sv (ols (Wt.pubs fh (sf (bl seed) key) (k + 1)))) by rw [HPS.out, sv_app]; exact hown)
        have HB9 := Lib.hid (show Below w.heap.size w w8 from HBA.out.grown hgrow HBA.out.size (fun j e => (HOA.out.lt j e).1))
        clear hown hgrow
        go_wp2_with fail
        go_roundw
        case rel => exact ⟨k + 1, by omega, by go_num, HO9, HB9⟩
        case measure => simp [intOf]; omega
      · have HK := Lib.hid (show k = 35 by omega)
        obtain ⟨A, c, rfl, hsl, _⟩ := own_form HO.out
        have HSL := Lib.hid (show Stl wr A k c (ols (Wt.pubs fh (sf (bl seed) key) k)) from hsl)
        clear hsl
        go_wp2_with fail
        refine (public_f wr (HT.out.bel HB.out) A k c _ HSL.out (by omega) (pubs_mem k)).mono ?_
        rintro e w2 ⟨rfl, hb2⟩
        have HB2 := Lib.hid (HB.out.trans (hb2.mono HB.out.size))
        clear hb2
        rw [bls_ols, HK.out]
        go_wp2_with fail
        go_ret
        exact ⟨rfl, HB2.out⟩

end Bk
end Go.Proofs.YtlfpppffjedngaaDoor
