/- wots: the chains, the secrets, the public key of the ends; the program's. -/
import Derived.Test.YtlfpppffjedngaaDoorBh
import Derived.Test.YtlfpppffjedngaaDoorWp
namespace Go.Proofs.YtlfpppffjedngaaDoor
open Go.RowKit
set_option linter.unusedVariables false
namespace Bk

def sChain : List UInt8 := [99, 104, 97, 105, 110]
def sWots : List UInt8 := [119, 111, 116, 115]
def sPublic : List UInt8 := [112, 117, 98, 108, 105, 99]
def sMessage : List UInt8 := [109, 101, 115, 115, 97, 103, 101]
/-- one step of a chain -/
def fh (x : List UInt8) : List UInt8 := H [sChain, x]
theorem fh_len (x : List UInt8) : (fh x).length = 16 := H_len _
def sec (seed : List UInt8) (key i : Int) : List UInt8 := H [sWots, seed, num key, num i]
theorem sec_len (seed : List UInt8) (key i : Int) : (sec seed key i).length = 16 := H_len _
def pubH (ends : List (List UInt8)) : List UInt8 := H (sPublic :: ends)
theorem num_len (n : Int) (h0 : -9223372036854775808 ≤ n) (h1 : n ≤ 9223372036854775807) : (num n).length ≤ 22 := by
  have := itoa_len n h0 h1
  unfold num; simp; omega
theorem nstrs_cons (a : List UInt8) (l : List (List UInt8)) : nstrs (a :: l) = nstr a ++ nstrs l := rfl

set_option maxRecDepth 100000 in
theorem step_f (V : World) (g : Nat) (x : ByteArray) (h : Blk V g 9 #[.string x]) (ht : Tab V) (hx : x.size ≤ 900000) :
    Calls Tryd.prog 31 #[.pointer (some ⟨g, 0, none⟩)] V fun e V' => e = .returned (.tuple #[]) ∧ ∃ U, Below V.heap.size V U ∧ V' = U.setCell ⟨g, 0, none⟩ (.string (ofL (fh (bl x)))) := by
  have hc := h.cell 0
  have hf := h.frozen 0
  simp only [List.getElem?_toArray, List.getElem?_cons_zero] at hc
  have HH := Lib.hid (hash_f (V.alloc (.cells #[.string ⟨#[99, 104, 97, 105, 110]⟩, .string x] 9)) (ht.alloc _) (some ⟨V.heap.size, 0, none⟩) 2 2 [⟨#[99, 104, 97, 105, 110]⟩, x]
    (Blk.sl (n := 2) (size := 1) (Blk.new V 9 _) rfl (by unfold maxLen; omega)) (fun s hs => by
      rcases List.mem_cons.1 hs with rfl | hs
      · decide
      · rw [List.mem_singleton] at hs; subst hs; omega) (by
      have h1 := nstr_len (bl ⟨#[99, 104, 97, 105, 110]⟩) (by decide)
      have h2 := nstr_len (bl x) (by rw [bl_len]; omega)
      rw [bl_len] at h2
      show (nstrs [bl ⟨#[99, 104, 97, 105, 110]⟩, bl x]).length ≤ _
      rw [nstrs_cons, nstrs_cons]
      simp only [List.length_append]
      show _ + (_ + (nstrs []).length) ≤ _
      have : (bl ⟨#[99, 104, 97, 105, 110]⟩).length = 5 := rfl
      have h3 : (nstrs []).length = 0 := rfl
      omega))
  have HB := Lib.hid h
  obtain ⟨y, hy⟩ : ∃ y, y = ofL (fh (bl x)) := ⟨_, rfl⟩
  have HY := Lib.hid hy
  rw [show ofL (H (bls [⟨#[99, 104, 97, 105, 110]⟩, x])) = y from hy.symm] at HH
  rw [← hy]
  clear hy h ht
  go_enter Tryd.func31, Tryd.ntmps31
  go_wp2_with fail
  refine HH.out.mono ?_
  rintro e w1 ⟨rfl, hb1⟩
  have hb2 : Below V.heap.size V w1 := ((Below.refl V.heap.size V).alloc (Nat.le_refl _) _).trans (hb1.mono (by simp))
  have HB1 := Lib.hid hb2
  have k1 := HB.out.below hb2
  have hc1 := k1.cell 0
  have hf1 := k1.frozen 0
  simp only [List.getElem?_toArray, List.getElem?_cons_zero] at hc1
  clear hb1 hb2 hc hf k1
  go_wp2_with fail
  go_end0
  exact ⟨rfl, w1, HB1.out, rfl⟩

theorem chain_size (x : ByteArray) (hx : x.size ≤ 900000) (k : Nat) : (ofL (Wt.chain fh (bl x) k)).size ≤ 900000 := by
  rw [ofL_size]
  cases k with
  | zero => show (bl x).length ≤ _; rw [bl_len]; exact hx
  | succ k => show (fh _).length ≤ _; rw [fh_len]; omega

set_option maxRecDepth 100000 in
set_option maxHeartbeats 1000000 in
theorem walk_f (w : World) (ht : Tab w) (x : ByteArray) (hx : x.size ≤ 900000) (n : Nat) (hn : n ≤ 1000) :
    Calls Tryd.prog 22 #[.string x, .int .i64 (n : Int)] w fun e w' => e = .returned (.string (ofL (Wt.chain fh (bl x) n))) ∧ Below w.heap.size w w' := by
  have HT := Lib.hid ht
  clear ht
  go_enter Tryd.func22, Tryd.ntmps22
  go_wp2_with fail
  have HB := Lib.hid (Blk.new w 9 #[.string x])
  have HBW := Lib.hid ((Below.refl w.heap.size w).alloc (Nat.le_refl _) (.cells #[.string x] 9))
  obtain ⟨g, hg⟩ : ∃ g, g = w.heap.size := ⟨_, rfl⟩
  have HG := Lib.hid hg
  rw [← hg] at HB
  rw [← hg]
  clear hg
  obtain ⟨w1, hw1⟩ : ∃ w1, w1 = w.alloc (.cells #[.string x] 9) := ⟨_, rfl⟩
  rw [← hw1] at HB HBW
  rw [← hw1]
  clear hw1
  go_loopw [8] (fun i W => ∃ k : Nat, k ≤ n ∧ i = .int .i64 (k : Int) ∧ Hid (Blk W g 9 #[.string (ofL (Wt.chain fh (bl x) k))]) ∧ Hid (Below w.heap.size w W)) (fun i _ => n - (intOf i).toNat)
  case atStart => exact ⟨0, by omega, rfl, Lib.hid (by show Blk w1 g 9 #[.string (ofL (bl x))]; rw [ofL_bl]; exact HB.out), HBW⟩
  case round =>
    obtain ⟨k, hk, rfl, HB, HBW⟩ := hrel
    by_cases hkn : k < n
    · go_wp2_with fail
      refine (step_f wr g _ HB.out (HT.out.bel HBW.out) (chain_size x hx k)).mono ?_
      rintro e w2 ⟨rfl, U, hbU, rfl⟩
      have HB2 := Lib.hid (show Blk (U.setCell ⟨g, 0, none⟩ (.string (ofL (fh (bl (ofL (Wt.chain fh (bl x) k))))))) g 9 #[.string (ofL (Wt.chain fh (bl x) (k + 1)))] by
        have := (HB.out.below hbU).set_ 0 (.string (ofL (fh (bl (ofL (Wt.chain fh (bl x) k))))))
        rw [bl_ofL] at this
        rw [bl_ofL]
        exact this)
      have HBW2 := Lib.hid ((HBW.out.trans (hbU.mono HBW.out.size)).setCell (p := ⟨g, 0, none⟩) (by show w.heap.size ≤ g; rw [HG.out]; exact Nat.le_refl _) (.string (ofL (fh (bl (ofL (Wt.chain fh (bl x) k)))))))
      clear hbU
      go_wp2_with fail
      go_roundw
      case rel => exact ⟨k + 1, by omega, by go_num, HB2, HBW2⟩
      case measure => simp [intOf]; omega
    · have HK := Lib.hid (show k = n by omega)
      have hc := HB.out.cell 0
      simp only [List.getElem?_toArray, List.getElem?_cons_zero] at hc
      rw [HK.out] at hc
      go_wp2_with fail
      go_ret
      exact ⟨rfl, HBW.out⟩

end Bk
end Go.Proofs.YtlfpppffjedngaaDoor
