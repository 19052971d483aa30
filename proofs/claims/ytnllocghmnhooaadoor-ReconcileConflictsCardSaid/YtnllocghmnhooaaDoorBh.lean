/- Netstrings and the hash of a list of strings, the program's. -/
import Derived.Test.YtnllocghmnhooaaDoorBg
import Derived.Test.YtnllocghmnhooaaDoorBv
namespace Go.Proofs.YtnllocghmnhooaaDoor
open Go.RowKit
set_option linter.unusedVariables false
namespace Bk

/-- strings as values -/
def S (s : ByteArray) : Value := .string s
def sv (l : List ByteArray) : List Value := l.map S
def bls (l : List ByteArray) : List (List UInt8) := l.map bl
/-- a []string that reads as l -/
def Stl (w : World) (A : Option Addr) (n c : Nat) (l : List ByteArray) : Prop := Sl w 1 A n c (sv l)
theorem Stl.len {w : World} {A : Option Addr} {n c : Nat} {l : List ByteArray} (h : Stl w A n c l) : n = l.length := by
  have := h.2.2.1
  simp [sv] at this; omega
theorem Stl.at_ {w : World} {A : Option Addr} {n c : Nat} {l : List ByteArray} (h : Stl w A n c l) {k : Nat} (hk : k < l.length) : ∃ ad, A = some ad ∧ ad.block < w.heap.size ∧ w.cell? (ad.add k) = some (.string l[k]) := by
  obtain ⟨ad, u, e, hb, hx, hc⟩ := Sl.at_ h (by rw [h.len]; exact hk)
  refine ⟨ad, e, hb, ?_⟩
  rw [hc]
  unfold sv at hx
  rw [List.getElem?_map, List.getElem?_eq_getElem hk] at hx
  exact hx.symm
theorem Stl.below {w w' : World} {A : Option Addr} {n c : Nat} {l : List ByteArray} (h : Stl w A n c l) (hb : Below w.heap.size w w') : Stl w' A n c l := Sl.below h hb
theorem nstr_len (s : List UInt8) (hs : s.length ≤ 1000000) : (nstr s).length ≤ s.length + 23 := by
  have := itoa_len (s.length : Int) (by omega) (by omega)
  unfold nstr
  simp; omega
theorem ofL_size (l : List UInt8) : (ofL l).size = l.length := by show l.toArray.size = _; simp
theorem ofL_append (a b : List UInt8) : ofL a ++ ofL b = ofL (a ++ b) := by
  unfold ofL
  exact ByteArray.ext (by simp [ByteArray.data_append])

set_option maxRecDepth 100000 in
theorem str_f (w : World) (ht : Tab w) (s : ByteArray) (hs : s.size ≤ 1000000) :
    Calls Tryd.prog 65 #[.string s] w fun e w' => e = .returned (.string (ofL (nstr (bl s)))) ∧ Below w.heap.size w w' := by
  have HI := Lib.hid (itoa_f (s.size : Int) (by omega) (by omega) w ht)
  have hd := itoa_len (s.size : Int) (by omega) (by omega)
  have hds : (ofL (Lib.itoa (s.size : Int))).size ≤ 21 := by rw [ofL_size]; exact hd
  have HE := Lib.hid (show ofL (Lib.itoa (s.size : Int)) ++ ⟨#[58]⟩ ++ s ++ ⟨#[44]⟩ = ofL (nstr (bl s)) by
    unfold nstr
    rw [bl_len, ← ofL_append, ← ofL_append, ← ofL_append, ofL_bl]; rfl)
  obtain ⟨d, hd'⟩ : ∃ d, d = ofL (Lib.itoa (s.size : Int)) := ⟨_, rfl⟩
  rw [← hd'] at HI hds HE
  have g1 : ¬ 9223372036854775807 < d.size + 1 := by omega
  clear hd' hd
  go_enter Tryd.func65, Tryd.ntmps65
  go_wp2_with fail
  refine HI.out.mono ?_
  rintro e w1 ⟨rfl, hb1⟩
  have HB1 := Lib.hid hb1
  clear hb1
  go_wp2_with fail
  go_ret
  exact ⟨congrArg (fun z => Ending.returned (Value.string z)) HE.out, HB1.out⟩
/-- how long the netstrings are -/
def tot (l : List ByteArray) : Nat := (nstrs (bls l)).length
theorem bls_get {l : List ByteArray} {k : Nat} (h : k < l.length) : (bls l).getD k [] = bl l[k] := by
  unfold bls
  simp [List.getD, List.getElem?_eq_getElem h]
theorem tot_take (l : List ByteArray) (k : Nat) : (nstrs ((bls l).take k)).length ≤ tot l := by
  unfold tot
  have h : bls l = (bls l).take k ++ (bls l).drop k := (List.take_append_drop k _).symm
  have h2 : nstrs (bls l) = nstrs ((bls l).take k) ++ nstrs ((bls l).drop k) := by
    unfold nstrs
    rw [← List.flatMap_append, List.take_append_drop]
  rw [h2, List.length_append]; omega

set_option maxRecDepth 100000 in
set_option maxHeartbeats 1000000 in
theorem strs_f (w : World) (ht : Tab w) (A : Option Addr) (n c : Nat) (l : List ByteArray) (h : Stl w A n c l) (hl : ∀ s ∈ l, s.size ≤ 1000000) (htot : tot l ≤ 10000000) :
    Calls Tryd.prog 51 #[.slice A n c] w fun e w' => e = .returned (.string (ofL (nstrs (bls l)))) ∧ Below w.heap.size w w' := by
  have HL := Lib.hid h
  have HN := Lib.hid h.len
  have hnm : n ≤ 9223372036854775807 := h.le_max
  have HT := Lib.hid ht
  have HS := Lib.hid hl
  have HTO := Lib.hid htot
  clear h ht hl htot
  go_enter Tryd.func51, Tryd.ntmps51
  go_wp2_with fail
  have HBD := Lib.hid (Bld.new w (Nat.le_refl w.heap.size))
  have HBW := Lib.hid ((Below.refl w.heap.size w).alloc (Nat.le_refl _) (.cells #[.pointer none, .slice none 0 0] 76))
  obtain ⟨b, hb⟩ : ∃ b, b = w.heap.size := ⟨_, rfl⟩
  have HB := Lib.hid hb
  rw [← hb] at HBD
  rw [← hb]
  clear hb
  obtain ⟨w1, hw1⟩ : ∃ w1, w1 = w.alloc (.cells #[.pointer none, .slice none 0 0] 76) := ⟨_, rfl⟩
  rw [← hw1] at HBD HBW
  rw [← hw1]
  clear hw1
  go_loopw [8] (fun x W => ∃ k : Nat, k ≤ n ∧ x = .int .i64 (k : Int) ∧ Hid (Bld W w.heap.size b (nstrs ((bls l).take k))) ∧ Hid (Below w.heap.size w W)) (fun x _ => n - (intOf x).toNat)
  case atStart => exact ⟨0, by omega, rfl, Lib.hid (by rw [HB.out]; simpa [nstrs, HB.out] using HBD.out), HBW⟩
  case round =>
    obtain ⟨k, hk, rfl, HBD, HBW⟩ := hrel
    by_cases hkn : k < n
    · have hkl : k < l.length := by rw [← HN.out]; exact hkn
      obtain ⟨ad, rfl, _, hc⟩ := (HL.out.below HBW.out).at_ hkl
      obtain ⟨s, hs⟩ : ∃ s, s = l[k] := ⟨_, rfl⟩
      rw [← hs] at hc
      have hsz : s.size ≤ 1000000 := by rw [hs]; exact HS.out _ (List.getElem_mem hkl)
      have HNX := Lib.hid (show nstrs ((bls l).take (k + 1)) = nstrs ((bls l).take k) ++ nstr (bl s) by
        rw [nstrs_take (by simpa [bls] using hkl), bls_get hkl, hs])
      have HTK := Lib.hid (tot_take l k)
      have HSZ := Lib.hid hsz
      clear hs hsz hkl
      go_wp2_with fail
      refine (str_f wr (HT.out.bel HBW.out) s HSZ.out).mono ?_
      rintro e w2 ⟨rfl, hb2⟩
      have HBD2 := Lib.hid (HBD.out.below hb2)
      have HBW2 := Lib.hid (HBW.out.trans (hb2.mono HBW.out.size))
      clear hb2
      go_wp2_with fail
      refine (wstr HBD2.out (by have := HTK.out; have := HTO.out; omega) HBW2.out.size (ofL (nstr (bl s))) (by rw [ofL_size]; have := nstr_len (bl s) (by rw [bl_len]; exact HSZ.out); rw [bl_len] at this; have := HSZ.out; omega)).mono ?_
      rintro e w3 ⟨rfl, hbd, hbb, _⟩
      rw [bl_ofL, ← HNX.out] at hbd
      have HBD3 := Lib.hid hbd
      have HBW3 := Lib.hid (HBW2.out.trans hbb)
      clear hbd hbb
      go_wp2_with fail
      go_roundw
      case rel => exact ⟨k + 1, by omega, by go_num, HBD3, HBW3⟩
      case measure => simp [intOf]; omega
    · have HK := Lib.hid (show (bls l).take k = bls l from List.take_of_length_le (by simp [bls]; rw [← HN.out]; omega))
      rw [HK.out] at HBD
      go_wp2_with fail
      refine (bstring HBD.out HBW.out.size).mono ?_
      rintro e w2 ⟨rfl, _, hbb, _⟩
      have HBW2 := Lib.hid (HBW.out.trans hbb)
      clear hbb
      go_wp2_with fail
      go_ret
      exact ⟨rfl, HBW2.out⟩

end Bk
end Go.Proofs.YtnllocghmnhooaaDoor
