/- wots: the secrets and the public key of the ends; the program's. -/
import Derived.Test.YtlfpppffjedngaaDoorBi
namespace Go.Proofs.YtlfpppffjedngaaDoor
open Go.RowKit
set_option linter.unusedVariables false
namespace Bk

theorem bls_cons (a : ByteArray) (l : List ByteArray) : bls (a :: l) = bl a :: bls l := rfl
theorem nstr_le (s : ByteArray) (hs : s.size ≤ 1000000) : (nstr (bl s)).length ≤ s.size + 23 := by
  have := nstr_len (bl s) (by rw [bl_len]; exact hs)
  rwa [bl_len] at this
theorem tot_cons (a : ByteArray) (l : List ByteArray) (ha : a.size ≤ 1000000) : tot (a :: l) ≤ a.size + 23 + tot l := by
  unfold tot
  rw [bls_cons, nstrs_cons, List.length_append]
  have := nstr_le a ha
  omega
theorem tot_nil : tot [] = 0 := rfl
set_option maxRecDepth 100000 in
set_option maxHeartbeats 1000000 in
theorem secret_f (w : World) (ht : Tab w) (seed : ByteArray) (hs : seed.size ≤ 900000) (key i : Int) (hk0 : -9223372036854775808 ≤ key) (hk1 : key ≤ 9223372036854775807) (hi0 : -9223372036854775808 ≤ i) (hi1 : i ≤ 9223372036854775807) :
    Calls Tryd.prog 23 #[.string seed, .int .i64 key, .int .i64 i] w fun e w' => e = .returned (.string (ofL (sec (bl seed) key i))) ∧ Below w.heap.size w w' := by
  have HT := Lib.hid ht
  have HN1 := Lib.hid (num_f w ht key hk0 hk1)
  have HN2 := Lib.hid (fun V (hV : Tab V) => num_f V hV i hi0 hi1)
  obtain ⟨a, ha⟩ : ∃ a, a = ofL (num key) := ⟨_, rfl⟩
  obtain ⟨b, hb⟩ : ∃ b, b = ofL (num i) := ⟨_, rfl⟩
  have HA := Lib.hid (show a.size ≤ 22 by rw [ha, ofL_size]; exact num_len key hk0 hk1)
  have HB := Lib.hid (show b.size ≤ 22 by rw [hb, ofL_size]; exact num_len i hi0 hi1)
  have HE := Lib.hid (show H (bls [⟨#[119, 111, 116, 115]⟩, seed, a, b]) = sec (bl seed) key i by
    rw [bls_cons, bls_cons, bls_cons, bls_cons, ha, hb, bl_ofL, bl_ofL]; rfl)
  rw [← ha] at HN1
  rw [← hb] at HN2
  clear ha hb ht
  have HH := Lib.hid (fun (V : World) (hV : Tab V) g (hg : Blk V g 9 #[.string ⟨#[119, 111, 116, 115]⟩, .string seed, .string a, .string b]) => hash_f V hV (some ⟨g, 0, none⟩) 4 4 [⟨#[119, 111, 116, 115]⟩, seed, a, b]
    (Blk.sl (n := 4) (size := 1) hg rfl (by unfold maxLen; omega)) (fun s hs' => by
      have h1 := HA.out
      have h2 := HB.out
      simp only [List.mem_cons, List.not_mem_nil, or_false] at hs'
      rcases hs' with rfl | rfl | rfl | rfl
      · decide
      · omega
      · omega
      · omega) (by
      have h1 := HA.out
      have h2 := HB.out
      have t1 := tot_cons ⟨#[119, 111, 116, 115]⟩ [seed, a, b] (by decide)
      have t2 := tot_cons seed [a, b] (by omega)
      have t3 := tot_cons a [b] (by omega)
      have t4 := tot_cons b [] (by omega)
      have t5 := tot_nil
      have t6 : (⟨#[119, 111, 116, 115]⟩ : ByteArray).size = 4 := rfl
      omega))
  go_enter Tryd.func23, Tryd.ntmps23
  go_wp2_with fail
  refine HN1.out.mono ?_
  rintro e w1 ⟨rfl, hb1⟩
  have HB1 := Lib.hid hb1
  clear hb1
  go_wp2_with fail
  refine (HN2.out w1 (HT.out.bel HB1.out)).mono ?_
  rintro e w2 ⟨rfl, hb2⟩
  have HB2 := Lib.hid (HB1.out.trans (hb2.mono HB1.out.size))
  clear hb2 HB1
  go_wp2_with fail
  refine (HH.out _ ((HT.out.bel HB2.out).alloc _) _ (Blk.new w2 _ _)).mono ?_
  rintro e w3 ⟨rfl, hb3⟩
  have HB3 := Lib.hid ((HB2.out.alloc HB2.out.size _).trans (hb3.mono (Nat.le_trans HB2.out.size (by simp))))
  clear hb3
  rw [HE.out]
  go_wp2_with fail
  go_ret
  exact ⟨rfl, HB3.out⟩

theorem info_str : (Tryd.prog.info? 9).map (fun i => (i.zero, i.size, i.bytes)) = some (some (.string ⟨#[]⟩), 1, 16) := by kernel_rfl
theorem sv_one (l : List ByteArray) : ∀ u ∈ sv l, u.oneCell' = true := by
  intro u hu
  obtain ⟨x, _, rfl⟩ := List.mem_map.1 hu
  rfl
theorem sv_app (a b : List ByteArray) : sv (a ++ b) = sv a ++ sv b := by simp [sv]
set_option maxRecDepth 100000 in
set_option maxHeartbeats 1000000 in
theorem public_f (w : World) (ht : Tab w) (A : Option Addr) (n c : Nat) (l : List ByteArray) (h : Stl w A n c l) (hn : n ≤ 100) (hl : ∀ s ∈ l, s.size ≤ 1000) :
    Calls Tryd.prog 24 #[.slice A n c] w fun e w' => e = .returned (.string (ofL (pubH (bls l)))) ∧ Below w.heap.size w w' := by
  have HT := Lib.hid ht
  have HL := Lib.hid h
  have HN := Lib.hid h.len
  have HLL := Lib.hid hl
  have HTO := Lib.hid (show tot (⟨#[112, 117, 98, 108, 105, 99]⟩ :: l) ≤ 1000000 by
    have key : ∀ m : List ByteArray, (∀ s ∈ m, s.size ≤ 1000) → tot m ≤ 1023 * m.length := by
      intro m
      induction m with
      | nil => intro _; exact Nat.le_refl _
      | cons a m ih =>
        intro hm
        have h1 := hm a (by simp)
        have h2 := tot_cons a m (by omega)
        have h3 := ih (fun s hs => hm s (by simp [hs]))
        simp only [List.length_cons]
        omega
    have h1 := key l hl
    have h2 := tot_cons ⟨#[112, 117, 98, 108, 105, 99]⟩ l (by decide)
    have h3 : (⟨#[112, 117, 98, 108, 105, 99]⟩ : ByteArray).size = 6 := rfl
    have h4 := h.len
    omega)
  obtain ⟨i0, hi', hz0, hz1, hz2⟩ := info_parts info_str
  clear ht h hl
  go_enter Tryd.func24, Tryd.ntmps24
  have HB := Lib.hid (Blk.new w 9 #[.string ⟨#[112, 117, 98, 108, 105, 99]⟩])
  have HO := Lib.hid (Blk.own (n := 1) (size := 1) HB.out (Nat.le_refl _) rfl (by unfold maxLen; omega))
  have HLA := Lib.hid (Sl.alloc HL.out (.cells #[.string ⟨#[112, 117, 98, 108, 105, 99]⟩] 9))
  go_wp2_with (at_builtin; refine wpl_append_sl _ rfl _ _ _ rfl w.heap.size 9 i0 (.string ⟨#[]⟩) 1 16 Tryd.underlying42 hi' hz0 hz1 hz2 rfl (by decide) _ 1 (sv [⟨#[112, 117, 98, 108, 105, 99]⟩]) rfl HO.out A n c (sv l) rfl HLA.out (sv_one _) (by unfold maxLen; omega) (by omega) (by simp) ?_; intro v' w1 hown hgrow _)
  have hb1 : Below w.heap.size w w1 := ((Below.refl w.heap.size w).alloc (Nat.le_refl _) _).grown hgrow (by simp) (fun k hk => by cases hk; exact Nat.le_refl _)
  have HB1 := Lib.hid hb1
  obtain ⟨A', c', rfl, hsl, _⟩ := own_form hown
  clear hgrow hb1 hown
  have HSL := Lib.hid (show Stl w1 A' (1 + n) c' (⟨#[112, 117, 98, 108, 105, 99]⟩ :: l) from hsl)
  clear hsl
  refine (hash_f w1 (HT.out.bel HB1.out) A' (1 + n) c' (⟨#[112, 117, 98, 108, 105, 99]⟩ :: l) HSL.out (fun s hs => by
    rcases List.mem_cons.1 hs with rfl | hs
    · decide
    · have := HLL.out s hs; omega) HTO.out).mono ?_
  rintro e w2 ⟨rfl, hb2⟩
  have HB2 := Lib.hid (HB1.out.trans (hb2.mono HB1.out.size))
  clear hb2
  go_wp2_with fail
  go_ret
  exact ⟨rfl, HB2.out⟩

end Bk
end Go.Proofs.YtlfpppffjedngaaDoor
