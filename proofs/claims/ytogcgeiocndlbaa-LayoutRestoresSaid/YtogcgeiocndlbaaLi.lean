/- Both Stripes of a bad layout; lists of stripes that read alike: the reference's Same. -/
import Derived.Test.YtogcgeiocndlbaaLh
import Derived.Deep.QuietTactic
import Derived.BigQuiet
namespace Go.Proofs.Ytogcgeiocndlbaa
open Go.RowKit
set_option linter.unusedVariables false
namespace Ly

set_option maxRecDepth 100000 in
set_option maxHeartbeats 1000000 in
theorem stripes_no (d t : Int) (h : ¬ okL d t) (s : ByteArray) (hs : s.size ≤ 100000) (w : World) :
    Calls Try.prog 11 #[.agg #[.int .i64 d, .int .i64 t], .string s] w (GivesRR [] 2 w) := by
  have HC := Lib.hid (fun W => check_no d t h W)
  clear h
  go_enter Try.func11, Try.ntmps11
  go_wp2_with fail
  refine (HC.out _).mono ?_
  rintro e w1 ⟨rfl, hb⟩
  have HB1 := Lib.hid (((Below.refl w.heap.size w).alloc (Nat.le_refl _) (.cells #[.int .i64 d, .int .i64 t] 23)).trans (hb.mono (by simp)))
  clear hb
  go_wp2_with fail
  go_ret2
  exact ⟨.slice none 0 0, [], rfl, World.ownsRow_nil _ _ _ _, RowsOk.nil _ _, HB1.out⟩
set_option maxRecDepth 100000 in
set_option maxHeartbeats 1000000 in
theorem rstripes_no (d t : Int) (h : ¬ okL d t) (s : ByteArray) (hs : s.size ≤ 100000) (w : World) :
    Calls Try.prog 12 #[.agg #[.int .i64 d, .int .i64 t], .string s] w (GivesRR [] 2 w) := by
  have HC := Lib.hid (fun W => rcheck_no d t h W)
  clear h
  go_enter Try.func12, Try.ntmps12
  go_wp2_with fail
  refine (HC.out _).mono ?_
  rintro e w1 ⟨rfl, hb⟩
  have HB1 := Lib.hid (((Below.refl w.heap.size w).alloc (Nat.le_refl _) (.cells #[.int .i64 d, .int .i64 t] 23)).trans (hb.mono (by simp)))
  clear hb
  go_wp2_with fail
  go_ret2
  exact ⟨.slice none 0 0, [], rfl, World.ownsRow_nil _ _ _ _, RowsOk.nil _ _, HB1.out⟩

/-- what both Stripes answer -/
def strsI (d t : Int) (l : List UInt8) : List (List ByteArray) := if okL d t then strs d.toNat t.toNat l else []
def strsE (d t : Int) : Int := if okL d t then 0 else 2
theorem stripes_f (d t : Int) (s : ByteArray) (hs : s.size ≤ 100000) (w : World) : Calls Try.prog 11 #[.agg #[.int .i64 d, .int .i64 t], .string s] w (GivesRR (strsI d t (bl s)) (strsE d t) w) := by
  unfold strsI strsE
  by_cases h : okL d t
  · rw [if_pos h, if_pos h]
    obtain ⟨h1, h2, h3, h4⟩ := h
    obtain ⟨D, rfl⟩ := Int.eq_ofNat_of_zero_le (show 0 ≤ d by omega)
    obtain ⟨S, rfl⟩ := Int.eq_ofNat_of_zero_le h3
    simp only [Int.toNat_natCast]
    exact stripes_try D S (by omega) (by omega) (by omega) s hs w
  · rw [if_neg h, if_neg h]
    exact stripes_no d t h s hs w
theorem rstripes_f (d t : Int) (s : ByteArray) (hs : s.size ≤ 100000) (w : World) : Calls Try.prog 12 #[.agg #[.int .i64 d, .int .i64 t], .string s] w (GivesRR (strsI d t (bl s)) (strsE d t) w) := by
  unfold strsI strsE
  by_cases h : okL d t
  · rw [if_pos h, if_pos h]
    obtain ⟨h1, h2, h3, h4⟩ := h
    obtain ⟨D, rfl⟩ := Int.eq_ofNat_of_zero_le (show 0 ≤ d by omega)
    obtain ⟨S, rfl⟩ := Int.eq_ofNat_of_zero_le h3
    simp only [Int.toNat_natCast]
    exact rstripes_yes D S (by omega) (by omega) (by omega) s hs w
  · rw [if_neg h, if_neg h]
    exact rstripes_no d t h s hs w

/-- a [][]string that reads as L -/
def Rd (w : World) (A : Option Addr) (n c : Nat) (L : List (List ByteArray)) : Prop :=
  n = L.length ∧ ∃ vs, Sl w 1 A n c vs ∧ ∀ k (h : k < L.length), ∃ A' c', vs[k]? = some (.slice A' L[k].length c') ∧ Lst Value.string w A' L[k].length c' L[k]
theorem Rd.of {w w' : World} {B : Nat} {v : Value} {vs : List Value} {L : List (List ByteArray)} (h : w.ownsRow B 40 1 v L.length vs) (hr : RowsOk w B vs L) : ∃ A c, v = .slice A L.length c ∧ Rd w A L.length c L := by
  obtain ⟨A, c, rfl, hs, _⟩ := own_form h
  refine ⟨A, c, rfl, rfl, vs, hs, fun k hk => ?_⟩
  obtain ⟨u, h1, h2⟩ := hr.2 k hk
  obtain ⟨A', c', rfl, h3, _⟩ := lst_own h2
  exact ⟨A', c', h1, h3⟩
theorem Rd.below {w w' : World} {A : Option Addr} {n c : Nat} {L : List (List ByteArray)} (h : Rd w A n c L) (hb : Below w.heap.size w w') : Rd w' A n c L := by
  obtain ⟨h1, vs, h2, h3⟩ := h
  exact ⟨h1, vs, h2.below hb, fun k hk => by obtain ⟨A', c', h4, h5⟩ := h3 k hk; exact ⟨A', c', h4, h5.below hb⟩⟩
theorem Rd.alloc {w : World} {A : Option Addr} {n c : Nat} {L : List (List ByteArray)} (h : Rd w A n c L) (o : Obj) : Rd (w.alloc o) A n c L := h.below ((Below.refl _ _).alloc (Nat.le_refl _) _)
theorem Rd.dr {w w' : World} {A : Option Addr} {n c : Nat} {L : List (List ByteArray)} (h : Rd w A n c L) (hd : Dr w w') : Rd w' A n c L := h.below (hd.below _)
theorem Rd.at_ {w : World} {A : Option Addr} {n c : Nat} {L : List (List ByteArray)} (h : Rd w A n c L) {k : Nat} (hk : k < L.length) : ∃ ad A' c', A = some ad ∧ ad.block < w.heap.size ∧ w.cell? (ad.add k) = some (.slice A' L[k].length c') ∧ Lst Value.string w A' L[k].length c' L[k] := by
  obtain ⟨h1, vs, h2, h3⟩ := h
  obtain ⟨A', c', h4, h5⟩ := h3 k hk
  obtain ⟨ad, rfl, hb, hc⟩ := h2.2.2.2 (by omega)
  exact ⟨ad, A', c', rfl, hb, hc k _ h4, h5⟩

set_option maxRecDepth 100000 in
set_option maxHeartbeats 2000000 in
theorem same_yes (w : World) (A : Option Addr) (n c : Nat) (A' : Option Addr) (c' : Nat) (L : List (List ByteArray)) (h : Rd w A n c L) (h' : Rd w A' n c' L) :
    Calls Try.prog 13 #[.slice A n c, .slice A' n c'] w fun e w' => e = .returned (.bool true) ∧ Dr w w' := by
  have hn := h.1
  obtain ⟨vs, hsl, _⟩ := h.2
  have hlc : n ≤ c := hsl.1
  have hcm : c ≤ 9223372036854775807 := hsl.2.1
  have H := Lib.hid h
  have H' := Lib.hid h'
  have HN := Lib.hid hn
  clear h h' hn hsl
  go_enter Try.func13, Try.ntmps13
  go_wp2_with fail
  go_loopw [5] (fun i wr => ∃ k : Nat, k ≤ n ∧ i = .int .i64 (k : Int) ∧ Hid (Dr w wr)) (fun i _ => n - (intOf i).toNat)
  case atStart => exact ⟨0, by omega, rfl, Lib.hid (Dr.refl _)⟩
  case round =>
    obtain ⟨k, hk, rfl, HD⟩ := hrel
    by_cases hkn : k < n
    · have hkl : k < L.length := by rw [← HN.out]; exact hkn
      obtain ⟨ad, A1, c1, rfl, _, hc1, hl1⟩ := (H.out.dr HD.out).at_ hkl
      obtain ⟨ad', A2, c2, rfl, _, hc2, hl2⟩ := (H'.out.dr HD.out).at_ hkl
      obtain ⟨m, hm⟩ : ∃ m, m = L[k].length := ⟨_, rfl⟩
      rw [← hm] at hc1 hc2 hl1 hl2
      have HL1 := Lib.hid hl1
      have HL2 := Lib.hid hl2
      have hmx : m ≤ 9223372036854775807 := hl1.le_max
      have HM := Lib.hid hm
      clear hl1 hl2 hm
      obtain ⟨wo, rfl⟩ : ∃ wo : World, wo = wr := ⟨_, rfl⟩
      go_wp2_with fail
      go_quiet (fail)
      go_wp2_with fail
      go_loopw [6] (fun j_ wq => ∃ j : Nat, j ≤ m ∧ j_ = .int .i64 (j : Int) ∧ Hid (Dr wo wq)) (fun j_ _ => m - (intOf j_).toNat)
      case atStart => exact ⟨0, by omega, rfl, Lib.hid ((Dr.refl wo).drewN _)⟩
      case round =>
        obtain ⟨j, hj, rfl, HD2⟩ := hrel
        have hc1' : wr.cell? (ad.add k) = some (.slice A1 m c1) := by
          obtain ⟨d, rfl⟩ := HD2.out
          exact hc1
        have hc2' : wr.cell? (ad'.add k) = some (.slice A2 m c2) := by
          obtain ⟨d, rfl⟩ := HD2.out
          exact hc2
        clear hc1 hc2
        by_cases hjm : j < m
        · have hjl : j < L[k].length := by rw [← HM.out]; exact hjm
          obtain ⟨a1, rfl, _, hx1⟩ := (HL1.out.dr HD2.out).at_ hjl
          obtain ⟨a2, rfl, _, hx2⟩ := (HL2.out.dr HD2.out).at_ hjl
          obtain ⟨t, ht⟩ : ∃ t, t = L[k][j] := ⟨_, rfl⟩
          rw [← ht] at hx1 hx2
          clear ht
          go_wp2_with fail
          go_quiet (fail)
          go_wp2_with fail
          go_roundw
          case rel => exact ⟨j + 1, by omega, by go_num, Lib.hid (HD2.out.drewN _)⟩
          case measure => simp [intOf]; omega
        · go_wp2_with fail
          go_roundw
          case rel => exact ⟨k + 1, by omega, by go_num, Lib.hid (HD.out.trans HD2.out)⟩
          case measure => simp [intOf]; omega
    · go_wp2_with fail
      go_ret
      exact ⟨rfl, HD.out⟩

end Ly
end Go.Proofs.Ytogcgeiocndlbaa
