/- The law WotsRecovers of stelelaw29 returns true for every input in a world that holds the table of the powers of ten. -/
import Derived.Test.YtlfpppffjedngaaDoorBo
import Derived.Test.YtlfpppffjedngaaDoorCi
namespace Go.Proofs.YtlfpppffjedngaaDoor
namespace WotsRecovers
open Go.RowKit Bk

set_option maxRecDepth 100000 in
set_option maxHeartbeats 1000000 in
theorem same_f (w : World) (A A' : Option Addr) (c c' : Nat) (l : List Nat) (h : Sl w 1 A l.length c (dv l)) (h' : Sl w 1 A' l.length c' (dv l)) (hl : l.length ≤ 1000) :
    Calls Tryd.prog 17 #[.slice A l.length c, .slice A' l.length c'] w fun e w' => e = .returned (.bool true) ∧ Below w.heap.size w w' := by
  have H := Lib.hid h
  have H' := Lib.hid h'
  clear h h'
  obtain ⟨n, hn⟩ : ∃ n, n = l.length := ⟨_, rfl⟩
  rw [← hn] at H H' hl ⊢
  have HN := Lib.hid hn
  clear hn
  go_enter Tryd.func17, Tryd.ntmps17
  go_wp2_with fail
  go_loopw [13] (fun x W => ∃ k : Nat, k ≤ n ∧ x = .int .i64 (k : Int) ∧ Hid (Dr w W)) (fun x _ => n - (intOf x).toNat)
  case atStart => exact ⟨0, by omega, rfl, Lib.hid (Dr.refl _)⟩
  case round =>
    obtain ⟨k, hk, rfl, HD⟩ := hrel
    by_cases hkn : k < n
    · obtain ⟨ad, rfl, _, hc⟩ := dv_at (HD.out.sl H.out) (k := k) (by rw [← HN.out]; exact hkn)
      obtain ⟨ad', rfl, _, hc'⟩ := dv_at (HD.out.sl H'.out) (k := k) (by rw [← HN.out]; exact hkn)
      obtain ⟨d, hd⟩ : ∃ d, d = l.getD k 0 := ⟨_, rfl⟩
      rw [← hd] at hc hc'
      have hdd : ((d : Int) != (d : Int)) = false := by simp
      clear hd
      go_wp2_with fail
      go_quiet (fail)
      go_wp2_with fail
      go_roundw
      case rel => exact ⟨k + 1, by omega, by go_num, Lib.hid (HD.out.drewN _)⟩
      case measure => simp [intOf]; omega
    · go_wp2_with fail
      go_ret
      exact ⟨rfl, HD.out.below _⟩

set_option maxRecDepth 100000 in
set_option maxHeartbeats 1000000 in
theorem core (w : World) (ht : Tab w) (msg sig : ByteArray) (hm : msg.size ≤ 140737488355328) (hs : sig.size ≤ 140737488355328) :
    Calls Tryd.prog 4 #[.string msg, .string sig] w fun e w' => e = .returned (.bool true) ∧ Below w.heap.size w w' := by
  have HT := Lib.hid ht
  clear ht
  go_enter Tryd.func4, Tryd.ntmps4
  go_wp2_with fail
  refine (alive_f w HT.out).mono ?_
  rintro e w1 ⟨rfl, hb1⟩
  have HB1 := Lib.hid hb1
  clear hb1
  by_cases hl : 1500 < msg.size + sig.size
  · go_wp2_with fail
    go_ret
    exact ⟨rfl, HB1.out⟩
  have HR := Lib.hid (fun V (hV : Tab V) => rec_f V hV msg (by omega) sig (by omega))
  have HRR := Lib.hid (fun V => rrec_f V msg (by omega) sig (by omega))
  have HD := Lib.hid (fun V (hV : Tab V) => digits_f V hV msg (by omega))
  have HRD := Lib.hid (fun V => rdigs_f V msg (by omega))
  obtain ⟨p, hp⟩ : ∃ p, p = ofL (recP (bl msg) (bl sig)) := ⟨_, rfl⟩
  obtain ⟨x, hx⟩ : ∃ x, x = recE (bl sig) := ⟨_, rfl⟩
  rw [← hp, ← hx] at HR HRR
  have hpp : (p.toList == p.toList) = true := by simp
  have hxx : (x == x) = true := by simp
  clear hp hx
  go_wp2_with fail
  refine (HR.out w1 (HT.out.bel HB1.out)).mono ?_
  rintro e w2 ⟨rfl, hb2⟩
  have HB2 := Lib.hid (HB1.out.trans (hb2.mono HB1.out.size))
  clear hb2 HB1
  go_wp2_with fail
  refine (HRR.out w2).mono ?_
  rintro e w3 ⟨rfl, hb3⟩
  have HB3 := Lib.hid (HB2.out.trans (hb3.mono HB2.out.size))
  clear hb3 HB2
  go_wp2_with fail
  refine (HD.out w3 (HT.out.bel HB3.out)).mono ?_
  rintro e w4 ⟨v, rfl, hown, hb4⟩
  have HB4 := Lib.hid (HB3.out.trans (hb4.mono HB3.out.size))
  obtain ⟨A, c, rfl, hsl, _⟩ := own_form hown
  have HX := Lib.hid hsl
  clear hb4 HB3 hown hsl
  go_wp2_with fail
  refine (HRD.out w4).mono ?_
  rintro e w5 ⟨v, rfl, hown, hb5⟩
  have HB5 := Lib.hid (HB4.out.trans (hb5.mono HB4.out.size))
  have HX5 := Lib.hid (Sl.below HX.out hb5)
  obtain ⟨A', c', rfl, hsl, _⟩ := own_form hown
  have HY := Lib.hid hsl
  clear hb5 HB4 hown hsl
  go_wp2_with fail
  refine (same_f w5 A A' c c' (mdig (bl msg)) HX5.out HY.out (by rw [mdig_len]; omega)).mono ?_
  rintro e w6 ⟨rfl, hb6⟩
  have HB6 := Lib.hid (HB5.out.trans (hb6.mono HB5.out.size))
  clear hb6
  go_wp2_with fail
  go_ret
  exact ⟨rfl, HB6.out⟩

end WotsRecovers
end Go.Proofs.YtlfpppffjedngaaDoor
