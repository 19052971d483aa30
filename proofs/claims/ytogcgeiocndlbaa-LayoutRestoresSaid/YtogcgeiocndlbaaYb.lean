/- Walks: the block at an index of what was chosen; the tests of the choice. -/
import Derived.Test.YtogcgeiocndlbaaYa
namespace Go.Proofs.Ytogcgeiocndlbaa
open Go.RowKit

/-- what was chosen, as a value -/
def selV (A : Option Addr) (n c : Nat) (A' : Option Addr) (n' c' : Nat) : Value := .agg #[.slice A n c, .slice A' n' c']

set_option maxRecDepth 100000 in
set_option maxHeartbeats 1000000 in
theorem block_f (w : World) (A : Option Addr) (n c : Nat) (xs : List UInt8) (h : Byt w A n c xs) (A' : Option Addr) (n' c' : Nat) (bs : List ByteArray) (h' : Lst Value.string w A' n' c' bs) (hn : bs.length = xs.length) (hpos : 0 < xs.length) (hl : xs.length ≤ 64)
    (L : Nat) (hL : L ≤ 65536) (hsz : ∀ b ∈ bs, b.size = L) (j : Nat) (hj : j < 256) :
    Calls Try.prog 28 #[.agg #[.slice A n c, .slice A' n' c'], .int .i64 (j : Int)] w fun e w' => e = .returned (.string (blkS (xs, bs) (UInt8.ofNat j))) ∧ Below w.heap.size w w' := by
  obtain ⟨y, hy⟩ : ∃ y, y = UInt8.ofNat j := ⟨_, rfl⟩
  have HX := Lib.hid (h.alloc (.cells #[.slice A n c, .slice A' n' c'] 59))
  have HB := Lib.hid (h'.alloc (.cells #[.slice A n c, .slice A' n' c'] 59))
  have HV := Lib.hid (Blk.new w 59 #[.slice A n c, .slice A' n' c'])
  have HCI := Lib.hid (fun (W : World) (hW : Byt W A n c xs) => show Calls Try.prog 39 #[.slice A n c, .int .u8 (j : Int)] W (GivesF xs y W) by
    have := interp_f W A n c xs y hW hl
    rwa [show (y.toNat : Int) = (j : Int) by rw [hy, UInt8.toNat_ofNat', Nat.mod_eq_of_lt (by omega)]] at this)
  have HCJ := Lib.hid (fun (W : World) (g : Nat) (Aw : Option Addr) (nw cw : Nat) (hW : Lst Value.string W A' n' c' bs) (hv : Blk W g 57 #[.slice Aw nw cw]) (hw : Byt W Aw nw cw (wts xs y xs.length)) =>
    show Calls Try.prog 55 #[.slice A' n' c', .pointer (some ⟨g, 0, none⟩)] W fun e w' => e = .returned (.string (blkS (xs, bs) (UInt8.ofNat j))) ∧ Below W.heap.size W w' by
    have := interp1_f W A' n' c' bs hW xs y hn hpos hl L hL hsz g Aw nw cw hv hw
    unfold blkS
    rw [← hy]
    exact this)
  obtain ⟨r, hr⟩ : ∃ r, r = blkS (xs, bs) (UInt8.ofNat j) := ⟨_, rfl⟩
  rw [← hr] at HCJ ⊢
  have hw2 : IntKind.u8.wrap (j : Int) = (j : Int) := by rw [IntKind.wrap_u8]; omega
  clear h h' hn hpos hl hsz hy hr
  go_enter Try.func28, Try.ntmps28
  go_wp2
  go_region_held3 (fun w' => w'.cell? ⟨w.heap.size, 0, none⟩ = some (.slice A n c) ∧ w'.cell? ⟨w.heap.size, 1, none⟩ = some (.slice A' n' c'))
    (first | exact ⟨HV.out.cell 0, HV.out.cell 1⟩ | exact ⟨(Blk.below (w := (World.alloc w _).drew) HV.out HB3.out).cell 0, (Blk.below (w := (World.alloc w _).drew) HV.out HB3.out).cell 1⟩ | exact ⟨(Blk.below (Blk.below (w := (World.alloc w _).drew) HV.out HB3.out) HB4.out).cell 0, (Blk.below (Blk.below (w := (World.alloc w _).drew) HV.out HB3.out) HB4.out).cell 1⟩)
    (first
      | (go_at_call 39; (with_reducible refine (HCI.out _ ?_).mono ?_); exact HX.out.drew; rintro e w3 ⟨fv, rfl, ⟨g, Aw, nw, cw, rfl, hbv, hbw⟩, hb3⟩; have HV3 := Lib.hid hbv; have HW3 := Lib.hid hbw; have HB3 := Lib.hid hb3; clear hbv hbw hb3)
      | (go_at_call 55; (with_reducible refine (HCJ.out _ g Aw nw cw ?_ HV3.out HW3.out).mono ?_); exact Lst.below (w := (World.alloc w _).drew) HB.out HB3.out; rintro e w4 ⟨rfl, hb4⟩; have HB4 := Lib.hid hb4; clear hb4))
  have HBB := Lib.hid (((Below.refl w.heap.size w).alloc (Nat.le_refl _) (.cells #[.slice A n c, .slice A' n' c'] 59)).drew.trans ((HB3.out.mono (by simp)).trans (HB4.out.mono (by have := HB3.out.size; simp at this; omega))))
  go_wp2
  go_ret
  exact ⟨rfl, HBB.out⟩

theorem badIdx_b (x : Int × ByteArray) (hx : IntKind.i64.min ≤ x.1 ∧ x.1 ≤ IntKind.i64.max) (w : World) : Answers 42 #[] (shv x) (badIdx x) w := by
  intro W _
  obtain ⟨i, s⟩ := x
  have h1 : -9223372036854775808 ≤ i := hx.1
  have h2 : i ≤ 9223372036854775807 := hx.2
  have hc0 := (Blk.new W 47 #[.int .i64 i, .string s]).cell 0
  have HI := Lib.hid (show badIdx (i, s) = (decide (i < 0) || decide (15 ≤ i)) from rfl)
  unfold shv
  clear hx
  by_cases h0 : i < 0
  · go_enter Try.func42, Try.ntmps42
    go_wp2
    go_ret
    exact ⟨by rw [HI.out]; simp [h0], (Below.refl _ _).alloc (Nat.le_refl _) _⟩
  · go_enter Try.func42, Try.ntmps42
    go_wp2
    go_ret
    exact ⟨by rw [HI.out]; simp; omega, (Below.refl _ _).alloc (Nat.le_refl _) _⟩

theorem badLen_b (hv : List (Int × ByteArray)) (w : World) (A : Option Addr) (n c : Nat) (h : Shs w A n c hv) (g : Nat) (hb : Blk w g 45 #[.slice A n c]) (hpos : 0 < hv.length) (x : Int × ByteArray) :
    Answers 43 #[.pointer (some ⟨g, 0, none⟩)] (shv x) (badLen hv x) w := by
  intro W hB
  obtain ⟨i, s⟩ := x
  obtain ⟨ad, rfl, _, hc, hc'⟩ := ((h.below hB).alloc (.cells #[.int .i64 i, .string s] 47)).at_ hpos
  rw [show ad.add (0 * 2) = ad from rfl] at hc hc'
  have hn := h.len
  have hn0 : 0 < n := by omega
  have hc1 := (Blk.new W 47 #[.int .i64 i, .string s]).cell 1
  have hcv := ((hb.below hB).alloc (.cells #[.int .i64 i, .string s] 47)).cell 0
  have hu : badLen hv (i, s) = ((s.size : Int) != (hv[0].2.size : Int)) := by
    unfold badLen
    rw [show hv.getD 0 default = hv[0] by simp [List.getD, List.getElem?_eq_getElem hpos]]
    rw [Bool.eq_iff_iff]; simp; omega
  have HU := Lib.hid hu
  unfold shv
  clear hu hn h hb
  go_enter Try.func43, Try.ntmps43
  go_wp2
  go_quiet (fail)
  go_wp2
  go_ret
  exact ⟨by rw [HU.out]; rfl, below_drewN ((Below.refl _ _).alloc (Nat.le_refl _) _) _⟩

set_option maxRecDepth 100000 in
set_option maxHeartbeats 1000000 in
theorem off_b (w : World) (A : Option Addr) (n c : Nat) (xs : List UInt8) (h : Byt w A n c xs) (A' : Option Addr) (n' c' : Nat) (bs : List ByteArray) (h' : Lst Value.string w A' n' c' bs) (hn : bs.length = xs.length) (hpos : 0 < xs.length) (hl : xs.length ≤ 64)
    (L : Nat) (hL : L ≤ 65536) (hsz : ∀ b ∈ bs, b.size = L) (g : Nat) (hb : Blk w g 59 #[.slice A n c, .slice A' n' c']) (x : Int × ByteArray) (hx : badIdx x = false) :
    Answers 45 #[.pointer (some ⟨g, 0, none⟩)] (shv x) (off (xs, bs) x) w := by
  intro W hB
  obtain ⟨i, s⟩ := x
  obtain ⟨j, rfl⟩ : ∃ j : Nat, i = (j : Int) := by
    unfold badIdx at hx
    simp at hx
    exact ⟨i.toNat, by omega⟩
  have hj : j < 15 := by unfold badIdx at hx; simp at hx; omega
  have HW := Lib.hid (Blk.new W 47 #[.int .i64 (j : Int), .string s])
  have HG := Lib.hid ((hb.below hB).alloc (.cells #[.int .i64 (j : Int), .string s] 47))
  have HC := Lib.hid (fun (U : World) (hU : Below W.heap.size W U) => block_f U A n c xs ((h.below hB).below hU) A' n' c' bs ((h'.below hB).below hU) hn hpos hl L hL hsz j (by omega))
  have HO := Lib.hid (show off (xs, bs) ((j : Int), s) = !decide (blkS (xs, bs) (UInt8.ofNat j) = s) by unfold off; rw [byt8_nat (by omega)])
  obtain ⟨r, hr⟩ : ∃ r, r = blkS (xs, bs) (UInt8.ofNat j) := ⟨_, rfl⟩
  rw [← hr] at HC HO
  have hsb := str_beq r s
  have HS := Lib.hid hsb
  have HBA := Lib.hid ((Below.refl W.heap.size W).alloc (Nat.le_refl _) (.cells #[.int .i64 (j : Int), .string s] 47))
  unfold shv
  clear h h' hn hpos hl hsz hb hx hr hsb
  go_enter Try.func45, Try.ntmps45
  go_wp2
  go_region_held3 (fun w' => w'.cell? ⟨g, 0, none⟩ = some (.slice A n c) ∧ w'.cell? ⟨g, 1, none⟩ = some (.slice A' n' c') ∧ w'.cell? ⟨W.heap.size, 0, none⟩ = some (.int .i64 (j : Int)) ∧ w'.cell? ⟨W.heap.size, 1, none⟩ = some (.string s))
    (first | exact ⟨HG.out.cell 0, HG.out.cell 1, HW.out.cell 0, HW.out.cell 1⟩ | exact ⟨(Blk.below (w := (World.alloc W _).drew) HG.out HB3.out).cell 0, (Blk.below (w := (World.alloc W _).drew) HG.out HB3.out).cell 1, (Blk.below (w := (World.alloc W _).drew) HW.out HB3.out).cell 0, (Blk.below (w := (World.alloc W _).drew) HW.out HB3.out).cell 1⟩)
    (first
      | (go_at_call 28; (with_reducible refine (HC.out _ ?_).mono ?_); exact HBA.out.drew; rintro e w3 ⟨rfl, hb3⟩; have HB3 := Lib.hid hb3; clear hb3))
  have HBB := Lib.hid (HBA.out.drew.trans (HB3.out.mono (by simp)))
  go_wp2
  go_ret
  refine ⟨?_, HBB.out⟩
  rw [HO.out, ← HS.out]
  rfl

end Go.Proofs.Ytogcgeiocndlbaa
