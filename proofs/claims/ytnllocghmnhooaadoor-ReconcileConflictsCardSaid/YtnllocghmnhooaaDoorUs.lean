/- Reconcile: equal lists are the same (steleref57.Same, steleref58.SameRanges). -/
import Derived.Test.YtnllocghmnhooaaDoorUo
import Derived.RegionTactic
namespace Go.Proofs.YtnllocghmnhooaaDoor
open Go.RowKit
set_option linter.unusedVariables false
set_option linter.unusedSimpArgs false
namespace Rc
open Bk (bl bl_len bl_ofL ofL_bl ofL_size ofL_append)

set_option maxRecDepth 100000 in
set_option maxHeartbeats 4000000 in
theorem same_f (l : List Rec) (w : World) (A B : Option Addr) (ca cb : Nat) (ha : Rcs w A ca l) (hb : Rcs w B cb l) (hl : l.length ≤ 100000) :
    Calls Tryd.prog 17 #[.slice A l.length ca, .slice B l.length cb] w fun e w' => e = .returned (.bool true) ∧ Below w.heap.size w w' := by
  have HA := Lib.hid (fun W (h : Below w.heap.size w W) => ha.below h)
  have HB0 := Lib.hid (fun W (h : Below w.heap.size w W) => hb.below h)
  have hca : ca ≤ 9223372036854775807 := ha.max
  have hcb : cb ≤ 9223372036854775807 := hb.max
  have hlca := ha.le
  have hlcb := hb.le
  obtain ⟨n, hn⟩ : ∃ n, n = l.length := ⟨_, rfl⟩
  have HN := Lib.hid hn
  rw [← hn] at hl hlca hlcb ⊢
  clear hn ha hb
  go_enter Tryd.func17, Tryd.ntmps17
  go_wp2_with fail
  go_loopw [13] (fun x W => ∃ k : Nat, k ≤ n ∧ x = .int .i64 (k : Int) ∧ Hid (Below w.heap.size w W)) (fun x _ => n - (intOf x).toNat)
  case atStart => exact ⟨0, Nat.zero_le _, rfl, Lib.hid (Below.refl _ _)⟩
  case round =>
    obtain ⟨k, hk, rfl, HB⟩ := hrel
    by_cases hkn : k < n
    · have hkl : k < l.length := by rw [← HN.out]; exact hkn
      have hkI : (k : Int) < (n : Int) := by omega
      have hk0 : (0 : Int) ≤ (k : Int) := by omega
      obtain ⟨g, o, rfl, hat⟩ := (HA.out _ HB.out).mem (by omega)
      obtain ⟨g', o', rfl, hat'⟩ := (HB0.out _ HB.out).mem (by omega)
      obtain ⟨c0, c1, c2⟩ := hat.2 k hkl
      obtain ⟨d0, d1, d2⟩ := hat'.2 k hkl
      obtain ⟨r, hr⟩ : ∃ r, l[k] = r := ⟨_, rfl⟩
      rw [hr] at c0 c1 c2 d0 d1 d2
      clear hat hat' hr
      have C0 : wr.drew.cell? ⟨g, o + k * 3, none⟩ = some (.int .u32 (r.a : Int)) := c0
      have C1 : wr.drew.cell? ⟨g, o + k * 3 + 1, none⟩ = some (.int .i64 (r.s : Int)) := c1
      have C2 : wr.drew.cell? ⟨g, o + k * 3 + 2, none⟩ = some (.string (ofL r.d)) := c2
      have D0 : wr.drew.cell? ⟨g', o' + k * 3, none⟩ = some (.int .u32 (r.a : Int)) := d0
      have D1 : wr.drew.cell? ⟨g', o' + k * 3 + 1, none⟩ = some (.int .i64 (r.s : Int)) := d1
      have D2 : wr.drew.cell? ⟨g', o' + k * 3 + 2, none⟩ = some (.string (ofL r.d)) := d2
      go_wp2_with fail
      go_quiet (fail)
      have HB9 := Lib.hid (show Below w.heap.size w (wr.drewN nq) from below_drewN HB.out nq)
      clear C0 C1 C2 D0 D1 D2 c0 c1 c2 d0 d1 d2
      go_wp2_with fail
      go_roundw
      case rel => exact ⟨k + 1, by omega, by go_num, HB9⟩
      case measure => simp [intOf]; omega
    · obtain rfl : n = k := by omega
      go_wp2_with fail
      go_ret
      exact ⟨rfl, HB.out⟩
set_option maxRecDepth 100000 in
set_option maxHeartbeats 4000000 in
theorem samer_f (l : List Rng) (w : World) (A B : Option Addr) (ca cb : Nat) (ha : Rgs w A ca l) (hb : Rgs w B cb l) (hl : l.length ≤ 100000) :
    Calls Tryd.prog 16 #[.slice A l.length ca, .slice B l.length cb] w fun e w' => e = .returned (.bool true) ∧ Below w.heap.size w w' := by
  have HA := Lib.hid (fun W (h : Below w.heap.size w W) => ha.below h)
  have HB0 := Lib.hid (fun W (h : Below w.heap.size w W) => hb.below h)
  have hca : ca ≤ 9223372036854775807 := ha.max
  have hcb : cb ≤ 9223372036854775807 := hb.max
  have hlca := ha.le
  have hlcb := hb.le
  obtain ⟨n, hn⟩ : ∃ n, n = l.length := ⟨_, rfl⟩
  have HN := Lib.hid hn
  rw [← hn] at hl hlca hlcb ⊢
  clear hn ha hb
  go_enter Tryd.func16, Tryd.ntmps16
  go_wp2_with fail
  go_loopw [5] (fun x W => ∃ k : Nat, k ≤ n ∧ x = .int .i64 (k : Int) ∧ Hid (Below w.heap.size w W)) (fun x _ => n - (intOf x).toNat)
  case atStart => exact ⟨0, Nat.zero_le _, rfl, Lib.hid (Below.refl _ _)⟩
  case round =>
    obtain ⟨k, hk, rfl, HB⟩ := hrel
    by_cases hkn : k < n
    · have hkl : k < l.length := by rw [← HN.out]; exact hkn
      have hkI : (k : Int) < (n : Int) := by omega
      have hk0 : (0 : Int) ≤ (k : Int) := by omega
      obtain ⟨g, o, rfl, hlt, hat⟩ := (HA.out _ HB.out).mem (by omega)
      obtain ⟨g', o', rfl, hlt', hat'⟩ := (HB0.out _ HB.out).mem (by omega)
      obtain ⟨c0, c1, c2, c3⟩ := hat k hkl
      obtain ⟨d0, d1, d2, d3⟩ := hat' k hkl
      obtain ⟨r, hr⟩ : ∃ r, l[k] = r := ⟨_, rfl⟩
      rw [hr] at c0 c1 c2 c3 d0 d1 d2 d3
      clear hat hat' hr hlt hlt'
      have C0 : wr.drew.cell? ⟨g, o + k * 4, none⟩ = some (.string (ofL r.f)) := c0
      have C1 : wr.drew.cell? ⟨g, o + k * 4 + 1, none⟩ = some (.string (ofL r.t)) := c1
      have C2 : wr.drew.cell? ⟨g, o + k * 4 + 2, none⟩ = some (.int .i64 r.n) := c2
      have C3 : wr.drew.cell? ⟨g, o + k * 4 + 3, none⟩ = some (.string (ofL r.d)) := c3
      have D0 : wr.drew.cell? ⟨g', o' + k * 4, none⟩ = some (.string (ofL r.f)) := d0
      have D1 : wr.drew.cell? ⟨g', o' + k * 4 + 1, none⟩ = some (.string (ofL r.t)) := d1
      have D2 : wr.drew.cell? ⟨g', o' + k * 4 + 2, none⟩ = some (.int .i64 r.n) := d2
      have D3 : wr.drew.cell? ⟨g', o' + k * 4 + 3, none⟩ = some (.string (ofL r.d)) := d3
      go_wp2_with fail
      go_quiet (fail)
      have HB9 := Lib.hid (show Below w.heap.size w (wr.drewN nq) from below_drewN HB.out nq)
      clear C0 C1 C2 C3 D0 D1 D2 D3 c0 c1 c2 c3 d0 d1 d2 d3
      go_wp2_with fail
      go_roundw
      case rel => exact ⟨k + 1, by omega, by go_num, HB9⟩
      case measure => simp [intOf]; omega
    · obtain rfl : n = k := by omega
      go_wp2_with fail
      go_ret
      exact ⟨rfl, HB.out⟩
end Rc
end Go.Proofs.YtnllocghmnhooaaDoor
