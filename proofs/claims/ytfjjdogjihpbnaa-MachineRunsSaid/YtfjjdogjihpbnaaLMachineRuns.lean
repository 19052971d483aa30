/- The law MachineRuns of stelelaw17 returns true for every input, and each argument reads behind the call as it read before. No conditions. -/
import Derived.Test.YtfjjdogjihpbnaaMq
import Derived.Test.YtfjjdogjihpbnaaRg
import Derived.Deep.RegionHeld3
namespace Go.Proofs.Ytfjjdogjihpbnaa
namespace MachineRuns
open Go.RowKit Mc

set_option maxRecDepth 100000 in
set_option maxHeartbeats 2000000 in
theorem core (w : World) (A : Option Addr) (n c : Nat) (ts : List Txt) (h : Txs w A n c ts) (hts : ∀ t ∈ ts, (IntKind.i64.min ≤ t.1 ∧ t.1 ≤ IntKind.i64.max) ∧ t.2.size ≤ maxLen)
    (Ai : Option Addr) (ni ci : Nat) (input : List Int) (hi : Sl w 1 Ai ni ci (iv input)) (hiw : ∀ x ∈ input, W32 x) (a b : Int) (ha : IntKind.i64.min ≤ a ∧ a ≤ IntKind.i64.max) (hb : IntKind.i64.min ≤ b ∧ b ≤ IntKind.i64.max) :
    Calls Try.prog 3 #[.slice A n c, .slice Ai ni ci, .agg #[.int .i64 a, .int .i64 b]] w fun e w' => e = .returned (.bool true) ∧ Below w.heap.size w w' := by
  have HT := Lib.hid h
  have HI := Lib.hid hi
  have hni := hi.le_max
  have HNI := Lib.hid hni
  have HA := Lib.hid (Blk.new w 24 #[.int .i64 a, .int .i64 b])
  obtain ⟨w0, hw0⟩ : ∃ w0, w0 = w.alloc (.cells #[.int .i64 a, .int .i64 b] 24) := ⟨_, rfl⟩
  have HB0 := Lib.hid (show Below w.heap.size w w0 by rw [hw0]; exact (Below.refl _ w).alloc (Nat.le_refl _) _)
  rw [← hw0] at HA
  have HW0 := Lib.hid hw0
  have HTS := Lib.hid hts
  have HIW := Lib.hid hiw
  have HAA := Lib.hid ha
  have HBB := Lib.hid hb
  clear h hi hni hw0 hts hiw ha hb
  go_enter Try.func3, Try.ntmps3
  go_wp2_with fail
  rw [← HW0.out]
  refine (alive_f _).mono ?_
  rintro e w1 ⟨rfl, hb1⟩
  have HA1 := Lib.hid (HA.out.below hb1)
  have HB1 := Lib.hid (HB0.out.trans (hb1.mono HB0.out.size))
  have hc1 := HA1.out.cell 1
  rw [show (#[Value.int .i64 a, .int .i64 b] : Array Value)[1]? = some (.int .i64 b) from rfl] at hc1
  clear hb1
  go_wp2_with fail
  refine (great_f w1 A n c ts (HT.out.below HB1.out) HTS.out Ai ni ci HNI.out b).mono ?_
  rintro e w2 ⟨r, hr, rfl, hb2⟩
  have HA2 := Lib.hid (HA1.out.below hb2)
  have HB2 := Lib.hid (HB1.out.trans (hb2.mono HB1.out.size))
  clear hb2 hc1
  rcases hr with rfl | rfl
  · obtain ⟨R, hR⟩ : ∃ R, R = Mc.runT ts a input b := ⟨_, rfl⟩
    obtain ⟨O, er, ns⟩ := R
    have hS2 : w2.drew.cell? ⟨w.heap.size, 0, none⟩ = some (.int .i64 a) ∧ w2.drew.cell? ⟨w.heap.size, 1, none⟩ = some (.int .i64 b) := ⟨HA2.out.cell 0, HA2.out.cell 1⟩
    have HC1 := Lib.hid (outs_of (mrun_f w2.drew A n c ts (HT.out.below HB2.out.drew) HTS.out a HAA.out Ai ni ci input (HI.out.below HB2.out.drew) HIW.out b HBB.out) (O := ofL O) (er := er) (n := ns) (by rw [← hR, bl_ofL]))
    have HC2 := Lib.hid (fun (V : World) (hV : Below w.heap.size w V) => outs_of (rrun_f V A n c ts (HT.out.below hV) HTS.out a HAA.out Ai ni ci input (HI.out.below hV) HIW.out b HBB.out) (O := ofL O) (er := er) (n := ns) (by rw [← hR, bl_ofL]))
    clear hR
    go_wp2_with fail
    go_region_held3 (fun V => V.cell? ⟨w.heap.size, 0, none⟩ = some (.int .i64 a) ∧ V.cell? ⟨w.heap.size, 1, none⟩ = some (.int .i64 b))
      (first | exact hS2 | exact hS3 | exact hS4)
      (first
        | (go_at_call 10; (with_reducible refine HC1.out.mono ?_); rintro e w3 ⟨rfl, hb3⟩; have HA3 := Lib.hid (HA2.out.drew.below hb3); have HB3 := Lib.hid (HB2.out.drew.trans (hb3.mono HB2.out.drew.size)); have hS3 : w3.cell? ⟨w.heap.size, 0, none⟩ = some (.int .i64 a) ∧ w3.cell? ⟨w.heap.size, 1, none⟩ = some (.int .i64 b) := ⟨HA3.out.cell 0, HA3.out.cell 1⟩; clear hb3)
        | (go_at_call 11; (with_reducible refine (HC2.out _ ?_).mono ?_); exact HB3.out; rintro e w4 ⟨rfl, hb4⟩; have HA4 := Lib.hid (HA3.out.below hb4); have HB4 := Lib.hid (HB3.out.trans (hb4.mono HB3.out.size)); have hS4 : w4.cell? ⟨w.heap.size, 0, none⟩ = some (.int .i64 a) ∧ w4.cell? ⟨w.heap.size, 1, none⟩ = some (.int .i64 b) := ⟨HA4.out.cell 0, HA4.out.cell 1⟩; clear hb4))
    all_goals
      go_wp2_with fail
      go_ret
      exact ⟨rfl, HB4.out⟩
  · go_wp2_with fail
    go_ret
    exact ⟨rfl, HB2.out⟩

end MachineRuns
end Go.Proofs.Ytfjjdogjihpbnaa
