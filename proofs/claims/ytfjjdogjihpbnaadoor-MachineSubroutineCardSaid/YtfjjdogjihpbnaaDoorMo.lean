/- The examples of the chapter hold: alive answers true. -/
import Derived.Test.YtfjjdogjihpbnaaDoorMn
namespace Go.Proofs.YtfjjdogjihpbnaaDoor
open Go.RowKit
namespace Mc

theorem txs_one {W : World} {g : Nat} {a : Int} {code : ByteArray} (h : Blk W g 30 #[.int .i64 a, .string code]) : Txs W (some ⟨g, 0, none⟩) 1 1 [(a, code)] :=
  Blk.sl (n := 1) (size := 2) h rfl (by unfold maxLen; omega)
/-- Run of one text, with no input -/
theorem run_one {W : World} {g : Nat} {code : ByteArray} (h : Blk W g 30 #[.int .i64 0, .string code]) (hc : code.size ≤ 1000) (k : Nat) (hk : k ≤ 100000) :
    Calls Tryd.prog 7 #[.slice (some ⟨g, 0, none⟩) 1 1, .int .i64 0, .slice none 0 0, .int .i64 (k : Int)] W (RunPost W (runT [(0, code)] 0 [] (k : Int))) :=
  mrun_f W _ 1 1 [(0, code)] (txs_one h) (fun t ht => by
    rw [List.mem_singleton] at ht
    subst ht
    exact ⟨⟨(by decide : IntKind.i64.min ≤ (0 : Int)), (by decide : (0 : Int) ≤ IntKind.i64.max)⟩, (by unfold maxLen; omega : code.size ≤ maxLen)⟩) 0 ⟨by decide, by decide⟩ none 0 0 [] (Sl.nil_ W 1) (fun x hx => by cases hx) (k : Int) ⟨by rw [show IntKind.i64.min = -9223372036854775808 from rfl]; omega, by rw [show IntKind.i64.max = 9223372036854775807 from rfl]; omega⟩
def bl (s : ByteArray) : List UInt8 := s.data.toList
theorem ofL_bl (s : ByteArray) : ofL (bl s) = s := by simp [ofL, bl]
theorem bl_ofL (l : List UInt8) : bl (ofL l) = l := by simp [ofL, bl]
/-- what Run leaves, written out -/
def Outs (w : World) (O : ByteArray) (er n : Int) (e : Ending) (w' : World) : Prop := e = .returned (.agg #[.string O, .int .i64 er, .int .i64 n]) ∧ Below w.heap.size w w'
theorem outs_of {P : Program} {f : FuncId} {args : Array Value} {W : World} {r : Res} (h : Calls P f args W (RunPost W r)) {O : ByteArray} {er n : Int} (hr : r = (bl O, er, n)) : Calls P f args W (Outs W O er n) := h.mono fun e w' ⟨h1, h2⟩ => by
  subst hr
  exact ⟨by rw [h1]; unfold outV; simp only [ofL_bl], h2⟩
theorem Blk.new1 (w : World) (o : Obj) (t : TypeId) (cs : Array Value) : Blk ((w.alloc o).alloc (.cells cs t)) (w.heap.size + 1) t cs := by
  have := Blk.new (w.alloc o) t cs
  rwa [asz] at this
def c1 : ByteArray := ⟨#[49, 50, 32, 51, 48, 43, 46, 36]⟩
def c2 : ByteArray := ⟨#[49, 32, 48, 47]⟩
def c3 : ByteArray := ⟨#[48, 58]⟩
theorem ex1 : runT [(0, c1)] 0 [] ((100 : Nat) : Int) = ([42], 0, 8) := by decide +kernel
theorem ex2 : runT [(0, c2)] 0 [] ((100 : Nat) : Int) = ([], 12, 4) := by decide +kernel
theorem ex3 : runT [(0, c3)] 0 [] ((1000 : Nat) : Int) = ([], 12, 130) := by decide +kernel

theorem run_c1 {W : World} {g : Nat} (h : Blk W g 30 #[.int .i64 0, .string c1]) : Calls Tryd.prog 7 #[.slice (some ⟨g, 0, none⟩) 1 1, .int .i64 0, .slice none 0 0, .int .i64 100] W (Outs W ⟨#[42]⟩ 0 8) := by
  have h1 := run_one h (by decide) 100 (by omega)
  rw [ex1] at h1
  exact outs_of h1 rfl
theorem run_c2 {W : World} {g : Nat} (h : Blk W g 30 #[.int .i64 0, .string c2]) : Calls Tryd.prog 7 #[.slice (some ⟨g, 0, none⟩) 1 1, .int .i64 0, .slice none 0 0, .int .i64 100] W (Outs W ⟨#[]⟩ 12 4) := by
  have h1 := run_one h (by decide) 100 (by omega)
  rw [ex2] at h1
  exact outs_of h1 rfl
theorem run_c3 {W : World} {g : Nat} (h : Blk W g 30 #[.int .i64 0, .string c3]) : Calls Tryd.prog 7 #[.slice (some ⟨g, 0, none⟩) 1 1, .int .i64 0, .slice none 0 0, .int .i64 1000] W (Outs W ⟨#[]⟩ 12 130) := by
  have h1 := run_one h (by decide) 1000 (by omega)
  rw [ex3] at h1
  exact outs_of h1 rfl

set_option maxRecDepth 100000 in
set_option maxHeartbeats 1000000 in
theorem alive_f (w : World) : Calls Tryd.prog 6 #[] w fun e w' => e = .returned (.bool true) ∧ Below w.heap.size w w' := by
  have H1 := Lib.hid (run_c1 (Blk.new w 30 #[.int .i64 0, .string c1]))
  go_enter Tryd.func6, Tryd.ntmps6
  go_wp2_with fail
  refine H1.out.mono ?_
  rintro e w1 ⟨rfl, hb1⟩
  have HB1 := Lib.hid ((((Below.refl w.heap.size w).alloc (Nat.le_refl _) (.cells #[.int .i64 0, .string c1] 30)).trans (hb1.mono (by simp))).alloc (Nat.le_trans (by simp) hb1.size) (.cells #[.string ⟨#[42]⟩, .int .i64 0, .int .i64 8] 26))
  have HR1 := Lib.hid (Blk.new w1 26 #[.string ⟨#[42]⟩, .int .i64 0, .int .i64 8])
  obtain ⟨v1, hv1⟩ : ∃ v1, v1 = w1.alloc (.cells #[.string ⟨#[42]⟩, .int .i64 0, .int .i64 8] 26) := ⟨_, rfl⟩
  rw [← hv1] at HB1 HR1
  have HV1 := Lib.hid hv1
  have H2 := Lib.hid (run_c2 (g := w1.heap.size + 1) (show Blk (v1.alloc (.cells #[.int .i64 0, .string c2] 30)) _ _ _ by rw [HV1.out]; exact Blk.new1 _ _ _ _))
  clear hb1 hv1
  go_wp2_with fail
  rw [← HV1.out]
  refine H2.out.mono ?_
  rintro e w2 ⟨rfl, hb2⟩
  have HB2 := Lib.hid ((HB1.out.trans (((Below.refl v1.heap.size v1).alloc (Nat.le_refl _) (.cells #[.int .i64 0, .string c2] 30)).trans (hb2.mono (by simp)) |>.mono HB1.out.size)).alloc (Nat.le_trans HB1.out.size (Nat.le_trans (by simp) hb2.size)) (.cells #[.string ⟨#[]⟩, .int .i64 12, .int .i64 4] 26))
  have HR2 := Lib.hid (Blk.new w2 26 #[.string ⟨#[]⟩, .int .i64 12, .int .i64 4])
  have HR12 := Lib.hid (((HR1.out.alloc (.cells #[.int .i64 0, .string c2] 30)).below hb2).alloc (.cells #[.string ⟨#[]⟩, .int .i64 12, .int .i64 4] 26))
  obtain ⟨v2, hv2⟩ : ∃ v2, v2 = w2.alloc (.cells #[.string ⟨#[]⟩, .int .i64 12, .int .i64 4] 26) := ⟨_, rfl⟩
  rw [← hv2] at HB2 HR2 HR12
  have HV2 := Lib.hid hv2
  have H3 := Lib.hid (run_c3 (g := w2.heap.size + 1) (show Blk (v2.alloc (.cells #[.int .i64 0, .string c3] 30)) _ _ _ by rw [HV2.out]; exact Blk.new1 _ _ _ _))
  clear hb2 hv2
  go_wp2_with fail
  rw [← HV2.out]
  refine H3.out.mono ?_
  rintro e w3 ⟨rfl, hb3⟩
  have HB3 := Lib.hid ((HB2.out.trans (((Below.refl v2.heap.size v2).alloc (Nat.le_refl _) (.cells #[.int .i64 0, .string c3] 30)).trans (hb3.mono (by simp)) |>.mono HB2.out.size)).alloc (Nat.le_trans HB2.out.size (Nat.le_trans (by simp) hb3.size)) (.cells #[.string ⟨#[]⟩, .int .i64 12, .int .i64 130] 26))
  have k1 := ((HR12.out.alloc (.cells #[.int .i64 0, .string c3] 30)).below hb3).alloc (.cells #[.string ⟨#[]⟩, .int .i64 12, .int .i64 130] 26)
  have k2 := ((HR2.out.alloc (.cells #[.int .i64 0, .string c3] 30)).below hb3).alloc (.cells #[.string ⟨#[]⟩, .int .i64 12, .int .i64 130] 26)
  have a0 := k1.cell 0
  have a1 := k1.cell 1
  have a2 := k1.cell 2
  have b0 := k2.cell 0
  have b1 := k2.cell 1
  have b2 := k2.cell 2
  rw [show (#[Value.string ⟨#[42]⟩, .int .i64 0, .int .i64 8] : Array Value)[0]? = some (.string ⟨#[42]⟩) from rfl] at a0
  rw [show (#[Value.string ⟨#[42]⟩, .int .i64 0, .int .i64 8] : Array Value)[1]? = some (.int .i64 0) from rfl] at a1
  rw [show (#[Value.string ⟨#[42]⟩, .int .i64 0, .int .i64 8] : Array Value)[2]? = some (.int .i64 8) from rfl] at a2
  rw [show (#[Value.string ⟨#[]⟩, .int .i64 12, .int .i64 4] : Array Value)[0]? = some (.string ⟨#[]⟩) from rfl] at b0
  rw [show (#[Value.string ⟨#[]⟩, .int .i64 12, .int .i64 4] : Array Value)[1]? = some (.int .i64 12) from rfl] at b1
  rw [show (#[Value.string ⟨#[]⟩, .int .i64 12, .int .i64 4] : Array Value)[2]? = some (.int .i64 4) from rfl] at b2
  clear k1 k2 hb3
  go_wp2_with fail
  go_ret
  exact ⟨rfl, HB3.out⟩
end Mc
end Go.Proofs.YtfjjdogjihpbnaaDoor
