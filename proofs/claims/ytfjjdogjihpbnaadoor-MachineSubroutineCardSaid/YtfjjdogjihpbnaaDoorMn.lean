/- The program's Run answers what the plain machine answers. -/
import Derived.Test.YtfjjdogjihpbnaaDoorMl
import Derived.Test.YtfjjdogjihpbnaaDoorMm
import Derived.Test.YtfjjdogjihpbnaaDoorOx
import Derived.StillTailTactics
namespace Go.Proofs.YtfjjdogjihpbnaaDoor
open Go.RowKit
namespace Mc

def RunPost (w : World) (r : Res) (e : Ending) (w' : World) : Prop := e = .returned (outV r) ∧ Below w.heap.size w w'

theorem runPost_of {w w' : World} {r : Res} {s : ByteArray} {er n : Int} {O : List UInt8} (hr : r = (O, er, n)) (hs : s = ofL O) (h : Below w.heap.size w w') : RunPost w r (.returned (.agg #[.string s, .int .i64 er, .int .i64 n])) w' := by
  subst hr hs; exact ⟨rfl, h⟩

theorem asz (w : World) (o : Obj) : (w.alloc o).heap.size = w.heap.size + 1 := by simp
theorem new3 (w : World) (o o' : Obj) (t : TypeId) (cs : Array Value) : Blk (((w.alloc o).alloc o').alloc (.cells cs t)) (w.heap.size + 1 + 1) t cs := by
  have := Blk.new ((w.alloc o).alloc o') t cs
  rwa [asz, asz] at this
theorem heap_at2 (w : World) (o o' o2 : Obj) : (((w.alloc o).alloc o').alloc o2).heap[w.heap.size + 1]? = some o' := by
  have h := heap_alloc_new (w.alloc o) o'
  rw [asz] at h
  rw [Below.heap_alloc _ _ _ (by rw [asz, asz]; omega)]
  exact h
theorem heap_at3 (w : World) (o o' o2 : Obj) : (((w.alloc o).alloc o').alloc o2).heap[w.heap.size]? = some o := by
  rw [Below.heap_alloc _ _ _ (by rw [asz, asz]; omega), Below.heap_alloc _ _ _ (by rw [asz]; omega)]
  exact heap_alloc_new w o
theorem blk_at2 (w : World) (o o2 : Obj) (t : TypeId) (cs : Array Value) : Blk (((w.alloc o).alloc (.cells cs t)).alloc o2) (w.heap.size + 1) t cs := heap_at2 w o _ o2
/-- a new memory -/
theorem make_mem : ∃ mc : Array Value, (∀ w : World, (Instr.makeSlice 41 (.int .i64 262144) (.int .i64 262144)).run Tryd.prog w = .ok (.slice (some ⟨w.heap.size, 0, none⟩) 262144 262144) (w.alloc (.cells mc 22))) ∧ mc.size = 262144 ∧ ∀ i, i < 262144 → mc[i]? = some (V 0) := by
  obtain ⟨i0, hi, hz, h1, hb⟩ := ty_u32.hi
  have ht : (madeCells (Value.int .u32 0).cells (262144 * i0.size)).toList = List.replicate 262144 (Value.int .u32 0) := by
    rw [h1, Nat.mul_one]
    exact toList_madeCells_one _ _
  refine ⟨madeCells (Value.int .u32 0).cells (262144 * i0.size), fun w => run_make_blk w 41 22 i0 (.int .u32 0) ty_u32.ht hi hz .i64 .i64 262144 (by rw [hb]; omega) (by omega), ?_, fun i h => ?_⟩
  · have := congrArg List.length ht
    rw [List.length_replicate] at this
    simpa using this
  · rw [← Array.getElem?_toList, ht, List.getElem?_replicate, if_pos h]
    rfl

set_option maxRecDepth 100000 in
set_option maxHeartbeats 4000000 in
theorem mrun_at (w : World) (A : Option Addr) (n c : Nat) (ts : List Txt) (h : Txs w A n c ts) (hts : ∀ t ∈ ts, (IntKind.i64.min ≤ t.1 ∧ t.1 ≤ IntKind.i64.max) ∧ t.2.size ≤ maxLen) (at_ : Int) (ha : IntKind.i64.min ≤ at_ ∧ at_ ≤ IntKind.i64.max)
    (Ai : Option Addr) (ni ci : Nat) (input : List Int) (hi : Sl w 1 Ai ni ci (iv input)) (hiw : ∀ x ∈ input, W32 x) (steps : Int) (hs : IntKind.i64.min ≤ steps ∧ steps ≤ IntKind.i64.max) (hbad : at_ < 0 ∨ 262144 ≤ at_) :
    Calls Tryd.prog 7 #[.slice A n c, .int .i64 at_, .slice Ai ni ci, .int .i64 steps] w (RunPost w (runT ts at_ input steps)) := by
  have hn := h.len
  have hlc : n ≤ c := h.1
  have hcm : c ≤ 9223372036854775807 := h.2.1
  have HT := Lib.hid h
  have HTS := Lib.hid hts
  have HI := Lib.hid hi
  have HIW := Lib.hid hiw
  have HN := Lib.hid hn
  have ha1 : -9223372036854775808 ≤ at_ := ha.1
  have ha2 : at_ ≤ 9223372036854775807 := ha.2
  have hs1 : -9223372036854775808 ≤ steps := hs.1
  have hs2 : steps ≤ 9223372036854775807 := hs.2
  have HR := Lib.hid (runT_bad (input := input) (steps := steps) (fitN_no hbad ts ts.length))
  obtain ⟨r, hr⟩ : ∃ r, r = runT ts at_ input steps := ⟨_, rfl⟩
  rw [← hr] at HR ⊢
  clear h hts hi hiw hn ha hs hr
  rcases hbad with hbad | hbad
  all_goals
    have HB := Lib.hid (Blk.new w 26 #[.string ⟨#[]⟩, .int .i64 0, .int .i64 0])
    obtain ⟨w1, hw1⟩ : ∃ w1, w1 = w.alloc (.cells #[.string ⟨#[]⟩, .int .i64 0, .int .i64 0] 26) := ⟨_, rfl⟩
    have HB1 := Lib.hid (show Below w.heap.size w w1 by rw [hw1]; exact (Below.refl _ w).alloc (Nat.le_refl _) _)
    rw [← hw1] at HB
    have HT1 := Lib.hid (HT.out.below HB1.out)
    have HW1 := Lib.hid hw1
    clear hw1
    go_enter Tryd.func7, Tryd.ntmps7
    go_wp2_with fail
    rw [← HW1.out]
    go_loopw [9, 25] (fun f i wr => ∃ k : Nat, k ≤ n ∧ i = .int .i64 (k : Int) ∧ f = .bool false ∧ Below w1.heap.size w1 wr) (fun _ i _ => n - (intOf i).toNat)
    case atStart => exact ⟨0, by omega, rfl, by simp; try omega, Below.refl _ _⟩
    case round =>
      obtain ⟨k, hk, rfl, rfl, hb⟩ := hrel
      have HBr := Lib.hid hb
      by_cases hkn : k < n
      · have hkl : k < ts.length := by rw [← HN.out]; exact hkn
        obtain ⟨ad, rfl, _, hx0, hx1⟩ := (HT1.out.below hb).at_ hkl
        obtain ⟨x, hx⟩ : ∃ x, x = ts[k] := ⟨_, rfl⟩
        rw [← hx] at hx0 hx1
        clear hb hx
        go_wp2_with fail
        go_roundw
        case rel => exact ⟨k + 1, by omega, by go_num, rfl, HBr.out.alloc HBr.out.size _⟩
        case measure => simp [intOf]; omega
      · clear hb
        have hB := HB.out.below HBr.out
        have hc0 := hB.cell 0
        have hc1 := hB.cell 1
        have hc2 := hB.cell 2
        have hf0 := hB.frozen 0
        have hf1 := hB.frozen 1
        have hf2 := hB.frozen 2
        rw [show (#[Value.string ⟨#[]⟩, .int .i64 0, .int .i64 0] : Array Value)[0]? = some (.string ⟨#[]⟩) from rfl] at hc0
        rw [show (#[Value.string ⟨#[]⟩, .int .i64 0, .int .i64 0] : Array Value)[1]? = some (.int .i64 0) from rfl] at hc1
        rw [show (#[Value.string ⟨#[]⟩, .int .i64 0, .int .i64 0] : Array Value)[2]? = some (.int .i64 0) from rfl] at hc2
        have hlt := hB.lt
        clear hB
        go_wp2_with fail
        refine bodyPost_ret (v := .agg #[.string ⟨#[]⟩, .int .i64 2, .int .i64 0]) (by simp [results, Tryd.results7, go_sem, hc0, hc1, hc2]) rfl (runPost_of HR.out rfl ?_)
        exact (((HB1.out.trans (HBr.out.mono HB1.out.size)).setCell (Nat.le_refl _) _).setCell (Nat.le_refl _) _).setCell (Nat.le_refl _) _

set_option maxRecDepth 100000 in
set_option maxHeartbeats 4000000 in
theorem mrun_in (w : World) (A : Option Addr) (n c : Nat) (ts : List Txt) (h : Txs w A n c ts) (hts : ∀ t ∈ ts, (IntKind.i64.min ≤ t.1 ∧ t.1 ≤ IntKind.i64.max) ∧ t.2.size ≤ maxLen) (at_ : Int) (ha : IntKind.i64.min ≤ at_ ∧ at_ ≤ IntKind.i64.max)
    (Ai : Option Addr) (ni ci : Nat) (input : List Int) (hi : Sl w 1 Ai ni ci (iv input)) (hiw : ∀ x ∈ input, W32 x) (steps : Int) (hs : IntKind.i64.min ≤ steps ∧ steps ≤ IntKind.i64.max) (h0 : 0 ≤ at_) (h1 : at_ < 262144) :
    Calls Tryd.prog 7 #[.slice A n c, .int .i64 at_, .slice Ai ni ci, .int .i64 steps] w (RunPost w (runT ts at_ input steps)) := by
  have hn := h.len
  have hlc : n ≤ c := h.1
  have hcm : c ≤ 9223372036854775807 := h.2.1
  have HT := Lib.hid h
  have HTS := Lib.hid hts
  have HI := Lib.hid hi
  have HIW := Lib.hid hiw
  have HN := Lib.hid hn
  have ha1 : -9223372036854775808 ≤ at_ := ha.1
  have ha2 : at_ ≤ 9223372036854775807 := ha.2
  have hs1 : -9223372036854775808 ≤ steps := hs.1
  have hs2 : steps ≤ 9223372036854775807 := hs.2
  have HFA := Lib.hid (fitN_ok h0 h1 ts ts.length)
  obtain ⟨r, hr⟩ : ∃ r, r = runT ts at_ input steps := ⟨_, rfl⟩
  have HRR := Lib.hid hr
  rw [← hr]
  clear h hts hi hiw hn ha hs hr
  have HB := Lib.hid (Blk.new w 26 #[.string ⟨#[]⟩, .int .i64 0, .int .i64 0])
  obtain ⟨w1, hw1⟩ : ∃ w1, w1 = w.alloc (.cells #[.string ⟨#[]⟩, .int .i64 0, .int .i64 0] 26) := ⟨_, rfl⟩
  have HB1 := Lib.hid (show Below w.heap.size w w1 by rw [hw1]; exact (Below.refl _ w).alloc (Nat.le_refl _) _)
  rw [← hw1] at HB
  have HT1 := Lib.hid (HT.out.below HB1.out)
  have HW1 := Lib.hid hw1
  clear hw1
  go_enter Tryd.func7, Tryd.ntmps7
  go_wp2_with fail
  rw [← HW1.out]
  go_loopw [9, 25] (fun f i wr => ∃ k : Nat, k ≤ n ∧ i = .int .i64 (k : Int) ∧ f = .bool (okN ts k) ∧ Below w1.heap.size w1 wr) (fun _ i _ => n - (intOf i).toNat)
  case atStart => exact ⟨0, by omega, rfl, by rw [okN_zero], Below.refl _ _⟩
  case round =>
    obtain ⟨k, hk, rfl, rfl, hb⟩ := hrel
    have HBr := Lib.hid hb
    obtain ⟨o, ho⟩ : ∃ o, o = okN ts k := ⟨_, rfl⟩
    rw [← ho]
    have HOK := Lib.hid ho
    clear ho
    by_cases hkn : k < n
    · have hkl : k < ts.length := by rw [← HN.out]; exact hkn
      obtain ⟨ad, rfl, _, hx0, hx1⟩ := (HT1.out.below hb).at_ hkl
      obtain ⟨x, hx⟩ : ∃ x, x = ts[k] := ⟨_, rfl⟩
      have HOS := Lib.hid (show okN ts (k + 1) = (o && !badT x) by rw [okN_succ ts hkl, ← HOK.out, hx])
      have hxb := HTS.out x (by rw [hx]; exact List.getElem_mem hkl)
      have hxb1 : -9223372036854775808 ≤ x.1 := hxb.1.1
      have hxb2 : x.1 ≤ 9223372036854775807 := hxb.1.2
      have hxb3 : x.2.size ≤ 9223372036854775807 := hxb.2
      rw [← hx] at hx0 hx1
      clear hb hx hxb
      cases o with
      | false =>
        go_wp2_with fail
        go_roundw
        case rel => exact ⟨k + 1, by omega, by go_num, by rw [HOS.out]; rfl, HBr.out.alloc HBr.out.size _⟩
        case measure => simp [intOf]; omega
      | true =>
        by_cases hneg : x.1 < 0
        · have hd1 : decide (0 ≤ x.1) = false := by simp; omega
          rw [badT_neg hneg] at HOS
          clear hneg
          go_wp2_with fail
          go_roundw
          case rel => exact ⟨k + 1, by omega, by go_num, by rw [HOS.out]; rfl, HBr.out.alloc HBr.out.size _⟩
          case measure => simp [intOf]; omega
        · have hd1 : decide (0 ≤ x.1) = true := by simp; omega
          by_cases hfar : 262144 - (x.2.size : Int) < x.1
          · have hd2 : decide (x.1 ≤ 262144 - (x.2.size : Int)) = false := by simp; omega
            rw [badT_far hfar] at HOS
            clear hfar hneg
            go_wp2_with fail
            go_roundw
            case rel => exact ⟨k + 1, by omega, by go_num, by rw [HOS.out]; rfl, HBr.out.alloc HBr.out.size _⟩
            case measure => simp [intOf]; omega
          · have hd2 : decide (x.1 ≤ 262144 - (x.2.size : Int)) = true := by simp; omega
            rw [badT_ok hneg (by omega)] at HOS
            clear hfar hneg
            go_wp2_with fail
            go_roundw
            case rel => exact ⟨k + 1, by omega, by go_num, by rw [HOS.out]; rfl, HBr.out.alloc HBr.out.size _⟩
            case measure => simp [intOf]; omega
    · have hkl : ts.length ≤ k := by rw [← HN.out]; omega
      have HFF := Lib.hid (show fitN at_ ts ts.length = o by rw [HFA.out, HOK.out]; unfold okN; rw [List.take_of_length_le (Nat.le_refl _), List.take_of_length_le hkl])
      cases o with
      | false =>
        have HR := Lib.hid (show r = ([], 2, 0) by rw [HRR.out]; exact runT_bad HFF.out)
        clear hb
        have hB := HB.out.below HBr.out
        have hc0 := hB.cell 0
        have hc1 := hB.cell 1
        have hc2 := hB.cell 2
        have hf0 := hB.frozen 0
        have hf1 := hB.frozen 1
        have hf2 := hB.frozen 2
        rw [show (#[Value.string ⟨#[]⟩, .int .i64 0, .int .i64 0] : Array Value)[0]? = some (.string ⟨#[]⟩) from rfl] at hc0
        rw [show (#[Value.string ⟨#[]⟩, .int .i64 0, .int .i64 0] : Array Value)[1]? = some (.int .i64 0) from rfl] at hc1
        rw [show (#[Value.string ⟨#[]⟩, .int .i64 0, .int .i64 0] : Array Value)[2]? = some (.int .i64 0) from rfl] at hc2
        have hlt := hB.lt
        clear hB
        go_wp2_with fail
        refine bodyPost_ret (v := .agg #[.string ⟨#[]⟩, .int .i64 2, .int .i64 0]) (by simp [results, Tryd.results7, go_sem, hc0, hc1, hc2]) rfl (runPost_of HR.out rfl ?_)
        exact (((HB1.out.trans (HBr.out.mono HB1.out.size)).setCell (Nat.le_refl _) _).setCell (Nat.le_refl _) _).setCell (Nat.le_refl _) _
      | true =>
        by_cases hlim : 100000000 < steps
        · have HR := Lib.hid (show r = ([], 6, 0) by rw [HRR.out]; exact runT_limit HFF.out hlim)
          clear hb
          have hB := HB.out.below HBr.out
          have hc0 := hB.cell 0
          have hc1 := hB.cell 1
          have hc2 := hB.cell 2
          have hf0 := hB.frozen 0
          have hf1 := hB.frozen 1
          have hf2 := hB.frozen 2
          rw [show (#[Value.string ⟨#[]⟩, .int .i64 0, .int .i64 0] : Array Value)[0]? = some (.string ⟨#[]⟩) from rfl] at hc0
          rw [show (#[Value.string ⟨#[]⟩, .int .i64 0, .int .i64 0] : Array Value)[1]? = some (.int .i64 0) from rfl] at hc1
          rw [show (#[Value.string ⟨#[]⟩, .int .i64 0, .int .i64 0] : Array Value)[2]? = some (.int .i64 0) from rfl] at hc2
          have hlt := hB.lt
          clear hB
          go_wp2_with fail
          refine bodyPost_ret (v := .agg #[.string ⟨#[]⟩, .int .i64 6, .int .i64 0]) (by simp [results, Tryd.results7, go_sem, hc0, hc1, hc2]) rfl (runPost_of HR.out rfl ?_)
          exact (((HB1.out.trans (HBr.out.mono HB1.out.size)).setCell (Nat.le_refl _) _).setCell (Nat.le_refl _) _).setCell (Nat.le_refl _) _
        · by_cases hnone : steps ≤ 0
          · have HR := Lib.hid (show r = ([], 13, 0) by rw [HRR.out]; exact runT_none HFF.out hnone)
            clear hb
            have hB := HB.out.below HBr.out
            have hc0 := hB.cell 0
            have hc1 := hB.cell 1
            have hc2 := hB.cell 2
            have hf0 := hB.frozen 0
            have hf1 := hB.frozen 1
            have hf2 := hB.frozen 2
            rw [show (#[Value.string ⟨#[]⟩, .int .i64 0, .int .i64 0] : Array Value)[0]? = some (.string ⟨#[]⟩) from rfl] at hc0
            rw [show (#[Value.string ⟨#[]⟩, .int .i64 0, .int .i64 0] : Array Value)[1]? = some (.int .i64 0) from rfl] at hc1
            rw [show (#[Value.string ⟨#[]⟩, .int .i64 0, .int .i64 0] : Array Value)[2]? = some (.int .i64 0) from rfl] at hc2
            have hlt := hB.lt
            clear hB
            go_wp2_with fail
            refine bodyPost_ret (v := .agg #[.string ⟨#[]⟩, .int .i64 13, .int .i64 0]) (by simp [results, Tryd.results7, go_sem, hc0, hc1, hc2]) rfl (runPost_of HR.out rfl ?_)
            exact (((HB1.out.trans (HBr.out.mono HB1.out.size)).setCell (Nat.le_refl _) _).setCell (Nat.le_refl _) _).setCell (Nat.le_refl _) _
          --MAIN
          · obtain ⟨wq, hwq⟩ : ∃ wq, wq = wr := ⟨_, rfl⟩
            subst hwq
            obtain ⟨L, rfl⟩ := Int.eq_ofNat_of_zero_le (show 0 ≤ steps by omega)
            have hL : L ≤ 100000000 := by omega
            have HR := Lib.hid (show r = runM L 0 (start ts at_ input) by rw [HRR.out]; exact runT_run HFF.out hlim)
            have hBr := HB.out.below HBr.out
            have HBo := Lib.hid hBr
            have hs0 : ¬ L = 0 := by omega
            have hs1' : decide (100000000 < (L : Int)) = false := by simp; omega
            have HTr := Lib.hid (HT1.out.below HBr.out)
            have HIr := Lib.hid (show Sl wq 1 Ai ni ci (iv input) from (HI.out.below HB1.out).below HBr.out)
            have HBW := Lib.hid (HB1.out.trans (HBr.out.mono HB1.out.size))
            have HRB := Lib.hid (Nat.lt_of_lt_of_le HB.out.lt HBr.out.size)
            obtain ⟨mc, hmk, hmsz, hmcell⟩ := make_mem
            have HMS := Lib.hid hmsz
            have HMC := Lib.hid hmcell
            have hwr : IntKind.u32.wrap at_ = at_ := by rw [IntKind.wrap_u32]; omega
            clear hb hlim hnone hBr hmsz hmcell
            go_wp2_with fail
            clear hs0 hs1'
            have hS0 : True := trivial
            obtain ⟨W0, hW0⟩ : ∃ W0, W0 = wq.drew := ⟨_, rfl⟩
            have HB0 := Lib.hid (show Below wq.heap.size wq W0 by rw [hW0]; exact (Below.refl _ wq).drew)
            have hz0 : W0.heap.size = wq.heap.size := by rw [hW0]; rfl
            have HZ0 := Lib.hid hz0
            clear hz0
            refine wp_region_X (fun _ => True) 6 (by kernel_rfl) ?_
            show wpAnyX _ _ _ _ _ _ 8 _ _ _
            rw [← hW0]
            clear hW0
            refine wpAnyX_pure (i := 1) (v := ?_) rfl (by kernel_rfl) (by kernel_rfl) (by kernel_rfl) (by kernel_rfl) (by kernel_rfl) (fun _ _ _ h => h) (Or.inl ⟨by rfl, ?_⟩) (fun _ => by exact hS0) ?_
            rotate_left
            · intro w hSw; (try dsimp only at hSw); go_simp; (try with_reducible rfl)
            try simp only [List.getElem_toArray, List.getElem_cons_zero, List.getElem_cons_succ, Act.put, List.setIfInBounds_toArray, List.set_cons_zero, List.set_cons_succ]
            refine wpAnyX_pure (i := 2) (v := ?_) rfl (by kernel_rfl) (by kernel_rfl) (by kernel_rfl) (by kernel_rfl) (by kernel_rfl) (fun _ _ _ h => h) (Or.inl ⟨by rfl, ?_⟩) (fun _ => by exact hS0) ?_
            rotate_left
            · intro w hSw; (try dsimp only at hSw); go_simp; (try with_reducible rfl)
            try simp only [List.getElem_toArray, List.getElem_cons_zero, List.getElem_cons_succ, Act.put, List.setIfInBounds_toArray, List.set_cons_zero, List.set_cons_succ]
            refine wpAnyX_pure (i := 3) (v := ?_) rfl (by kernel_rfl) (by kernel_rfl) (by kernel_rfl) (by kernel_rfl) (by kernel_rfl) (fun _ _ _ h => h) (Or.inl ⟨by rfl, ?_⟩) (fun _ => by exact hS0) ?_
            rotate_left
            · intro w hSw; (try dsimp only at hSw); go_simp; (try with_reducible rfl)
            try simp only [List.getElem_toArray, List.getElem_cons_zero, List.getElem_cons_succ, Act.put, List.setIfInBounds_toArray, List.set_cons_zero, List.set_cons_succ]
            refine wpAnyX_two (i := 0) (j := 4) (by kernel_rfl) rfl rfl (fun K hK => ?_) (fun K hK => ?_)
            · go_simp
              have HA1 := Lib.hid (Blk.new W0 22 mc)
              refine hK.out _ _ (fun _ => by exact hS0) ?_
              clear hK K
              try simp only [List.getElem_toArray, List.getElem_cons_zero, List.getElem_cons_succ, Act.put, List.setIfInBounds_toArray, List.set_cons_zero, List.set_cons_succ]
              refine wpAnyX_one (i := 4) (by kernel_rfl) rfl (fun K hK => ?_)
              go_simp
              refine (binaries_f _).mono ?_
              rintro e w4 ⟨rfl, rfl⟩
              refine hK.out _ _ (fun _ => by exact hS0) ?_
              clear hK K
              try simp only [List.getElem_toArray, List.getElem_cons_zero, List.getElem_cons_succ, Act.put, List.setIfInBounds_toArray, List.set_cons_zero, List.set_cons_succ]
              refine wpAnyX_pure (i := 5) (v := ?_) rfl (by kernel_rfl) (by kernel_rfl) (by kernel_rfl) (by kernel_rfl) (by kernel_rfl) (fun _ _ _ h => h) (Or.inl ⟨by rfl, ?_⟩) (fun _ => by exact hS0) ?_
              rotate_left
              · intro w hSw; (try dsimp only at hSw); go_simp; (try with_reducible rfl)
              try simp only [List.getElem_toArray, List.getElem_cons_zero, List.getElem_cons_succ, Act.put, List.setIfInBounds_toArray, List.set_cons_zero, List.set_cons_succ]
              refine wpAnyX_one (i := 6) (by kernel_rfl) rfl (fun K hK => ?_)
              go_simp
              refine hK.out _ _ (fun _ => by exact hS0) ?_
              clear hK K
              try simp only [List.getElem_toArray, List.getElem_cons_zero, List.getElem_cons_succ, Act.put, List.setIfInBounds_toArray, List.set_cons_zero, List.set_cons_succ]
              refine wpAnyX_pure (i := 7) (v := ?_) rfl (by kernel_rfl) (by kernel_rfl) (by kernel_rfl) (by kernel_rfl) (by kernel_rfl) (fun _ _ _ h => h) (Or.inl ⟨by rfl, ?_⟩) (fun _ => by exact hS0) ?_
              rotate_left
              · intro w hSw; (try dsimp only at hSw); go_simp; (try with_reducible rfl)
              try simp only [List.getElem_toArray, List.getElem_cons_zero, List.getElem_cons_succ, Act.put, List.setIfInBounds_toArray, List.set_cons_zero, List.set_cons_succ]
              refine wpAnyX_done (by kernel_rfl) ?_ _
              obtain ⟨g, hg⟩ : ∃ g, g = W0.heap.size + 1 + 1 := ⟨_, rfl⟩
              obtain ⟨bb, hbb⟩ : ∃ bb, bb = W0.heap.size + 1 := ⟨_, rfl⟩
              obtain ⟨WM, hWM⟩ : ∃ WM, WM = (((W0.alloc (.cells mc 22)).alloc (.map ents 7)).alloc (.cells (pcells W0.heap.size at_ (.slice none 0 0) (.slice none 0 0) Ai ni ci (.slice none 0 0) false 0 false (.map (some (W0.heap.size + 1)))) 46)) := ⟨_, rfl⟩
              have hbm : Below wq.heap.size wq WM := by rw [hWM]; exact (((HB0.out.alloc HB0.out.size _).alloc (HB0.out.alloc HB0.out.size _).size _).alloc ((HB0.out.alloc HB0.out.size _).alloc (HB0.out.alloc HB0.out.size _).size _).size _)
              have hgb : Blk WM g 46 (pcells W0.heap.size at_ (.slice none 0 0) (.slice none 0 0) Ai ni ci (.slice none 0 0) false 0 false (.map (some bb))) := by rw [hWM, hg, hbb]; exact new3 _ _ _ _ _
              have hmb : Blk WM (W0.heap.size) 22 mc := by rw [hWM]; exact ((Blk.new W0 22 mc).alloc _).alloc _
              have hpb : WM.heap[bb]? = some (.map ents 7) := by rw [hWM, hbb]; exact heap_at2 _ _ _ _
              have HMP := Lib.hid (mp_start (n := 0) hbm hmb HMS.out HMC.out hpb hgb (by have := HZ0.out; omega) (by have := HZ0.out; omega) (by omega) (by omega) (by omega) HIr.out)
              have HWM := Lib.hid (show WM = (((W0.alloc (.cells mc 22)).alloc (.map ents 7)).alloc (.cells #[.slice (some ⟨W0.heap.size, 0, none⟩) 262144 262144, .int .u32 at_, .slice none 0 0, .slice none 0 0, .slice Ai ni ci, .slice none 0 0, .bool false, .int .i64 0, .bool false, .map (some (W0.heap.size + 1))] 46)) from hWM)
              have HG := Lib.hid hg
              rw [← hg]
              clear hbm hgb hmb hpb hg hbb hWM
              go_wp2_with fail
              rw [← HWM.out]
              obtain ⟨fx, hfx0⟩ : ∃ fx : List (Nat × Obj), fx = [(bb, Obj.map ents 7)] := ⟨_, rfl⟩
              rw [← hfx0] at HMP
              have HFX := Lib.hid (show (bb, Obj.map ents 7) ∈ fx by rw [hfx0]; simp)
              clear hfx0
              go_loopw [66] (fun i V => ∃ k : Nat, k ≤ n ∧ i = .int .i64 (k : Int) ∧ MP fx wq V g 0 false (.map (some bb)) ⟨memN ts k, at_, [], [], input, [], false⟩) (fun i _ => n - (intOf i).toNat)
              case atStart => exact ⟨0, by omega, rfl, by rw [memN_zero]; exact HMP.out⟩
              case round =>
                obtain ⟨q, hq, rfl, hM⟩ := hrel
                obtain ⟨V, hV⟩ : ∃ V : World, V = wr := ⟨_, rfl⟩
                subst hV
                have HM := Lib.hid hM
                by_cases hqn : q < n
                · have hql : q < ts.length := by rw [← HN.out]; exact hqn
                  obtain ⟨ad, hAe, _, hx0, hx1⟩ := (HTr.out.below hM.bel).at_ hql
                  subst hAe
                  obtain ⟨x, hx⟩ : ∃ x, x = ts[q] := ⟨_, rfl⟩
                  have hxb := HTS.out x (by rw [hx]; exact List.getElem_mem hql)
                  have hxo : badT x = false := by
                    have h9 : okN ts ts.length = true := by rw [← HFA.out]; exact HFF.out
                    unfold okN at h9
                    rw [List.take_length, Bool.not_eq_true'] at h9
                    exact Bool.eq_false_iff.2 fun e => by
                      have := List.any_eq_false.1 h9 x (by rw [hx]; exact List.getElem_mem hql)
                      exact this e
                  rw [← hx] at hx0 hx1
                  have hxn : 0 ≤ x.1 ∧ x.1 + (x.2.size : Int) ≤ 262144 := by
                    unfold badT at hxo
                    simp only [Bool.or_eq_false_iff, decide_eq_false_iff_not] at hxo
                    omega
                  obtain ⟨a, hxa⟩ := Int.eq_ofNat_of_zero_le hxn.1
                  have HXA := Lib.hid hxa
                  rw [hxa] at hx0 hxn
                  have hsz : a + x.2.size ≤ 262144 := by have := hxn.2; omega
                  have HMS2 := Lib.hid (show memN ts (q + 1) = putT (memN ts q) x by rw [memN_succ ts hql, hx])
                  have HM2 := Lib.hid (hM.addFix (.cells #[.int .i64 (a : Int), .string x.2] 30))
                  have HTB := Lib.hid (show (V.heap.size, Obj.cells #[.int .i64 (a : Int), .string x.2] 30) ∈ (V.heap.size, Obj.cells #[.int .i64 (a : Int), .string x.2] 30) :: fx by simp)
                  obtain ⟨tb, htb⟩ : ∃ tb, tb = V.heap.size := ⟨_, rfl⟩
                  have HTBE := Lib.hid htb
                  rw [← htb] at HM2 HTB
                  clear hM hx hxb hxo hxn hxa htb
                  go_wp2_with fail
                  rw [← HTBE.out]
                  obtain ⟨sx, hsx⟩ : ∃ sx, sx = x.2.size := ⟨_, rfl⟩
                  have HSX := Lib.hid hsx
                  rw [← hsx] at hsz ⊢
                  clear hsx
                  go_loopw [73] (fun i U => ∃ j : Nat, j ≤ sx ∧ i = .int .i64 (j : Int) ∧ MP ((tb, Obj.cells #[.int .i64 (a : Int), .string x.2] 30) :: fx) wq U g 0 false (.map (some bb)) ⟨putP (memN ts q) x j, at_, [], [], input, [], false⟩) (fun i _ => sx - (intOf i).toNat)
                  case atStart => exact ⟨0, by omega, rfl, by rw [putP_zero]; exact HM2.out⟩
                  case round =>
                    obtain ⟨j, hj, rfl, hM⟩ := hrel
                    obtain ⟨U, hU⟩ : ∃ U : World, U = wr := ⟨_, rfl⟩
                    subst hU
                    have HM3 := Lib.hid hM
                    by_cases hjs : j < sx
                    · have hjx : j < x.2.size := by rw [← HSX.out]; exact hjs
                      obtain ⟨gm, hc0⟩ := hM.mem0
                      have htx : Blk U tb 30 #[.int .i64 (a : Int), .string x.2] := hM.fixAt HTB.out
                      have ht0 := htx.cell 0
                      have ht1 := htx.cell 1
                      rw [show (#[Value.int .i64 (a : Int), .string x.2] : Array Value)[0]? = some (.int .i64 (a : Int)) from rfl] at ht0
                      rw [show (#[Value.int .i64 (a : Int), .string x.2] : Array Value)[1]? = some (.string x.2) from rfl] at ht1
                      have HC0 := Lib.hid hc0
                      have hwd := (hM.word hc0 (a := a + j) (by omega)).1
                      have hwf := (hM.word hc0 (a := a + j) (by omega)).2
                      have hrs : IntKind.i64.wrap ((a : Int) + (j : Int)) = (a : Int) + (j : Int) := IntWalk.i64_in _ (by omega)
                      have hr0 : (0 : Int) ≤ (a : Int) + (j : Int) := by omega
                      have hr1 : (a : Int) + (j : Int) < 262144 := by omega
                      have hr2 : ((a : Int) + (j : Int)).toNat = a + j := by omega
                      have HPS := Lib.hid (show put (putP (memN ts q) x j) (a + j) (((x.2[j]).toNat : Int) % 4294967296) = putP (memN ts q) x (j + 1) by
                        have := putP_succ (memN ts q) x j
                        rw [HXA.out] at this
                        rw [← this]
                        congr 1
                        have h9 : (x.2.data.getD j 0) = x.2[j] := by
                          rw [Array.getD, dif_pos (show j < x.2.data.size from hjx)]; rfl
                        rw [h9]
                        have := (x.2[j]).toNat_lt
                        omega)
                      clear hM htx
                      go_wp2_with fail
                      have hS1 : U.drew.cell? ⟨g, 0, none⟩ = some (.slice (some ⟨gm, 0, none⟩) 262144 262144) ∧ U.drew.cell? ⟨tb, 0, none⟩ = some (.int .i64 (a : Int)) ∧ U.drew.cell? ⟨tb, 1, none⟩ = some (.string x.2) := ⟨hc0, ht0, ht1⟩
                      refine wp_region_X (fun V => V.cell? ⟨g, 0, none⟩ = some (.slice (some ⟨gm, 0, none⟩) 262144 262144) ∧ V.cell? ⟨tb, 0, none⟩ = some (.int .i64 (a : Int)) ∧ V.cell? ⟨tb, 1, none⟩ = some (.string x.2)) 14 (by kernel_rfl) ?_
                      show wpAnyX _ _ _ _ _ _ 15 _ _ _
                      refine wpAnyX_pure (i := 0) (v := ?_) rfl (by kernel_rfl) (by kernel_rfl) (by kernel_rfl) (by kernel_rfl) (by kernel_rfl) (fun _ _ _ h => h) (Or.inl ⟨by rfl, ?_⟩) (fun _ => by exact hS1) ?_
                      rotate_left
                      · intro w hSw; (try dsimp only at hSw); go_simp; (try with_reducible rfl)
                      try simp only [List.getElem_toArray, List.getElem_cons_zero, Act.put, List.setIfInBounds_toArray, List.set_cons_zero, List.set_cons_succ]
                      refine wpAnyX_pure (i := 1) (v := ?_) rfl (by kernel_rfl) (by kernel_rfl) (by kernel_rfl) (by kernel_rfl) (by kernel_rfl) (fun _ _ _ h => h) (Or.inl ⟨by rfl, ?_⟩) (fun _ => by exact hS1) ?_
                      rotate_left
                      · intro w hSw; (try dsimp only at hSw); go_simp; (try with_reducible rfl)
                      try simp only [List.getElem_toArray, List.getElem_cons_zero, List.getElem_cons_succ, Act.put, List.setIfInBounds_toArray, List.set_cons_zero, List.set_cons_succ]
                      refine wpAnyX_pure (i := 2) (v := ?_) rfl (by kernel_rfl) (by kernel_rfl) (by kernel_rfl) (by kernel_rfl) (by kernel_rfl) (fun _ _ _ h => h) (Or.inl ⟨by rfl, ?_⟩) (fun _ => by exact hS1) ?_
                      rotate_left
                      · intro w hSw; (try dsimp only at hSw); go_simp; (try with_reducible rfl)
                      try simp only [List.getElem_toArray, List.getElem_cons_zero, List.getElem_cons_succ, Act.put, List.setIfInBounds_toArray, List.set_cons_zero, List.set_cons_succ]
                      refine wpAnyX_take (i := 3) (v := ?_) rfl (by kernel_rfl) (by kernel_rfl) (by kernel_rfl) (by kernel_rfl) (by kernel_rfl) (fun _ _ _ h => h) (Or.inl ⟨by rfl, ?_⟩) (by exact hS1) ?_
                      rotate_left
                      · intro w hSw; (try dsimp only at hSw); go_simp; (try with_reducible rfl)
                      try simp only [List.getElem_toArray, List.getElem_cons_zero, List.getElem_cons_succ, Act.put, List.setIfInBounds_toArray, List.set_cons_zero, List.set_cons_succ]
                      refine wpAnyX_pure (i := 4) (v := ?_) rfl (by kernel_rfl) (by kernel_rfl) (by kernel_rfl) (by kernel_rfl) (by kernel_rfl) (fun _ _ _ h => h) (Or.inl ⟨by rfl, ?_⟩) (fun _ => by exact hS1) ?_
                      rotate_left
                      · intro w hSw; (try dsimp only at hSw); go_simp; (try with_reducible rfl)
                      try simp only [List.getElem_toArray, List.getElem_cons_zero, List.getElem_cons_succ, Act.put, List.setIfInBounds_toArray, List.set_cons_zero, List.set_cons_succ]
                      refine wpAnyX_take (i := 5) (v := ?_) rfl (by kernel_rfl) (by kernel_rfl) (by kernel_rfl) (by kernel_rfl) (by kernel_rfl) (fun _ _ _ h => h) (Or.inl ⟨by rfl, ?_⟩) (by exact hS1) ?_
                      rotate_left
                      · intro w hSw; (try dsimp only at hSw); go_simp; (try with_reducible rfl)
                      try simp only [List.getElem_toArray, List.getElem_cons_zero, List.getElem_cons_succ, Act.put, List.setIfInBounds_toArray, List.set_cons_zero, List.set_cons_succ]
                      refine wpAnyX_pure (i := 6) (v := ?_) rfl (by kernel_rfl) (by kernel_rfl) (by kernel_rfl) (by kernel_rfl) (by kernel_rfl) (fun _ _ _ h => h) (Or.inl ⟨by rfl, ?_⟩) (fun _ => by exact hS1) ?_
                      rotate_left
                      · intro w hSw; (try dsimp only at hSw); go_simp; (try with_reducible rfl)
                      try simp only [List.getElem_toArray, List.getElem_cons_zero, List.getElem_cons_succ, Act.put, List.setIfInBounds_toArray, List.set_cons_zero, List.set_cons_succ]
                      refine wpAnyX_pure (i := 7) (v := ?_) rfl (by kernel_rfl) (by kernel_rfl) (by kernel_rfl) (by kernel_rfl) (by kernel_rfl) (fun _ _ _ h => h) (Or.inl ⟨by rfl, ?_⟩) (fun _ => by exact hS1) ?_
                      rotate_left
                      · intro w hSw; (try dsimp only at hSw); go_simp; (try with_reducible rfl)
                      try simp only [List.getElem_toArray, List.getElem_cons_zero, List.getElem_cons_succ, Act.put, List.setIfInBounds_toArray, List.set_cons_zero, List.set_cons_succ]
                      refine wpAnyX_pure (i := 8) (v := ?_) rfl (by kernel_rfl) (by kernel_rfl) (by kernel_rfl) (by kernel_rfl) (by kernel_rfl) (fun _ _ _ h => h) (Or.inl ⟨by rfl, ?_⟩) (fun _ => by exact hS1) ?_
                      rotate_left
                      · intro w hSw; (try dsimp only at hSw); go_simp; (try with_reducible rfl)
                      try simp only [List.getElem_toArray, List.getElem_cons_zero, List.getElem_cons_succ, Act.put, List.setIfInBounds_toArray, List.set_cons_zero, List.set_cons_succ]
                      refine wpAnyX_take (i := 9) (v := ?_) rfl (by kernel_rfl) (by kernel_rfl) (by kernel_rfl) (by kernel_rfl) (by kernel_rfl) (fun _ _ _ h => h) (Or.inl ⟨by rfl, ?_⟩) (by exact hS1) ?_
                      rotate_left
                      · intro w hSw; (try dsimp only at hSw); go_simp; (try with_reducible rfl)
                      try simp only [List.getElem_toArray, List.getElem_cons_zero, List.getElem_cons_succ, Act.put, List.setIfInBounds_toArray, List.set_cons_zero, List.set_cons_succ]
                      refine wpAnyX_pure (i := 10) (v := ?_) rfl (by kernel_rfl) (by kernel_rfl) (by kernel_rfl) (by kernel_rfl) (by kernel_rfl) (fun _ _ _ h => h) (Or.inl ⟨by rfl, ?_⟩) (fun _ => by exact hS1) ?_
                      rotate_left
                      · intro w hSw; (try dsimp only at hSw); go_simp; (try with_reducible rfl)
                      try simp only [List.getElem_toArray, List.getElem_cons_zero, List.getElem_cons_succ, Act.put, List.setIfInBounds_toArray, List.set_cons_zero, List.set_cons_succ]
                      refine wpAnyX_pure (i := 11) (v := ?_) rfl (by kernel_rfl) (by kernel_rfl) (by kernel_rfl) (by kernel_rfl) (by kernel_rfl) (fun _ _ _ h => h) (Or.inl ⟨by rfl, ?_⟩) (fun _ => by exact hS1) ?_
                      rotate_left
                      · intro w hSw; (try dsimp only at hSw); go_simp; (try with_reducible rfl)
                      try simp only [List.getElem_toArray, List.getElem_cons_zero, List.getElem_cons_succ, Act.put, List.setIfInBounds_toArray, List.set_cons_zero, List.set_cons_succ]
                      refine wpAnyX_pure (i := 12) (v := ?_) rfl (by kernel_rfl) (by kernel_rfl) (by kernel_rfl) (by kernel_rfl) (by kernel_rfl) (fun _ _ _ h => h) (Or.inl ⟨by rfl, ?_⟩) (fun _ => by exact hS1) ?_
                      rotate_left
                      · intro w hSw; (try dsimp only at hSw); go_simp; (try with_reducible rfl)
                      try simp only [List.getElem_toArray, List.getElem_cons_zero, List.getElem_cons_succ, Act.put, List.setIfInBounds_toArray, List.set_cons_zero, List.set_cons_succ]
                      refine wpAnyX_pure (i := 13) (v := ?_) rfl (by kernel_rfl) (by kernel_rfl) (by kernel_rfl) (by kernel_rfl) (by kernel_rfl) (fun _ _ _ h => h) (Or.inl ⟨by rfl, ?_⟩) (fun _ => by exact hS1) ?_
                      rotate_left
                      · intro w hSw; (try dsimp only at hSw); go_simp; (try with_reducible rfl)
                      try simp only [List.getElem_toArray, List.getElem_cons_zero, List.getElem_cons_succ, Act.put, List.setIfInBounds_toArray, List.set_cons_zero, List.set_cons_succ]
                      refine wpAnyX_one (i := 14) (by kernel_rfl) rfl (fun K hK => ?_)
                      go_simp
                      refine hK.out _ _ (fun h => absurd h (by decide)) ?_
                      clear hK K
                      try simp only [List.getElem_toArray, List.getElem_cons_zero, List.getElem_cons_succ, Act.put, List.setIfInBounds_toArray, List.set_cons_zero, List.set_cons_succ]
                      refine wpAnyX_done (by kernel_rfl) ?_ _
                      clear hr0 hr1 hr2 hrs
                      go_wp2_with fail
                      go_roundw
                      case rel => exact ⟨j + 1, by omega, by go_num, by rw [← HPS.out]; exact (HM3.out.setM HC0.out (by omega) _).drew⟩
                      case measure => simp [intOf]; omega
                    · have hje : j = sx := by omega
                      have HQ := Lib.hid (show MP fx wq U g 0 false (.map (some bb)) ⟨memN ts (q + 1), at_, [], [], input, [], false⟩ by
                        rw [HMS2.out, ← putP_all, ← HSX.out, ← hje]; exact HM3.out.dropFix)
                      clear hM
                      go_wp2_with fail
                      go_roundw
                      case rel => exact ⟨q + 1, by omega, by go_num, HQ.out⟩
                      case measure => simp [intOf]; omega
                · have hqe : ts.length ≤ q := by rw [← HN.out]; omega
                  rw [memN_all ts hqe] at HM
                  have HRUN := Lib.hid (run_f HM.out HFX.out (start_ok ts ⟨h0, h1⟩ HIW.out) rfl L hL)
                  rw [show (⟨memT ts, at_, [], [], input, [], false⟩ : St) = start ts at_ input from rfl, ← HR.out] at HRUN
                  clear hM
                  go_wp2_with fail
                  refine HRUN.out.mono ?_
                  rintro e w4 ⟨rfl, z4, t4, hm4, ho4⟩
                  obtain ⟨gm, vd, vc, vo, A4, n4, c4, b4, p4, _⟩ := hm4
                  obtain ⟨Ao, co, rfl, hy, _⟩ := byt_own p4.o
                  rw [ho4] at hy b4 p4
                  obtain ⟨O, er, ns⟩ := r
                  have hcv := run_conv_byt (P := Tryd.prog) (w := w4.drew) (show Byt w4.drew Ao O.length co O from hy) 33 5 9 Tryd.underlying33 Tryd.underlying5 Tryd.underlying9
                  have hc5 : w4.cell? ⟨g, 5, none⟩ = some (.slice Ao O.length co) := b4.cell 5
                  have hc7 : w4.cell? ⟨g, 7, none⟩ = some (.int .i64 ns) := b4.cell 7
                  have hB4 := HBo.out.below p4.bel
                  have hb0 := hB4.cell 0
                  have hb1 := hB4.cell 1
                  have hb2 := hB4.cell 2
                  rw [show (#[Value.string ⟨#[]⟩, .int .i64 0, .int .i64 0] : Array Value)[0]? = some (.string ⟨#[]⟩) from rfl] at hb0
                  rw [show (#[Value.string ⟨#[]⟩, .int .i64 0, .int .i64 0] : Array Value)[1]? = some (.int .i64 0) from rfl] at hb1
                  rw [show (#[Value.string ⟨#[]⟩, .int .i64 0, .int .i64 0] : Array Value)[2]? = some (.int .i64 0) from rfl] at hb2
                  have hf0 := hB4.frozen 0
                  have hf1 := hB4.frozen 1
                  have hf2 := hB4.frozen 2
                  have HBE := Lib.hid (HBW.out.trans (p4.bel.mono HBW.out.size))
                  clear b4 p4 hy hB4 ho4
                  go_wp2_with fail
                  refine wp_region_still_tail 11 (by kernel_rfl) (by kernel_rfl) ?_
                  simp only [List.take_succ_cons, List.take_zero, List.drop_succ_cons, List.drop_zero]
                  iterate 11 still_step
                  refine wpStill_nil ?_
                  change wpList _ _ _ _ _ w4.drew
                  go_wp2_with fail
                  refine bodyPost_ret (v := .agg #[.string (ofL O), .int .i64 er, .int .i64 ns]) (by simp [results, Tryd.results7, go_sem, hb0, hb1, hb2]) rfl (runPost_of rfl rfl ?_)
                  exact (((HBE.out.setCell (Nat.le_refl _) _).setCell (Nat.le_refl _) _).setCell (Nat.le_refl _) _).drew
            · go_simp
              refine (binaries_f _).mono ?_
              rintro e w4 ⟨rfl, rfl⟩
              refine hK.out _ _ (fun _ => by exact hS0) ?_
              clear hK K
              try simp only [List.getElem_toArray, List.getElem_cons_zero, List.getElem_cons_succ, Act.put, List.setIfInBounds_toArray, List.set_cons_zero, List.set_cons_succ]
              refine wpAnyX_one (i := 0) (by kernel_rfl) rfl (fun K hK => ?_)
              go_simp
              refine hK.out _ _ (fun _ => by exact hS0) ?_
              clear hK K
              try simp only [List.getElem_toArray, List.getElem_cons_zero, List.getElem_cons_succ, Act.put, List.setIfInBounds_toArray, List.set_cons_zero, List.set_cons_succ]
              refine wpAnyX_pure (i := 5) (v := ?_) rfl (by kernel_rfl) (by kernel_rfl) (by kernel_rfl) (by kernel_rfl) (by kernel_rfl) (fun _ _ _ h => h) (Or.inl ⟨by rfl, ?_⟩) (fun _ => by exact hS0) ?_
              rotate_left
              · intro w hSw; (try dsimp only at hSw); go_simp; (try with_reducible rfl)
              try simp only [List.getElem_toArray, List.getElem_cons_zero, List.getElem_cons_succ, Act.put, List.setIfInBounds_toArray, List.set_cons_zero, List.set_cons_succ]
              refine wpAnyX_one (i := 6) (by kernel_rfl) rfl (fun K hK => ?_)
              go_simp
              refine hK.out _ _ (fun _ => by exact hS0) ?_
              clear hK K
              try simp only [List.getElem_toArray, List.getElem_cons_zero, List.getElem_cons_succ, Act.put, List.setIfInBounds_toArray, List.set_cons_zero, List.set_cons_succ]
              refine wpAnyX_pure (i := 7) (v := ?_) rfl (by kernel_rfl) (by kernel_rfl) (by kernel_rfl) (by kernel_rfl) (by kernel_rfl) (fun _ _ _ h => h) (Or.inl ⟨by rfl, ?_⟩) (fun _ => by exact hS0) ?_
              rotate_left
              · intro w hSw; (try dsimp only at hSw); go_simp; (try with_reducible rfl)
              try simp only [List.getElem_toArray, List.getElem_cons_zero, List.getElem_cons_succ, Act.put, List.setIfInBounds_toArray, List.set_cons_zero, List.set_cons_succ]
              refine wpAnyX_done (by kernel_rfl) ?_ _
              obtain ⟨g, hg⟩ : ∃ g, g = W0.heap.size + 1 + 1 := ⟨_, rfl⟩
              obtain ⟨bb, hbb⟩ : ∃ bb, bb = W0.heap.size := ⟨_, rfl⟩
              obtain ⟨WM, hWM⟩ : ∃ WM, WM = (((W0.alloc (.map ents 7)).alloc (.cells mc 22)).alloc (.cells (pcells (W0.heap.size + 1) at_ (.slice none 0 0) (.slice none 0 0) Ai ni ci (.slice none 0 0) false 0 false (.map (some W0.heap.size))) 46)) := ⟨_, rfl⟩
              have hbm : Below wq.heap.size wq WM := by rw [hWM]; exact (((HB0.out.alloc HB0.out.size _).alloc (HB0.out.alloc HB0.out.size _).size _).alloc ((HB0.out.alloc HB0.out.size _).alloc (HB0.out.alloc HB0.out.size _).size _).size _)
              have hgb : Blk WM g 46 (pcells (W0.heap.size + 1) at_ (.slice none 0 0) (.slice none 0 0) Ai ni ci (.slice none 0 0) false 0 false (.map (some bb))) := by rw [hWM, hg, hbb]; exact new3 _ _ _ _ _
              have hmb : Blk WM ((W0.heap.size + 1)) 22 mc := by rw [hWM]; exact blk_at2 _ _ _ _ _
              have hpb : WM.heap[bb]? = some (.map ents 7) := by rw [hWM, hbb]; exact heap_at3 _ _ _ _
              have HMP := Lib.hid (mp_start (n := 0) hbm hmb HMS.out HMC.out hpb hgb (by have := HZ0.out; omega) (by have := HZ0.out; omega) (by omega) (by omega) (by omega) HIr.out)
              have HWM := Lib.hid (show WM = (((W0.alloc (.map ents 7)).alloc (.cells mc 22)).alloc (.cells #[.slice (some ⟨(W0.heap.size + 1), 0, none⟩) 262144 262144, .int .u32 at_, .slice none 0 0, .slice none 0 0, .slice Ai ni ci, .slice none 0 0, .bool false, .int .i64 0, .bool false, .map (some W0.heap.size)] 46)) from hWM)
              have HG := Lib.hid hg
              rw [← hg]
              clear hbm hgb hmb hpb hg hbb hWM
              go_wp2_with fail
              rw [← HWM.out]
              obtain ⟨fx, hfx0⟩ : ∃ fx : List (Nat × Obj), fx = [(bb, Obj.map ents 7)] := ⟨_, rfl⟩
              rw [← hfx0] at HMP
              have HFX := Lib.hid (show (bb, Obj.map ents 7) ∈ fx by rw [hfx0]; simp)
              clear hfx0
              go_loopw [66] (fun i V => ∃ k : Nat, k ≤ n ∧ i = .int .i64 (k : Int) ∧ MP fx wq V g 0 false (.map (some bb)) ⟨memN ts k, at_, [], [], input, [], false⟩) (fun i _ => n - (intOf i).toNat)
              case atStart => exact ⟨0, by omega, rfl, by rw [memN_zero]; exact HMP.out⟩
              case round =>
                obtain ⟨q, hq, rfl, hM⟩ := hrel
                obtain ⟨V, hV⟩ : ∃ V : World, V = wr := ⟨_, rfl⟩
                subst hV
                have HM := Lib.hid hM
                by_cases hqn : q < n
                · have hql : q < ts.length := by rw [← HN.out]; exact hqn
                  obtain ⟨ad, hAe, _, hx0, hx1⟩ := (HTr.out.below hM.bel).at_ hql
                  subst hAe
                  obtain ⟨x, hx⟩ : ∃ x, x = ts[q] := ⟨_, rfl⟩
                  have hxb := HTS.out x (by rw [hx]; exact List.getElem_mem hql)
                  have hxo : badT x = false := by
                    have h9 : okN ts ts.length = true := by rw [← HFA.out]; exact HFF.out
                    unfold okN at h9
                    rw [List.take_length, Bool.not_eq_true'] at h9
                    exact Bool.eq_false_iff.2 fun e => by
                      have := List.any_eq_false.1 h9 x (by rw [hx]; exact List.getElem_mem hql)
                      exact this e
                  rw [← hx] at hx0 hx1
                  have hxn : 0 ≤ x.1 ∧ x.1 + (x.2.size : Int) ≤ 262144 := by
                    unfold badT at hxo
                    simp only [Bool.or_eq_false_iff, decide_eq_false_iff_not] at hxo
                    omega
                  obtain ⟨a, hxa⟩ := Int.eq_ofNat_of_zero_le hxn.1
                  have HXA := Lib.hid hxa
                  rw [hxa] at hx0 hxn
                  have hsz : a + x.2.size ≤ 262144 := by have := hxn.2; omega
                  have HMS2 := Lib.hid (show memN ts (q + 1) = putT (memN ts q) x by rw [memN_succ ts hql, hx])
                  have HM2 := Lib.hid (hM.addFix (.cells #[.int .i64 (a : Int), .string x.2] 30))
                  have HTB := Lib.hid (show (V.heap.size, Obj.cells #[.int .i64 (a : Int), .string x.2] 30) ∈ (V.heap.size, Obj.cells #[.int .i64 (a : Int), .string x.2] 30) :: fx by simp)
                  obtain ⟨tb, htb⟩ : ∃ tb, tb = V.heap.size := ⟨_, rfl⟩
                  have HTBE := Lib.hid htb
                  rw [← htb] at HM2 HTB
                  clear hM hx hxb hxo hxn hxa htb
                  go_wp2_with fail
                  rw [← HTBE.out]
                  obtain ⟨sx, hsx⟩ : ∃ sx, sx = x.2.size := ⟨_, rfl⟩
                  have HSX := Lib.hid hsx
                  rw [← hsx] at hsz ⊢
                  clear hsx
                  go_loopw [73] (fun i U => ∃ j : Nat, j ≤ sx ∧ i = .int .i64 (j : Int) ∧ MP ((tb, Obj.cells #[.int .i64 (a : Int), .string x.2] 30) :: fx) wq U g 0 false (.map (some bb)) ⟨putP (memN ts q) x j, at_, [], [], input, [], false⟩) (fun i _ => sx - (intOf i).toNat)
                  case atStart => exact ⟨0, by omega, rfl, by rw [putP_zero]; exact HM2.out⟩
                  case round =>
                    obtain ⟨j, hj, rfl, hM⟩ := hrel
                    obtain ⟨U, hU⟩ : ∃ U : World, U = wr := ⟨_, rfl⟩
                    subst hU
                    have HM3 := Lib.hid hM
                    by_cases hjs : j < sx
                    · have hjx : j < x.2.size := by rw [← HSX.out]; exact hjs
                      obtain ⟨gm, hc0⟩ := hM.mem0
                      have htx : Blk U tb 30 #[.int .i64 (a : Int), .string x.2] := hM.fixAt HTB.out
                      have ht0 := htx.cell 0
                      have ht1 := htx.cell 1
                      rw [show (#[Value.int .i64 (a : Int), .string x.2] : Array Value)[0]? = some (.int .i64 (a : Int)) from rfl] at ht0
                      rw [show (#[Value.int .i64 (a : Int), .string x.2] : Array Value)[1]? = some (.string x.2) from rfl] at ht1
                      have HC0 := Lib.hid hc0
                      have hwd := (hM.word hc0 (a := a + j) (by omega)).1
                      have hwf := (hM.word hc0 (a := a + j) (by omega)).2
                      have hrs : IntKind.i64.wrap ((a : Int) + (j : Int)) = (a : Int) + (j : Int) := IntWalk.i64_in _ (by omega)
                      have hr0 : (0 : Int) ≤ (a : Int) + (j : Int) := by omega
                      have hr1 : (a : Int) + (j : Int) < 262144 := by omega
                      have hr2 : ((a : Int) + (j : Int)).toNat = a + j := by omega
                      have HPS := Lib.hid (show put (putP (memN ts q) x j) (a + j) (((x.2[j]).toNat : Int) % 4294967296) = putP (memN ts q) x (j + 1) by
                        have := putP_succ (memN ts q) x j
                        rw [HXA.out] at this
                        rw [← this]
                        congr 1
                        have h9 : (x.2.data.getD j 0) = x.2[j] := by
                          rw [Array.getD, dif_pos (show j < x.2.data.size from hjx)]; rfl
                        rw [h9]
                        have := (x.2[j]).toNat_lt
                        omega)
                      clear hM htx
                      go_wp2_with fail
                      have hS1 : U.drew.cell? ⟨g, 0, none⟩ = some (.slice (some ⟨gm, 0, none⟩) 262144 262144) ∧ U.drew.cell? ⟨tb, 0, none⟩ = some (.int .i64 (a : Int)) ∧ U.drew.cell? ⟨tb, 1, none⟩ = some (.string x.2) := ⟨hc0, ht0, ht1⟩
                      refine wp_region_X (fun V => V.cell? ⟨g, 0, none⟩ = some (.slice (some ⟨gm, 0, none⟩) 262144 262144) ∧ V.cell? ⟨tb, 0, none⟩ = some (.int .i64 (a : Int)) ∧ V.cell? ⟨tb, 1, none⟩ = some (.string x.2)) 14 (by kernel_rfl) ?_
                      show wpAnyX _ _ _ _ _ _ 15 _ _ _
                      refine wpAnyX_pure (i := 0) (v := ?_) rfl (by kernel_rfl) (by kernel_rfl) (by kernel_rfl) (by kernel_rfl) (by kernel_rfl) (fun _ _ _ h => h) (Or.inl ⟨by rfl, ?_⟩) (fun _ => by exact hS1) ?_
                      rotate_left
                      · intro w hSw; (try dsimp only at hSw); go_simp; (try with_reducible rfl)
                      try simp only [List.getElem_toArray, List.getElem_cons_zero, Act.put, List.setIfInBounds_toArray, List.set_cons_zero, List.set_cons_succ]
                      refine wpAnyX_pure (i := 1) (v := ?_) rfl (by kernel_rfl) (by kernel_rfl) (by kernel_rfl) (by kernel_rfl) (by kernel_rfl) (fun _ _ _ h => h) (Or.inl ⟨by rfl, ?_⟩) (fun _ => by exact hS1) ?_
                      rotate_left
                      · intro w hSw; (try dsimp only at hSw); go_simp; (try with_reducible rfl)
                      try simp only [List.getElem_toArray, List.getElem_cons_zero, List.getElem_cons_succ, Act.put, List.setIfInBounds_toArray, List.set_cons_zero, List.set_cons_succ]
                      refine wpAnyX_pure (i := 2) (v := ?_) rfl (by kernel_rfl) (by kernel_rfl) (by kernel_rfl) (by kernel_rfl) (by kernel_rfl) (fun _ _ _ h => h) (Or.inl ⟨by rfl, ?_⟩) (fun _ => by exact hS1) ?_
                      rotate_left
                      · intro w hSw; (try dsimp only at hSw); go_simp; (try with_reducible rfl)
                      try simp only [List.getElem_toArray, List.getElem_cons_zero, List.getElem_cons_succ, Act.put, List.setIfInBounds_toArray, List.set_cons_zero, List.set_cons_succ]
                      refine wpAnyX_take (i := 3) (v := ?_) rfl (by kernel_rfl) (by kernel_rfl) (by kernel_rfl) (by kernel_rfl) (by kernel_rfl) (fun _ _ _ h => h) (Or.inl ⟨by rfl, ?_⟩) (by exact hS1) ?_
                      rotate_left
                      · intro w hSw; (try dsimp only at hSw); go_simp; (try with_reducible rfl)
                      try simp only [List.getElem_toArray, List.getElem_cons_zero, List.getElem_cons_succ, Act.put, List.setIfInBounds_toArray, List.set_cons_zero, List.set_cons_succ]
                      refine wpAnyX_pure (i := 4) (v := ?_) rfl (by kernel_rfl) (by kernel_rfl) (by kernel_rfl) (by kernel_rfl) (by kernel_rfl) (fun _ _ _ h => h) (Or.inl ⟨by rfl, ?_⟩) (fun _ => by exact hS1) ?_
                      rotate_left
                      · intro w hSw; (try dsimp only at hSw); go_simp; (try with_reducible rfl)
                      try simp only [List.getElem_toArray, List.getElem_cons_zero, List.getElem_cons_succ, Act.put, List.setIfInBounds_toArray, List.set_cons_zero, List.set_cons_succ]
                      refine wpAnyX_take (i := 5) (v := ?_) rfl (by kernel_rfl) (by kernel_rfl) (by kernel_rfl) (by kernel_rfl) (by kernel_rfl) (fun _ _ _ h => h) (Or.inl ⟨by rfl, ?_⟩) (by exact hS1) ?_
                      rotate_left
                      · intro w hSw; (try dsimp only at hSw); go_simp; (try with_reducible rfl)
                      try simp only [List.getElem_toArray, List.getElem_cons_zero, List.getElem_cons_succ, Act.put, List.setIfInBounds_toArray, List.set_cons_zero, List.set_cons_succ]
                      refine wpAnyX_pure (i := 6) (v := ?_) rfl (by kernel_rfl) (by kernel_rfl) (by kernel_rfl) (by kernel_rfl) (by kernel_rfl) (fun _ _ _ h => h) (Or.inl ⟨by rfl, ?_⟩) (fun _ => by exact hS1) ?_
                      rotate_left
                      · intro w hSw; (try dsimp only at hSw); go_simp; (try with_reducible rfl)
                      try simp only [List.getElem_toArray, List.getElem_cons_zero, List.getElem_cons_succ, Act.put, List.setIfInBounds_toArray, List.set_cons_zero, List.set_cons_succ]
                      refine wpAnyX_pure (i := 7) (v := ?_) rfl (by kernel_rfl) (by kernel_rfl) (by kernel_rfl) (by kernel_rfl) (by kernel_rfl) (fun _ _ _ h => h) (Or.inl ⟨by rfl, ?_⟩) (fun _ => by exact hS1) ?_
                      rotate_left
                      · intro w hSw; (try dsimp only at hSw); go_simp; (try with_reducible rfl)
                      try simp only [List.getElem_toArray, List.getElem_cons_zero, List.getElem_cons_succ, Act.put, List.setIfInBounds_toArray, List.set_cons_zero, List.set_cons_succ]
                      refine wpAnyX_pure (i := 8) (v := ?_) rfl (by kernel_rfl) (by kernel_rfl) (by kernel_rfl) (by kernel_rfl) (by kernel_rfl) (fun _ _ _ h => h) (Or.inl ⟨by rfl, ?_⟩) (fun _ => by exact hS1) ?_
                      rotate_left
                      · intro w hSw; (try dsimp only at hSw); go_simp; (try with_reducible rfl)
                      try simp only [List.getElem_toArray, List.getElem_cons_zero, List.getElem_cons_succ, Act.put, List.setIfInBounds_toArray, List.set_cons_zero, List.set_cons_succ]
                      refine wpAnyX_take (i := 9) (v := ?_) rfl (by kernel_rfl) (by kernel_rfl) (by kernel_rfl) (by kernel_rfl) (by kernel_rfl) (fun _ _ _ h => h) (Or.inl ⟨by rfl, ?_⟩) (by exact hS1) ?_
                      rotate_left
                      · intro w hSw; (try dsimp only at hSw); go_simp; (try with_reducible rfl)
                      try simp only [List.getElem_toArray, List.getElem_cons_zero, List.getElem_cons_succ, Act.put, List.setIfInBounds_toArray, List.set_cons_zero, List.set_cons_succ]
                      refine wpAnyX_pure (i := 10) (v := ?_) rfl (by kernel_rfl) (by kernel_rfl) (by kernel_rfl) (by kernel_rfl) (by kernel_rfl) (fun _ _ _ h => h) (Or.inl ⟨by rfl, ?_⟩) (fun _ => by exact hS1) ?_
                      rotate_left
                      · intro w hSw; (try dsimp only at hSw); go_simp; (try with_reducible rfl)
                      try simp only [List.getElem_toArray, List.getElem_cons_zero, List.getElem_cons_succ, Act.put, List.setIfInBounds_toArray, List.set_cons_zero, List.set_cons_succ]
                      refine wpAnyX_pure (i := 11) (v := ?_) rfl (by kernel_rfl) (by kernel_rfl) (by kernel_rfl) (by kernel_rfl) (by kernel_rfl) (fun _ _ _ h => h) (Or.inl ⟨by rfl, ?_⟩) (fun _ => by exact hS1) ?_
                      rotate_left
                      · intro w hSw; (try dsimp only at hSw); go_simp; (try with_reducible rfl)
                      try simp only [List.getElem_toArray, List.getElem_cons_zero, List.getElem_cons_succ, Act.put, List.setIfInBounds_toArray, List.set_cons_zero, List.set_cons_succ]
                      refine wpAnyX_pure (i := 12) (v := ?_) rfl (by kernel_rfl) (by kernel_rfl) (by kernel_rfl) (by kernel_rfl) (by kernel_rfl) (fun _ _ _ h => h) (Or.inl ⟨by rfl, ?_⟩) (fun _ => by exact hS1) ?_
                      rotate_left
                      · intro w hSw; (try dsimp only at hSw); go_simp; (try with_reducible rfl)
                      try simp only [List.getElem_toArray, List.getElem_cons_zero, List.getElem_cons_succ, Act.put, List.setIfInBounds_toArray, List.set_cons_zero, List.set_cons_succ]
                      refine wpAnyX_pure (i := 13) (v := ?_) rfl (by kernel_rfl) (by kernel_rfl) (by kernel_rfl) (by kernel_rfl) (by kernel_rfl) (fun _ _ _ h => h) (Or.inl ⟨by rfl, ?_⟩) (fun _ => by exact hS1) ?_
                      rotate_left
                      · intro w hSw; (try dsimp only at hSw); go_simp; (try with_reducible rfl)
                      try simp only [List.getElem_toArray, List.getElem_cons_zero, List.getElem_cons_succ, Act.put, List.setIfInBounds_toArray, List.set_cons_zero, List.set_cons_succ]
                      refine wpAnyX_one (i := 14) (by kernel_rfl) rfl (fun K hK => ?_)
                      go_simp
                      refine hK.out _ _ (fun h => absurd h (by decide)) ?_
                      clear hK K
                      try simp only [List.getElem_toArray, List.getElem_cons_zero, List.getElem_cons_succ, Act.put, List.setIfInBounds_toArray, List.set_cons_zero, List.set_cons_succ]
                      refine wpAnyX_done (by kernel_rfl) ?_ _
                      clear hr0 hr1 hr2 hrs
                      go_wp2_with fail
                      go_roundw
                      case rel => exact ⟨j + 1, by omega, by go_num, by rw [← HPS.out]; exact (HM3.out.setM HC0.out (by omega) _).drew⟩
                      case measure => simp [intOf]; omega
                    · have hje : j = sx := by omega
                      have HQ := Lib.hid (show MP fx wq U g 0 false (.map (some bb)) ⟨memN ts (q + 1), at_, [], [], input, [], false⟩ by
                        rw [HMS2.out, ← putP_all, ← HSX.out, ← hje]; exact HM3.out.dropFix)
                      clear hM
                      go_wp2_with fail
                      go_roundw
                      case rel => exact ⟨q + 1, by omega, by go_num, HQ.out⟩
                      case measure => simp [intOf]; omega
                · have hqe : ts.length ≤ q := by rw [← HN.out]; omega
                  rw [memN_all ts hqe] at HM
                  have HRUN := Lib.hid (run_f HM.out HFX.out (start_ok ts ⟨h0, h1⟩ HIW.out) rfl L hL)
                  rw [show (⟨memT ts, at_, [], [], input, [], false⟩ : St) = start ts at_ input from rfl, ← HR.out] at HRUN
                  clear hM
                  go_wp2_with fail
                  refine HRUN.out.mono ?_
                  rintro e w4 ⟨rfl, z4, t4, hm4, ho4⟩
                  obtain ⟨gm, vd, vc, vo, A4, n4, c4, b4, p4, _⟩ := hm4
                  obtain ⟨Ao, co, rfl, hy, _⟩ := byt_own p4.o
                  rw [ho4] at hy b4 p4
                  obtain ⟨O, er, ns⟩ := r
                  have hcv := run_conv_byt (P := Tryd.prog) (w := w4.drew) (show Byt w4.drew Ao O.length co O from hy) 33 5 9 Tryd.underlying33 Tryd.underlying5 Tryd.underlying9
                  have hc5 : w4.cell? ⟨g, 5, none⟩ = some (.slice Ao O.length co) := b4.cell 5
                  have hc7 : w4.cell? ⟨g, 7, none⟩ = some (.int .i64 ns) := b4.cell 7
                  have hB4 := HBo.out.below p4.bel
                  have hb0 := hB4.cell 0
                  have hb1 := hB4.cell 1
                  have hb2 := hB4.cell 2
                  rw [show (#[Value.string ⟨#[]⟩, .int .i64 0, .int .i64 0] : Array Value)[0]? = some (.string ⟨#[]⟩) from rfl] at hb0
                  rw [show (#[Value.string ⟨#[]⟩, .int .i64 0, .int .i64 0] : Array Value)[1]? = some (.int .i64 0) from rfl] at hb1
                  rw [show (#[Value.string ⟨#[]⟩, .int .i64 0, .int .i64 0] : Array Value)[2]? = some (.int .i64 0) from rfl] at hb2
                  have hf0 := hB4.frozen 0
                  have hf1 := hB4.frozen 1
                  have hf2 := hB4.frozen 2
                  have HBE := Lib.hid (HBW.out.trans (p4.bel.mono HBW.out.size))
                  clear b4 p4 hy hB4 ho4
                  go_wp2_with fail
                  refine wp_region_still_tail 11 (by kernel_rfl) (by kernel_rfl) ?_
                  simp only [List.take_succ_cons, List.take_zero, List.drop_succ_cons, List.drop_zero]
                  iterate 11 still_step
                  refine wpStill_nil ?_
                  change wpList _ _ _ _ _ w4.drew
                  go_wp2_with fail
                  refine bodyPost_ret (v := .agg #[.string (ofL O), .int .i64 er, .int .i64 ns]) (by simp [results, Tryd.results7, go_sem, hb0, hb1, hb2]) rfl (runPost_of rfl rfl ?_)
                  exact (((HBE.out.setCell (Nat.le_refl _) _).setCell (Nat.le_refl _) _).setCell (Nat.le_refl _) _).drew
          --END

theorem mrun_f (w : World) (A : Option Addr) (n c : Nat) (ts : List Txt) (h : Txs w A n c ts) (hts : ∀ t ∈ ts, (IntKind.i64.min ≤ t.1 ∧ t.1 ≤ IntKind.i64.max) ∧ t.2.size ≤ maxLen) (at_ : Int) (ha : IntKind.i64.min ≤ at_ ∧ at_ ≤ IntKind.i64.max)
    (Ai : Option Addr) (ni ci : Nat) (input : List Int) (hi : Sl w 1 Ai ni ci (iv input)) (hiw : ∀ x ∈ input, W32 x) (steps : Int) (hs : IntKind.i64.min ≤ steps ∧ steps ≤ IntKind.i64.max) :
    Calls Tryd.prog 7 #[.slice A n c, .int .i64 at_, .slice Ai ni ci, .int .i64 steps] w (RunPost w (runT ts at_ input steps)) := by
  by_cases hb : at_ < 0 ∨ 262144 ≤ at_
  · exact mrun_at w A n c ts h hts at_ ha Ai ni ci input hi hiw steps hs hb
  · exact mrun_in w A n c ts h hts at_ ha Ai ni ci input hi hiw steps hs (by omega) (by omega)

end Mc
end Go.Proofs.YtfjjdogjihpbnaaDoor
