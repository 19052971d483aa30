/- The reference's Run answers what the plain machine answers. -/
import Derived.Test.YtfjjdogjihpbnaaRf
import Derived.Test.YtfjjdogjihpbnaaMn
import Derived.Deep.QuietTactic
import Derived.BigQuiet
import Derived.Deep.LoopGhost
namespace Go.Proofs.Ytfjjdogjihpbnaa
open Go.RowKit
set_option linter.unusedVariables false
namespace Mc
section
variable {fix : List (Nat × Obj)} {w0 W : World} {g : Nat} {s : St}
theorem MR.addFix (h : MR fix w0 W g s) (o : Obj) : MR ((W.heap.size, o) :: fix) w0 (W.alloc o) g s := by
  obtain ⟨gm, vd, vc, vo, A, ni, ci, h1, h2, h3⟩ := h
  refine ⟨gm, vd, vc, vo, A, ni, ci, h1.alloc o, ?_, h3⟩
  have h4 := h2.alloc o
  refine ⟨h4.bel, h4.gb, h4.mb, h4.m, h4.d, h4.c, h4.o, h4.nd, h4.nc, h4.no, fun p hp => ?_⟩
  rcases List.mem_cons.1 hp with rfl | hp
  · refine ⟨heap_alloc_new W o, fun e => ?_, fun e => ?_, fun e => ?_, fun e => ?_, fun e => ?_⟩
    · have := h2.gb.2; omega
    · have := h2.gmlt; omega
    · have := (h2.d.lt _ e).2; omega
    · have := (h2.c.lt _ e).2; omega
    · have := (h2.o.lt _ e).2; omega
  · exact h4.f p hp
theorem MR.dropFix {p : Nat × Obj} (h : MR (p :: fix) w0 W g s) : MR fix w0 W g s := by
  obtain ⟨gm, vd, vc, vo, A, ni, ci, h1, h2, h3⟩ := h
  exact ⟨gm, vd, vc, vo, A, ni, ci, h1, ⟨h2.bel, h2.gb, h2.mb, h2.m, h2.d, h2.c, h2.o, h2.nd, h2.nc, h2.no, fun q hq => h2.f q (List.mem_cons_of_mem _ hq)⟩, h3⟩
theorem MR.fixAt (h : MR fix w0 W g s) {p : Nat × Obj} (hp : p ∈ fix) : W.heap[p.1]? = some p.2 := by
  obtain ⟨gm, vd, vc, vo, A, ni, ci, h1, h2, h3⟩ := h
  exact (h2.f p hp).1
/-- the output, as it is read at the end -/
theorem MR.outAt (h : MR fix w0 W g s) : ∃ A c, W.cell? ⟨g, 5, none⟩ = some (.slice A s.out.length c) ∧ Byt W A s.out.length c s.out := by
  obtain ⟨gm, vd, vc, vo, A, ni, ci, h1, h2, h3⟩ := h
  obtain ⟨Ao, co, rfl, hy, _⟩ := byt_own h2.o
  exact ⟨Ao, co, h1.cell 5, hy⟩
end
theorem mr_start {w0 W : World} {g gm : Nat} {mc : Array Value} {at_ : Int} {A : Option Addr} {ni ci : Nat} {input : List Int} (hb : Below w0.heap.size w0 W) (hm : Blk W gm 33 mc) (hsz : mc.size = 262144) (hc : ∀ i, i < 262144 → mc[i]? = some (V 0))
    (hg : Blk W g 60 (rcells gm at_ (.slice none 0 0) (.slice none 0 0) A ni ci (.slice none 0 0) false)) (h1 : w0.heap.size ≤ g) (h2 : w0.heap.size ≤ gm) (h3 : gm ≠ g) (hi : Sl w0 1 A ni ci (iv input)) :
    MR [] w0 W g ⟨fun _ => 0, at_, [], [], input, [], false⟩ :=
  ⟨gm, .slice none 0 0, .slice none 0 0, .slice none 0 0, A, ni, ci, hg, ⟨hb, ⟨h1, hg.lt⟩, ⟨h2, h3⟩, ⟨mc, hm, hsz, hc⟩, World.ownsRow_nil _ _ _ _, World.ownsRow_nil _ _ _ _, World.ownsRow_nil _ _ _ _, (fun k e => by cases e), (fun k e => by cases e), (fun k e => by cases e), fun p hp => by cases hp⟩, hi⟩
theorem new2 (w : World) (o : Obj) (t : TypeId) (cs : Array Value) : Blk ((w.alloc o).alloc (.cells cs t)) (w.heap.size + 1) t cs := by
  have := Blk.new (w.alloc o) t cs
  rwa [asz] at this

set_option maxRecDepth 100000 in
set_option maxHeartbeats 4000000 in
theorem rrun_at (w : World) (A : Option Addr) (n c : Nat) (ts : List Txt) (h : Txs w A n c ts) (hts : ∀ t ∈ ts, (IntKind.i64.min ≤ t.1 ∧ t.1 ≤ IntKind.i64.max) ∧ t.2.size ≤ maxLen) (at_ : Int) (ha : IntKind.i64.min ≤ at_ ∧ at_ ≤ IntKind.i64.max)
    (Ai : Option Addr) (ni ci : Nat) (input : List Int) (hi : Sl w 1 Ai ni ci (iv input)) (hiw : ∀ x ∈ input, W32 x) (steps : Int) (hs : IntKind.i64.min ≤ steps ∧ steps ≤ IntKind.i64.max) (hbad : at_ < 0 ∨ 262144 ≤ at_) :
    Calls Try.prog 11 #[.slice A n c, .int .i64 at_, .slice Ai ni ci, .int .i64 steps] w (RunPost w (runT ts at_ input steps)) := by
  have hn := h.len
  have hlc : n ≤ c := h.1
  have hcm : c ≤ 9223372036854775807 := h.2.1
  have HT := Lib.hid h
  have HTS := Lib.hid hts
  have HI := Lib.hid hi
  have HIW := Lib.hid hiw
  have HN := Lib.hid hn
  have ha1 : -9223372036854775808 ≤ at_ := ha.1
  have ha2 : at_ ≤ 9223372036854775807 := ha.2
  have hs1 : -9223372036854775808 ≤ steps := hs.1
  have hs2 : steps ≤ 9223372036854775807 := hs.2
  have HR := Lib.hid (runT_bad (input := input) (steps := steps) (fitN_no hbad ts ts.length))
  obtain ⟨r, hr⟩ : ∃ r, r = runT ts at_ input steps := ⟨_, rfl⟩
  rw [← hr] at HR ⊢
  clear h hts hi hiw hn ha hs hr
  rcases hbad with hbad | hbad
  all_goals
    go_enter Try.func11, Try.ntmps11
    go_wp2_with fail
    refine bodyPost_ret (v := .agg #[.string ⟨#[]⟩, .int .i64 2, .int .i64 0]) (by simp [results, Try.results11, go_sem]) rfl (runPost_of HR.out rfl ?_)
    first
      | exact (Below.refl _ w).alloc (Nat.le_refl _) _
      | exact ((((Below.refl _ w).alloc (Nat.le_refl _) _).setCell (Nat.le_refl _) _).setCell (Nat.le_refl _) _).setCell (Nat.le_refl _) _

set_option maxRecDepth 100000 in
set_option maxHeartbeats 4000000 in
theorem rrun_in (w : World) (A : Option Addr) (n c : Nat) (ts : List Txt) (h : Txs w A n c ts) (hts : ∀ t ∈ ts, (IntKind.i64.min ≤ t.1 ∧ t.1 ≤ IntKind.i64.max) ∧ t.2.size ≤ maxLen) (at_ : Int) (ha : IntKind.i64.min ≤ at_ ∧ at_ ≤ IntKind.i64.max)
    (Ai : Option Addr) (ni ci : Nat) (input : List Int) (hi : Sl w 1 Ai ni ci (iv input)) (hiw : ∀ x ∈ input, W32 x) (steps : Int) (hs : IntKind.i64.min ≤ steps ∧ steps ≤ IntKind.i64.max) (h0 : 0 ≤ at_) (h1 : at_ < 262144) :
    Calls Try.prog 11 #[.slice A n c, .int .i64 at_, .slice Ai ni ci, .int .i64 steps] w (RunPost w (runT ts at_ input steps)) := by
  have hn := h.len
  have hlc : n ≤ c := h.1
  have hcm : c ≤ 9223372036854775807 := h.2.1
  have HT := Lib.hid h
  have HTS := Lib.hid hts
  have HI := Lib.hid hi
  have HIW := Lib.hid hiw
  have HN := Lib.hid hn
  have ha1 : -9223372036854775808 ≤ at_ := ha.1
  have ha2 : at_ ≤ 9223372036854775807 := ha.2
  have hs1 : -9223372036854775808 ≤ steps := hs.1
  have hs2 : steps ≤ 9223372036854775807 := hs.2
  have HFA := Lib.hid (fitN_ok h0 h1 ts ts.length)
  obtain ⟨r, hr⟩ : ∃ r, r = runT ts at_ input steps := ⟨_, rfl⟩
  have HRR := Lib.hid hr
  rw [← hr]
  clear h hts hi hiw hn ha hs hr
  have HB := Lib.hid (Blk.new w 29 #[.string ⟨#[]⟩, .int .i64 0, .int .i64 0])
  obtain ⟨w1, hw1⟩ : ∃ w1, w1 = w.alloc (.cells #[.string ⟨#[]⟩, .int .i64 0, .int .i64 0] 29) := ⟨_, rfl⟩
  have HB1 := Lib.hid (show Below w.heap.size w w1 by rw [hw1]; exact (Below.refl _ w).alloc (Nat.le_refl _) _)
  rw [← hw1] at HB
  have HT1 := Lib.hid (HT.out.below HB1.out)
  have HW1 := Lib.hid hw1
  clear hw1
  go_enter Try.func11, Try.ntmps11
  go_wp2_with fail
  rw [← HW1.out]
  go_loopw [26] (fun i wr => ∃ k : Nat, k ≤ n ∧ i = .int .i64 (k : Int) ∧ okN ts k = true ∧ Below w1.heap.size w1 wr) (fun i _ => n - (intOf i).toNat)
  case atStart => exact ⟨0, by omega, rfl, okN_zero ts, Below.refl _ _⟩
  case round =>
    obtain ⟨k, hk, rfl, ho, hb⟩ := hrel
    have HBr := Lib.hid hb
    have HOK := Lib.hid ho
    clear ho
    by_cases hkn : k < n
    · have hkl : k < ts.length := by rw [← HN.out]; exact hkn
      obtain ⟨ad, rfl, _, hx0, hx1⟩ := (HT1.out.below hb).at_ hkl
      obtain ⟨x, hx⟩ : ∃ x, x = ts[k] := ⟨_, rfl⟩
      have HOS := Lib.hid (show okN ts (k + 1) = !badT x by rw [okN_succ ts hkl, HOK.out, hx]; rfl)
      have hxb := HTS.out x (by rw [hx]; exact List.getElem_mem hkl)
      have hxb1 : -9223372036854775808 ≤ x.1 := hxb.1.1
      have hxb2 : x.1 ≤ 9223372036854775807 := hxb.1.2
      have hxb3 : x.2.size ≤ 9223372036854775807 := hxb.2
      have HBAD := Lib.hid (show badT x = true → r = ([], 2, 0) from fun hbx => by
        rw [HRR.out]
        refine runT_bad ?_
        rw [HFA.out]
        unfold okN
        rw [List.take_length, Bool.not_eq_false']
        exact List.any_eq_true.2 ⟨x, by rw [hx]; exact List.getElem_mem hkl, hbx⟩)
      rw [← hx] at hx0 hx1
      have HWA := Lib.hid (hb.alloc hb.size (.cells #[.int .i64 x.1, .string x.2] 35))
      clear hb hx hxb
      by_cases hneg : x.1 < 0
      · have HR := Lib.hid (HBAD.out (badT_neg hneg))
        have hB := HB.out.below HWA.out
        have hb0 := hB.cell 0
        have hb1 := hB.cell 1
        have hb2 := hB.cell 2
        rw [show (#[Value.string ⟨#[]⟩, .int .i64 0, .int .i64 0] : Array Value)[0]? = some (.string ⟨#[]⟩) from rfl] at hb0
        rw [show (#[Value.string ⟨#[]⟩, .int .i64 0, .int .i64 0] : Array Value)[1]? = some (.int .i64 0) from rfl] at hb1
        rw [show (#[Value.string ⟨#[]⟩, .int .i64 0, .int .i64 0] : Array Value)[2]? = some (.int .i64 0) from rfl] at hb2
        have hf0 := hB.frozen 0
        have hf1 := hB.frozen 1
        have hf2 := hB.frozen 2
        have hrlt := hB.lt
        clear hB
        go_wp2_with fail
        refine bodyPost_ret (v := .agg #[.string ⟨#[]⟩, .int .i64 2, .int .i64 0]) (by simp [results, Try.results11, go_sem, hb0, hb1, hb2]) rfl (runPost_of HR.out rfl ?_)
        exact ((((HB1.out.trans (HWA.out.mono HB1.out.size)).setCell (Nat.le_refl _) _).setCell (Nat.le_refl _) _).setCell (Nat.le_refl _) _)
      · have hd0 : decide (x.1 < 0) = false := by simpa using hneg
        by_cases hfar1 : 262144 < x.1
        · have hd1 : decide (262144 < x.1) = true := by simpa using hfar1
          have HR := Lib.hid (HBAD.out (badT_far (by omega)))
          have hB := HB.out.below HWA.out
          have hb0 := hB.cell 0
          have hb1 := hB.cell 1
          have hb2 := hB.cell 2
          rw [show (#[Value.string ⟨#[]⟩, .int .i64 0, .int .i64 0] : Array Value)[0]? = some (.string ⟨#[]⟩) from rfl] at hb0
          rw [show (#[Value.string ⟨#[]⟩, .int .i64 0, .int .i64 0] : Array Value)[1]? = some (.int .i64 0) from rfl] at hb1
          rw [show (#[Value.string ⟨#[]⟩, .int .i64 0, .int .i64 0] : Array Value)[2]? = some (.int .i64 0) from rfl] at hb2
          have hf0 := hB.frozen 0
          have hf1 := hB.frozen 1
          have hf2 := hB.frozen 2
          have hrlt := hB.lt
          clear hB
          go_wp2_with fail
          refine bodyPost_ret (v := .agg #[.string ⟨#[]⟩, .int .i64 2, .int .i64 0]) (by simp [results, Try.results11, go_sem, hb0, hb1, hb2]) rfl (runPost_of HR.out rfl ?_)
          exact ((((HB1.out.trans (HWA.out.mono HB1.out.size)).setCell (Nat.le_refl _) _).setCell (Nat.le_refl _) _).setCell (Nat.le_refl _) _)
        · have hd1 : decide (262144 < x.1) = false := by simpa using hfar1
          by_cases hfar : 262144 - x.1 < (x.2.size : Int)
          · have hd2 : decide (262144 - x.1 < (x.2.size : Int)) = true := by simpa using hfar
            have HR := Lib.hid (HBAD.out (badT_far (by omega)))
            have hB := HB.out.below HWA.out
            have hb0 := hB.cell 0
            have hb1 := hB.cell 1
            have hb2 := hB.cell 2
            rw [show (#[Value.string ⟨#[]⟩, .int .i64 0, .int .i64 0] : Array Value)[0]? = some (.string ⟨#[]⟩) from rfl] at hb0
            rw [show (#[Value.string ⟨#[]⟩, .int .i64 0, .int .i64 0] : Array Value)[1]? = some (.int .i64 0) from rfl] at hb1
            rw [show (#[Value.string ⟨#[]⟩, .int .i64 0, .int .i64 0] : Array Value)[2]? = some (.int .i64 0) from rfl] at hb2
            have hf0 := hB.frozen 0
            have hf1 := hB.frozen 1
            have hf2 := hB.frozen 2
            have hrlt := hB.lt
            clear hB
            go_wp2_with fail
            refine bodyPost_ret (v := .agg #[.string ⟨#[]⟩, .int .i64 2, .int .i64 0]) (by simp [results, Try.results11, go_sem, hb0, hb1, hb2]) rfl (runPost_of HR.out rfl ?_)
            exact ((((HB1.out.trans (HWA.out.mono HB1.out.size)).setCell (Nat.le_refl _) _).setCell (Nat.le_refl _) _).setCell (Nat.le_refl _) _)
          · have hd2 : decide (262144 - x.1 < (x.2.size : Int)) = false := by simpa using hfar
            rw [badT_ok hneg (by omega)] at HOS
            have hxa : 0 ≤ x.1 := by omega
            have hxc : x.1 ≤ 262144 := by omega
            clear hneg hfar1 hfar
            go_wp2_with fail
            go_roundw
            case rel => exact ⟨k + 1, by omega, by go_num, by rw [HOS.out]; rfl, HWA.out⟩
            case measure => simp [intOf]; omega
    · have hkl : ts.length ≤ k := by rw [← HN.out]; omega
      have HFF := Lib.hid (show fitN at_ ts ts.length = true by rw [HFA.out, ← HOK.out]; unfold okN; rw [List.take_of_length_le (Nat.le_refl _), List.take_of_length_le hkl])
      by_cases hlim : 100000000 < steps
      · have HR := Lib.hid (show r = ([], 6, 0) by rw [HRR.out]; exact runT_limit HFF.out hlim)
        clear hb
        have hB := HB.out.below HBr.out
        have hb0 := hB.cell 0
        have hb1 := hB.cell 1
        have hb2 := hB.cell 2
        rw [show (#[Value.string ⟨#[]⟩, .int .i64 0, .int .i64 0] : Array Value)[0]? = some (.string ⟨#[]⟩) from rfl] at hb0
        rw [show (#[Value.string ⟨#[]⟩, .int .i64 0, .int .i64 0] : Array Value)[1]? = some (.int .i64 0) from rfl] at hb1
        rw [show (#[Value.string ⟨#[]⟩, .int .i64 0, .int .i64 0] : Array Value)[2]? = some (.int .i64 0) from rfl] at hb2
        have hf0 := hB.frozen 0
        have hf1 := hB.frozen 1
        have hf2 := hB.frozen 2
        have hrlt := hB.lt
        clear hB
        go_wp2_with fail
        refine bodyPost_ret (v := .agg #[.string ⟨#[]⟩, .int .i64 6, .int .i64 0]) (by simp [results, Try.results11, go_sem, hb0, hb1, hb2]) rfl (runPost_of HR.out rfl ?_)
        exact ((((HB1.out.trans (HBr.out.mono HB1.out.size)).setCell (Nat.le_refl _) _).setCell (Nat.le_refl _) _).setCell (Nat.le_refl _) _)
      · obtain ⟨wq, hwq⟩ : ∃ wq, wq = wr := ⟨_, rfl⟩
        subst hwq
        obtain ⟨L, hLe⟩ : ∃ L, L = steps.toNat := ⟨_, rfl⟩
        have hL : L ≤ 100000000 := by omega
        have HLE := Lib.hid hLe
        have HR := Lib.hid (show r = runM L 0 (start ts at_ input) by
          rw [HRR.out]
          unfold runT
          rw [if_neg ((fit_all (Nat.le_refl _)).1 HFF.out), if_neg hlim, hLe])
        have hBr := HB.out.below HBr.out
        have HBo := Lib.hid hBr
        have HTr := Lib.hid (HT1.out.below HBr.out)
        have HIr := Lib.hid (show Sl wq 1 Ai ni ci (iv input) from (HI.out.below HB1.out).below HBr.out)
        have HBW := Lib.hid (HB1.out.trans (HBr.out.mono HB1.out.size))
        obtain ⟨mc, hmk, hmsz, hmcell⟩ := make_mem
        have HMS := Lib.hid hmsz
        have HMC := Lib.hid hmcell
        have hwr : at_ % 4294967296 = at_ := by omega
        have hwr2 : IntKind.u32.wrap at_ = at_ := by rw [IntKind.wrap_u32]; omega
        clear hb hBr hmsz hmcell hLe
        go_wp2_with fail
        obtain ⟨WM, hWM⟩ : ∃ WM, WM = (wq.alloc (.cells mc 33)).alloc (.cells (rcells wq.heap.size at_ (.slice none 0 0) (.slice none 0 0) Ai ni ci (.slice none 0 0) false) 60) := ⟨_, rfl⟩
        obtain ⟨g, hg⟩ : ∃ g, g = wq.heap.size + 1 := ⟨_, rfl⟩
        have hbm : Below wq.heap.size wq WM := by rw [hWM]; exact ((Below.refl _ wq).alloc (Nat.le_refl _) _).alloc (((Below.refl _ wq).alloc (Nat.le_refl _) _).size) _
        have hgb : Blk WM g 60 (rcells wq.heap.size at_ (.slice none 0 0) (.slice none 0 0) Ai ni ci (.slice none 0 0) false) := by rw [hWM, hg]; exact new2 _ _ _ _
        have hmb : Blk WM wq.heap.size 33 mc := by rw [hWM]; exact (Blk.new wq 33 mc).alloc _
        have HMP := Lib.hid (mr_start hbm hmb HMS.out HMC.out hgb (by omega) (Nat.le_refl _) (by omega) HIr.out)
        have HWM := Lib.hid (show WM = (wq.alloc (.cells mc 33)).alloc (.cells #[.slice (some ⟨wq.heap.size, 0, none⟩) 262144 262144, .int .u32 at_, .slice none 0 0, .slice none 0 0, .slice Ai ni ci, .slice none 0 0, .bool false] 60) from hWM)
        clear hbm hgb hmb hWM
        rw [← HWM.out, ← hg]
        clear hg hmk
        obtain ⟨fx, hfx0⟩ : ∃ fx : List (Nat × Obj), fx = [] := ⟨_, rfl⟩
        rw [← hfx0] at HMP
        clear hfx0
        go_loopw [59] (fun i V => ∃ k : Nat, k ≤ n ∧ i = .int .i64 (k : Int) ∧ MR fx wq V g ⟨memN ts k, at_, [], [], input, [], false⟩) (fun i _ => n - (intOf i).toNat)
        case atStart => exact ⟨0, by omega, rfl, by rw [memN_zero]; exact HMP.out⟩
        case round =>
          obtain ⟨q, hq, rfl, hM⟩ := hrel
          obtain ⟨V, hV⟩ : ∃ V : World, V = wr := ⟨_, rfl⟩
          subst hV
          have HM := Lib.hid hM
          by_cases hqn : q < n
          · have hql : q < ts.length := by rw [← HN.out]; exact hqn
            obtain ⟨ad, hAe, _, hx0, hx1⟩ := (HTr.out.below hM.bel).at_ hql
            subst hAe
            obtain ⟨x, hx⟩ : ∃ x, x = ts[q] := ⟨_, rfl⟩
            have hxb := HTS.out x (by rw [hx]; exact List.getElem_mem hql)
            have hxo : badT x = false := by
              have h9 : okN ts ts.length = true := by rw [← HFA.out]; exact HFF.out
              unfold okN at h9
              rw [List.take_length, Bool.not_eq_true'] at h9
              exact Bool.eq_false_iff.2 fun e => by
                have := List.any_eq_false.1 h9 x (by rw [hx]; exact List.getElem_mem hql)
                exact this e
            rw [← hx] at hx0 hx1
            have hxn : 0 ≤ x.1 ∧ x.1 + (x.2.size : Int) ≤ 262144 := by
              unfold badT at hxo
              simp only [Bool.or_eq_false_iff, decide_eq_false_iff_not] at hxo
              omega
            obtain ⟨a, hxa⟩ := Int.eq_ofNat_of_zero_le hxn.1
            have HXA := Lib.hid hxa
            rw [hxa] at hx0 hxn
            have hsz : a + x.2.size ≤ 262144 := by have := hxn.2; omega
            have HMS2 := Lib.hid (show memN ts (q + 1) = putT (memN ts q) x by rw [memN_succ ts hql, hx])
            have HM2 := Lib.hid (hM.addFix (.cells #[.int .i64 (a : Int), .string x.2] 35))
            have HTB := Lib.hid (show (V.heap.size, Obj.cells #[.int .i64 (a : Int), .string x.2] 35) ∈ (V.heap.size, Obj.cells #[.int .i64 (a : Int), .string x.2] 35) :: fx by simp)
            obtain ⟨tb, htb⟩ : ∃ tb, tb = V.heap.size := ⟨_, rfl⟩
            have HTBE := Lib.hid htb
            rw [← htb] at HM2 HTB
            clear hM hx hxb hxo hxn hxa htb
            go_wp2_with fail
            rw [← HTBE.out]
            obtain ⟨sx, hsx⟩ : ∃ sx, sx = x.2.size := ⟨_, rfl⟩
            have HSX := Lib.hid hsx
            rw [← hsx] at hsz
            clear hsx
            go_loopw [14] (fun i U => ∃ j : Nat, j ≤ sx ∧ i = .int .i64 (j : Int) ∧ MR ((tb, Obj.cells #[.int .i64 (a : Int), .string x.2] 35) :: fx) wq U g ⟨putP (memN ts q) x j, at_, [], [], input, [], false⟩) (fun i _ => sx - (intOf i).toNat)
            case atStart => exact ⟨0, by omega, rfl, by rw [putP_zero]; exact HM2.out⟩
            case round =>
              obtain ⟨j, hj, rfl, hM⟩ := hrel
              obtain ⟨U, hU⟩ : ∃ U : World, U = wr := ⟨_, rfl⟩
              subst hU
              have HM3 := Lib.hid hM
              by_cases hjs : j < sx
              · have hjx : j < x.2.size := by rw [← HSX.out]; exact hjs
                obtain ⟨gm, hc0⟩ := hM.mem0
                have htx : Blk U tb 35 #[.int .i64 (a : Int), .string x.2] := hM.fixAt HTB.out
                have ht0 := htx.cell 0
                have ht1 := htx.cell 1
                rw [show (#[Value.int .i64 (a : Int), .string x.2] : Array Value)[0]? = some (.int .i64 (a : Int)) from rfl] at ht0
                rw [show (#[Value.int .i64 (a : Int), .string x.2] : Array Value)[1]? = some (.string x.2) from rfl] at ht1
                have HC0 := Lib.hid hc0
                have hwd := (hM.word hc0 (a := a + j) (by omega)).1
                have hwf := (hM.word hc0 (a := a + j) (by omega)).2
                have hrs : IntKind.i64.wrap ((a : Int) + (j : Int)) = (a : Int) + (j : Int) := IntWalk.i64_in _ (by omega)
                have hr0 : (0 : Int) ≤ (a : Int) + (j : Int) := by omega
                have hr1 : (a : Int) + (j : Int) < 262144 := by omega
                have hr2 : ((a : Int) + (j : Int)).toNat = a + j := by omega
                have HPS := Lib.hid (show put (putP (memN ts q) x j) (a + j) (((x.2[j]).toNat : Int) % 4294967296) = putP (memN ts q) x (j + 1) by
                  have := putP_succ (memN ts q) x j
                  rw [HXA.out] at this
                  rw [← this]
                  congr 1
                  have h9 : (x.2.data.getD j 0) = x.2[j] := by
                    rw [Array.getD, dif_pos (show j < x.2.data.size from hjx)]; rfl
                  rw [h9]
                  have := (x.2[j]).toNat_lt
                  omega)
                clear hM htx
                go_wp2_with fail
                have hS1 : U.drew.cell? ⟨g, 0, none⟩ = some (.slice (some ⟨gm, 0, none⟩) 262144 262144) ∧ U.drew.cell? ⟨tb, 0, none⟩ = some (.int .i64 (a : Int)) ∧ U.drew.cell? ⟨tb, 1, none⟩ = some (.string x.2) := ⟨hc0, ht0, ht1⟩
                refine wp_region_X (fun V => V.cell? ⟨g, 0, none⟩ = some (.slice (some ⟨gm, 0, none⟩) 262144 262144) ∧ V.cell? ⟨tb, 0, none⟩ = some (.int .i64 (a : Int)) ∧ V.cell? ⟨tb, 1, none⟩ = some (.string x.2)) 12 (by kernel_rfl) ?_
                show wpAnyX _ _ _ _ _ _ 13 _ _ _
                refine wpAnyX_pure (i := 0) (v := ?_) rfl (by kernel_rfl) (by kernel_rfl) (by kernel_rfl) (by kernel_rfl) (by kernel_rfl) (fun _ _ _ h => h) (Or.inl ⟨by rfl, ?_⟩) (fun _ => by exact hS1) ?_
                rotate_left
                · intro w hSw; (try dsimp only at hSw); go_simp; (try with_reducible rfl)
                try simp only [List.getElem_toArray, List.getElem_cons_zero, Act.put, List.setIfInBounds_toArray, List.set_cons_zero, List.set_cons_succ]
                refine wpAnyX_take (i := 1) (v := ?_) rfl (by kernel_rfl) (by kernel_rfl) (by kernel_rfl) (by kernel_rfl) (by kernel_rfl) (fun _ _ _ h => h) (Or.inl ⟨by rfl, ?_⟩) (by exact hS1) ?_
                rotate_left
                · intro w hSw; (try dsimp only at hSw); go_simp; (try with_reducible rfl)
                try simp only [List.getElem_toArray, List.getElem_cons_zero, List.getElem_cons_succ, Act.put, List.setIfInBounds_toArray, List.set_cons_zero, List.set_cons_succ]
                refine wpAnyX_pure (i := 2) (v := ?_) rfl (by kernel_rfl) (by kernel_rfl) (by kernel_rfl) (by kernel_rfl) (by kernel_rfl) (fun _ _ _ h => h) (Or.inl ⟨by rfl, ?_⟩) (fun _ => by exact hS1) ?_
                rotate_left
                · intro w hSw; (try dsimp only at hSw); go_simp; (try with_reducible rfl)
                try simp only [List.getElem_toArray, List.getElem_cons_zero, List.getElem_cons_succ, Act.put, List.setIfInBounds_toArray, List.set_cons_zero, List.set_cons_succ]
                refine wpAnyX_take (i := 3) (v := ?_) rfl (by kernel_rfl) (by kernel_rfl) (by kernel_rfl) (by kernel_rfl) (by kernel_rfl) (fun _ _ _ h => h) (Or.inl ⟨by rfl, ?_⟩) (by exact hS1) ?_
                rotate_left
                · intro w hSw; (try dsimp only at hSw); go_simp; (try with_reducible rfl)
                try simp only [List.getElem_toArray, List.getElem_cons_zero, List.getElem_cons_succ, Act.put, List.setIfInBounds_toArray, List.set_cons_zero, List.set_cons_succ]
                refine wpAnyX_pure (i := 4) (v := ?_) rfl (by kernel_rfl) (by kernel_rfl) (by kernel_rfl) (by kernel_rfl) (by kernel_rfl) (fun _ _ _ h => h) (Or.inl ⟨by rfl, ?_⟩) (fun _ => by exact hS1) ?_
                rotate_left
                · intro w hSw; (try dsimp only at hSw); go_simp; (try with_reducible rfl)
                try simp only [List.getElem_toArray, List.getElem_cons_zero, List.getElem_cons_succ, Act.put, List.setIfInBounds_toArray, List.set_cons_zero, List.set_cons_succ]
                refine wpAnyX_pure (i := 5) (v := ?_) rfl (by kernel_rfl) (by kernel_rfl) (by kernel_rfl) (by kernel_rfl) (by kernel_rfl) (fun _ _ _ h => h) (Or.inl ⟨by rfl, ?_⟩) (fun _ => by exact hS1) ?_
                rotate_left
                · intro w hSw; (try dsimp only at hSw); go_simp; (try with_reducible rfl)
                try simp only [List.getElem_toArray, List.getElem_cons_zero, List.getElem_cons_succ, Act.put, List.setIfInBounds_toArray, List.set_cons_zero, List.set_cons_succ]
                refine wpAnyX_pure (i := 6) (v := ?_) rfl (by kernel_rfl) (by kernel_rfl) (by kernel_rfl) (by kernel_rfl) (by kernel_rfl) (fun _ _ _ h => h) (Or.inl ⟨by rfl, ?_⟩) (fun _ => by exact hS1) ?_
                rotate_left
                · intro w hSw; (try dsimp only at hSw); go_simp; (try with_reducible rfl)
                try simp only [List.getElem_toArray, List.getElem_cons_zero, List.getElem_cons_succ, Act.put, List.setIfInBounds_toArray, List.set_cons_zero, List.set_cons_succ]
                refine wpAnyX_take (i := 7) (v := ?_) rfl (by kernel_rfl) (by kernel_rfl) (by kernel_rfl) (by kernel_rfl) (by kernel_rfl) (fun _ _ _ h => h) (Or.inl ⟨by rfl, ?_⟩) (by exact hS1) ?_
                rotate_left
                · intro w hSw; (try dsimp only at hSw); go_simp; (try with_reducible rfl)
                try simp only [List.getElem_toArray, List.getElem_cons_zero, List.getElem_cons_succ, Act.put, List.setIfInBounds_toArray, List.set_cons_zero, List.set_cons_succ]
                refine wpAnyX_pure (i := 8) (v := ?_) rfl (by kernel_rfl) (by kernel_rfl) (by kernel_rfl) (by kernel_rfl) (by kernel_rfl) (fun _ _ _ h => h) (Or.inl ⟨by rfl, ?_⟩) (fun _ => by exact hS1) ?_
                rotate_left
                · intro w hSw; (try dsimp only at hSw); go_simp; (try with_reducible rfl)
                try simp only [List.getElem_toArray, List.getElem_cons_zero, List.getElem_cons_succ, Act.put, List.setIfInBounds_toArray, List.set_cons_zero, List.set_cons_succ]
                refine wpAnyX_pure (i := 9) (v := ?_) rfl (by kernel_rfl) (by kernel_rfl) (by kernel_rfl) (by kernel_rfl) (by kernel_rfl) (fun _ _ _ h => h) (Or.inl ⟨by rfl, ?_⟩) (fun _ => by exact hS1) ?_
                rotate_left
                · intro w hSw; (try dsimp only at hSw); go_simp; (try with_reducible rfl)
                try simp only [List.getElem_toArray, List.getElem_cons_zero, List.getElem_cons_succ, Act.put, List.setIfInBounds_toArray, List.set_cons_zero, List.set_cons_succ]
                refine wpAnyX_pure (i := 10) (v := ?_) rfl (by kernel_rfl) (by kernel_rfl) (by kernel_rfl) (by kernel_rfl) (by kernel_rfl) (fun _ _ _ h => h) (Or.inl ⟨by rfl, ?_⟩) (fun _ => by exact hS1) ?_
                rotate_left
                · intro w hSw; (try dsimp only at hSw); go_simp; (try with_reducible rfl)
                try simp only [List.getElem_toArray, List.getElem_cons_zero, List.getElem_cons_succ, Act.put, List.setIfInBounds_toArray, List.set_cons_zero, List.set_cons_succ]
                refine wpAnyX_pure (i := 11) (v := ?_) rfl (by kernel_rfl) (by kernel_rfl) (by kernel_rfl) (by kernel_rfl) (by kernel_rfl) (fun _ _ _ h => h) (Or.inl ⟨by rfl, ?_⟩) (fun _ => by exact hS1) ?_
                rotate_left
                · intro w hSw; (try dsimp only at hSw); go_simp; (try with_reducible rfl)
                try simp only [List.getElem_toArray, List.getElem_cons_zero, List.getElem_cons_succ, Act.put, List.setIfInBounds_toArray, List.set_cons_zero, List.set_cons_succ]
                refine wpAnyX_one (i := 12) (by kernel_rfl) rfl (fun K hK => ?_)
                go_simp
                refine hK.out _ _ (fun h => absurd h (by decide)) ?_
                clear hK K
                try simp only [List.getElem_toArray, List.getElem_cons_zero, List.getElem_cons_succ, Act.put, List.setIfInBounds_toArray, List.set_cons_zero, List.set_cons_succ]
                refine wpAnyX_done (by kernel_rfl) ?_ _
                clear hr0 hr1 hr2 hrs
                go_wp2_with fail
                go_roundw
                case rel => exact ⟨j + 1, by omega, by go_num, by rw [← HPS.out]; exact (HM3.out.setM HC0.out (by omega) _).drew⟩
                case measure => simp [intOf]; omega
              · have hje : j = sx := by omega
                have hjx2 : x.2.size ≤ j := by rw [← HSX.out]; omega
                have htx : Blk U tb 35 #[.int .i64 (a : Int), .string x.2] := hM.fixAt HTB.out
                have ht1 := htx.cell 1
                rw [show (#[Value.int .i64 (a : Int), .string x.2] : Array Value)[1]? = some (.string x.2) from rfl] at ht1
                clear htx
                have HQ := Lib.hid (show MR fx wq U g ⟨memN ts (q + 1), at_, [], [], input, [], false⟩ by
                  rw [HMS2.out, ← putP_all, ← HSX.out, ← hje]; exact HM3.out.dropFix)
                clear hM
                go_wp2_with fail
                go_roundw
                case rel => exact ⟨q + 1, by omega, by go_num, HQ.out⟩
                case measure => simp [intOf]; omega
          · have hqe : ts.length ≤ q := by rw [← HN.out]; omega
            rw [memN_all ts hqe] at HM
            have hstart : (⟨memT ts, at_, [], [], input, [], false⟩ : St) = start ts at_ input := rfl
            rw [hstart] at HM
            have HS := Lib.hid (start_ok (at_ := at_) (input := input) ts ⟨h0, h1⟩ HIW.out)
            clear hM hstart
            go_wp2_with fail
            go_loopg [15] (L + 1) (fun gk u U => ∃ (j : Nat) (t : St), gk = L + 1 - j ∧ j ≤ L ∧ u = .int .i64 ((j : Int) + 1) ∧ MR fx wq U g t ∧ Ok t ∧ t.out.length ≤ j ∧ r = runM (L - j) j t)
            case atStart => exact ⟨0, start ts at_ input, by omega, by omega, rfl, HM.out, HS.out, by simp [start], HR.out⟩
            case round =>
              obtain ⟨j, t, rfl, hj, rfl, hM, hK, hO, hrn⟩ := hrel
              obtain ⟨U, hU⟩ : ∃ U : World, U = wr := ⟨_, rfl⟩
              subst hU
              have HM := Lib.hid hM
              have HK := Lib.hid hK
              have HO1 := Lib.hid hO
              have HRN := Lib.hid hrn
              have hp0 := hK.pc.1
              have hp1 := hK.pc.2
              have hc1 := hM.pcAt
              obtain ⟨Ao, co, hc5, hy⟩ := hM.outAt
              have hcv := run_conv_byt (P := Try.prog) hy 32 5 9 Try.underlying32 Try.underlying5 Try.underlying9
              have HBW4 := Lib.hid (HBW.out.trans (hM.bel.mono HBW.out.size))
              have HBO4 := Lib.hid (HBo.out.below hM.bel)
              obtain ⟨lo, hlo⟩ : ∃ lo, lo = t.out.length := ⟨_, rfl⟩
              rw [← hlo] at hc5 hcv
              have hlo2 : lo ≤ 100000000 := by omega
              clear hM hK hO hrn hy hlo
              by_cases hjL : j < L
              · have hjs : ((j : Int) + 1) ≤ steps := by have := HLE.out; omega
                have HRS := Lib.hid (show r = runM (L - (j + 1) + 1) j t by rw [HRN.out]; congr 1; omega)
                by_cases hp : t.pc < 262144
                · have hpd : decide (262144 ≤ t.pc) = false := by simp; omega
                  obtain ⟨gm, hd0⟩ := HM.out.mem0
                  obtain ⟨cw, hc⟩ : ∃ cw, cw = t.mem t.pc.toNat := ⟨_, rfl⟩
                  have HC := Lib.hid hc
                  have hwd := (HM.out.word hd0 (a := t.pc.toNat) (by omega)).1
                  rw [← hc] at hwd
                  have hcw := HK.out.mem t.pc.toNat
                  rw [← hc] at hcw
                  have hcw0 := hcw.1
                  have hcw1 := hcw.2
                  have hf1c := HM.out.fr 1
                  by_cases hc36 : cw = 36
                  · have HRF := Lib.hid (show r = (t.out, 0, ((j : Int) + 1)) by rw [HRS.out, runM_halt (by omega) (by rw [← HC.out]; exact hc36)]; rfl)
                    subst hc36
                    clear hc hcw
                    have hB := HBO4.out
                    have hb0 := hB.cell 0
                    have hb1 := hB.cell 1
                    have hb2 := hB.cell 2
                    rw [show (#[Value.string ⟨#[]⟩, .int .i64 0, .int .i64 0] : Array Value)[0]? = some (.string ⟨#[]⟩) from rfl] at hb0
                    rw [show (#[Value.string ⟨#[]⟩, .int .i64 0, .int .i64 0] : Array Value)[1]? = some (.int .i64 0) from rfl] at hb1
                    rw [show (#[Value.string ⟨#[]⟩, .int .i64 0, .int .i64 0] : Array Value)[2]? = some (.int .i64 0) from rfl] at hb2
                    have hf0 := hB.frozen 0
                    have hf1 := hB.frozen 1
                    have hf2 := hB.frozen 2
                    have hrlt := hB.lt
                    clear hB
                    go_wp2_with fail
                    refine bodyPost_ret (v := .agg #[.string (ofL t.out), .int .i64 0, .int .i64 ((j : Int) + 1)]) (by simp [results, Try.results11, go_sem, hb0, hb1, hb2]) rfl (runPost_of HRF.out rfl ?_)
                    exact (((HBW4.out.setCell (Nat.le_refl _) _).setCell (Nat.le_refl _) _).setCell (Nat.le_refl _) _)
                  · have hc36b : (cw == 36) = false := by simp [hc36]
                    have HM2 := Lib.hid (HM.out.setPc (t.pc + 1))
                    have HK2 := Lib.hid (ok_pc HK.out (p := t.pc + 1) (w32_mk (by omega) (by omega)))
                    have HX := Lib.hid (rs_any (c := cw) HM2.out HK2.out (Nat.le_trans HO1.out (by omega)))
                    have HCC := Lib.hid hc36
                    clear hc36 hc hcw
                    go_wp2_with fail
                    refine HX.out.mono ?_
                    intro e w3 hg
                    rcases rgoes_cases hg with ⟨t2, hr, rfl, ht⟩ | ⟨hr, rfl, ht⟩
                    · clear hg
                      have hc6 := ht.out.digAt
                      have hf6 := ht.out.fr 6
                      have HNX := Lib.hid (show nxt t cw = some { t2 with digit := decide (isDig cw) } by unfold nxt; rw [hr.out]; rfl)
                      have HRR2 := Lib.hid (show r = runM (L - (j + 1)) (j + 1) { t2 with digit := decide (isDig cw) } by
                        rw [HRS.out, runM_next (by omega) (by rw [← HC.out]; exact HCC.out) (by rw [← HC.out]; exact HNX.out)])
                      have HN2 := Lib.hid (nxt_ok HK.out hp (w32_mk hcw0 hcw1) HNX.out)
                      have HLE2 := Lib.hid (show L + 1 - (j + 1) < L + 1 - j by omega)
                      by_cases hd1 : 48 ≤ cw
                      · by_cases hd2 : cw ≤ 57
                        · have HDG := Lib.hid (show decide (isDig cw) = true from decide_eq_true ⟨hd1, hd2⟩)
                          rw [HDG.out] at HRR2 HN2
                          go_wp2_with fail
                          go_roundg (L + 1 - (j + 1))
                          case measure => exact HLE2.out
                          case rel => exact ⟨j + 1, _, rfl, by omega, by go_num, ht.out.setDig true, HN2.out.1, Nat.le_trans HN2.out.2 (by have := HO1.out; omega), HRR2.out⟩
                        · have HDG := Lib.hid (show decide (isDig cw) = false from decide_eq_false (fun h => hd2 h.2))
                          rw [HDG.out] at HRR2 HN2
                          have hd2b : decide (cw ≤ 57) = false := by simp; omega
                          go_wp2_with fail
                          go_roundg (L + 1 - (j + 1))
                          case measure => exact HLE2.out
                          case rel => exact ⟨j + 1, _, rfl, by omega, by go_num, ht.out.setDig false, HN2.out.1, Nat.le_trans HN2.out.2 (by have := HO1.out; omega), HRR2.out⟩
                      · have HDG := Lib.hid (show decide (isDig cw) = false from decide_eq_false (fun h => hd1 h.1))
                        rw [HDG.out] at HRR2 HN2
                        go_wp2_with fail
                        go_roundg (L + 1 - (j + 1))
                        case measure => exact HLE2.out
                        case rel => exact ⟨j + 1, _, rfl, by omega, by go_num, ht.out.setDig false, HN2.out.1, Nat.le_trans HN2.out.2 (by have := HO1.out; omega), HRR2.out⟩
                    · clear hg
                      obtain ⟨t2, h2, h3⟩ := ht.out
                      have HRF := Lib.hid (show r = (t2.out, 12, ((j : Int) + 1)) by
                        rw [HRS.out, runM_trap (by omega) (by rw [← HC.out]; exact HCC.out) (by rw [← HC.out]; unfold nxt; rw [hr.out]; rfl), h3]; rfl)
                      obtain ⟨A3, c3, hc5', hy3⟩ := h2.outAt
                      have hcv3 := run_conv_byt (P := Try.prog) hy3 32 5 9 Try.underlying32 Try.underlying5 Try.underlying9
                      have HBW5 := Lib.hid (HBW.out.trans (h2.bel.mono HBW.out.size))
                      have HBO5 := Lib.hid (HBo.out.below h2.bel)
                      obtain ⟨l3, hl3⟩ : ∃ l3, l3 = t2.out.length := ⟨_, rfl⟩
                      rw [← hl3] at hc5' hcv3
                      clear h2 h3 hy3 hl3 hc5 hcv
                      have hB := HBO5.out
                      have hb0 := hB.cell 0
                      have hb1 := hB.cell 1
                      have hb2 := hB.cell 2
                      rw [show (#[Value.string ⟨#[]⟩, .int .i64 0, .int .i64 0] : Array Value)[0]? = some (.string ⟨#[]⟩) from rfl] at hb0
                      rw [show (#[Value.string ⟨#[]⟩, .int .i64 0, .int .i64 0] : Array Value)[1]? = some (.int .i64 0) from rfl] at hb1
                      rw [show (#[Value.string ⟨#[]⟩, .int .i64 0, .int .i64 0] : Array Value)[2]? = some (.int .i64 0) from rfl] at hb2
                      have hf0 := hB.frozen 0
                      have hf1 := hB.frozen 1
                      have hf2 := hB.frozen 2
                      have hrlt := hB.lt
                      clear hB
                      go_wp2_with fail
                      refine bodyPost_ret (v := .agg #[.string (ofL t2.out), .int .i64 12, .int .i64 ((j : Int) + 1)]) (by simp [results, Try.results11, go_sem, hb0, hb1, hb2]) rfl (runPost_of HRF.out rfl ?_)
                      exact (((HBW5.out.setCell (Nat.le_refl _) _).setCell (Nat.le_refl _) _).setCell (Nat.le_refl _) _)
                · have hpd : decide (262144 ≤ t.pc) = true := by simp; omega
                  have HRF := Lib.hid (show r = (t.out, 12, ((j : Int) + 1)) by rw [HRS.out, runM_far (by omega)]; rfl)
                  clear hp
                  have hB := HBO4.out
                  have hb0 := hB.cell 0
                  have hb1 := hB.cell 1
                  have hb2 := hB.cell 2
                  rw [show (#[Value.string ⟨#[]⟩, .int .i64 0, .int .i64 0] : Array Value)[0]? = some (.string ⟨#[]⟩) from rfl] at hb0
                  rw [show (#[Value.string ⟨#[]⟩, .int .i64 0, .int .i64 0] : Array Value)[1]? = some (.int .i64 0) from rfl] at hb1
                  rw [show (#[Value.string ⟨#[]⟩, .int .i64 0, .int .i64 0] : Array Value)[2]? = some (.int .i64 0) from rfl] at hb2
                  have hf0 := hB.frozen 0
                  have hf1 := hB.frozen 1
                  have hf2 := hB.frozen 2
                  have hrlt := hB.lt
                  clear hB
                  go_wp2_with fail
                  refine bodyPost_ret (v := .agg #[.string (ofL t.out), .int .i64 12, .int .i64 ((j : Int) + 1)]) (by simp [results, Try.results11, go_sem, hb0, hb1, hb2]) rfl (runPost_of HRF.out rfl ?_)
                  exact (((HBW4.out.setCell (Nat.le_refl _) _).setCell (Nat.le_refl _) _).setCell (Nat.le_refl _) _)
              · have hjs : steps < (j : Int) + 1 := by have := HLE.out; omega
                have hjLe : j = L := by omega
                by_cases hneg : steps < 0
                · have hj0 : (j : Int) = 0 := by have := HLE.out; omega
                  have HRF := Lib.hid (show r = (t.out, 13, (0 : Int)) by rw [HRN.out, show L - j = 0 by omega, runM_zero, hj0])
                  clear hj0
                  have hB := HBO4.out
                  have hb0 := hB.cell 0
                  have hb1 := hB.cell 1
                  have hb2 := hB.cell 2
                  rw [show (#[Value.string ⟨#[]⟩, .int .i64 0, .int .i64 0] : Array Value)[0]? = some (.string ⟨#[]⟩) from rfl] at hb0
                  rw [show (#[Value.string ⟨#[]⟩, .int .i64 0, .int .i64 0] : Array Value)[1]? = some (.int .i64 0) from rfl] at hb1
                  rw [show (#[Value.string ⟨#[]⟩, .int .i64 0, .int .i64 0] : Array Value)[2]? = some (.int .i64 0) from rfl] at hb2
                  have hf0 := hB.frozen 0
                  have hf1 := hB.frozen 1
                  have hf2 := hB.frozen 2
                  have hrlt := hB.lt
                  clear hB
                  go_wp2_with fail
                  refine bodyPost_ret (v := .agg #[.string (ofL t.out), .int .i64 13, .int .i64 0]) (by simp [results, Try.results11, go_sem, hb0, hb1, hb2]) rfl (runPost_of HRF.out rfl ?_)
                  exact (((HBW4.out.setCell (Nat.le_refl _) _).setCell (Nat.le_refl _) _).setCell (Nat.le_refl _) _)
                · have hj0 : (j : Int) = steps := by have := HLE.out; omega
                  have HRF := Lib.hid (show r = (t.out, 13, steps) by rw [HRN.out, show L - j = 0 by omega, runM_zero, hj0])
                  clear hj0
                  have hB := HBO4.out
                  have hb0 := hB.cell 0
                  have hb1 := hB.cell 1
                  have hb2 := hB.cell 2
                  rw [show (#[Value.string ⟨#[]⟩, .int .i64 0, .int .i64 0] : Array Value)[0]? = some (.string ⟨#[]⟩) from rfl] at hb0
                  rw [show (#[Value.string ⟨#[]⟩, .int .i64 0, .int .i64 0] : Array Value)[1]? = some (.int .i64 0) from rfl] at hb1
                  rw [show (#[Value.string ⟨#[]⟩, .int .i64 0, .int .i64 0] : Array Value)[2]? = some (.int .i64 0) from rfl] at hb2
                  have hf0 := hB.frozen 0
                  have hf1 := hB.frozen 1
                  have hf2 := hB.frozen 2
                  have hrlt := hB.lt
                  clear hB
                  go_wp2_with fail
                  refine bodyPost_ret (v := .agg #[.string (ofL t.out), .int .i64 13, .int .i64 steps]) (by simp [results, Try.results11, go_sem, hb0, hb1, hb2]) rfl (runPost_of HRF.out rfl ?_)
                  exact (((HBW4.out.setCell (Nat.le_refl _) _).setCell (Nat.le_refl _) _).setCell (Nat.le_refl _) _)

theorem rrun_f (w : World) (A : Option Addr) (n c : Nat) (ts : List Txt) (h : Txs w A n c ts) (hts : ∀ t ∈ ts, (IntKind.i64.min ≤ t.1 ∧ t.1 ≤ IntKind.i64.max) ∧ t.2.size ≤ maxLen) (at_ : Int) (ha : IntKind.i64.min ≤ at_ ∧ at_ ≤ IntKind.i64.max)
    (Ai : Option Addr) (ni ci : Nat) (input : List Int) (hi : Sl w 1 Ai ni ci (iv input)) (hiw : ∀ x ∈ input, W32 x) (steps : Int) (hs : IntKind.i64.min ≤ steps ∧ steps ≤ IntKind.i64.max) :
    Calls Try.prog 11 #[.slice A n c, .int .i64 at_, .slice Ai ni ci, .int .i64 steps] w (RunPost w (runT ts at_ input steps)) := by
  by_cases hb : at_ < 0 ∨ 262144 ≤ at_
  · exact rrun_at w A n c ts h hts at_ ha Ai ni ci input hi hiw steps hs hb
  · exact rrun_in w A n c ts h hts at_ ha Ai ni ci input hi hiw steps hs (by omega) (by omega)

end Mc
end Go.Proofs.Ytfjjdogjihpbnaa
