/- The machine's run makes the run of the plain machine. -/
import Derived.Test.YtfjjdogjihpbnaaDoorMk
import Derived.Deep.QuietTactic
import Derived.BigQuiet
import Derived.Deep.LoopGhost
namespace Go.Proofs.YtfjjdogjihpbnaaDoor
open Go.RowKit
namespace Mc

theorem runM_zero (n : Nat) (s : St) : runM 0 n s = (s.out, 13, (n : Int)) := rfl
theorem runM_far {k n : Nat} {s : St} (h : 262144 ≤ s.pc) : runM (k + 1) n s = (s.out, 12, ((n + 1 : Nat) : Int)) := by simp [runM, h]
theorem runM_halt {k n : Nat} {s : St} (h : ¬ 262144 ≤ s.pc) (hc : s.mem s.pc.toNat = 36) : runM (k + 1) n s = (s.out, 0, ((n + 1 : Nat) : Int)) := by simp [runM, h, hc]
theorem runM_trap {k n : Nat} {s : St} (h : ¬ 262144 ≤ s.pc) (hc : s.mem s.pc.toNat ≠ 36) (ht : nxt s (s.mem s.pc.toNat) = none) : runM (k + 1) n s = (s.out, 12, ((n + 1 : Nat) : Int)) := by simp [runM, h, hc, ht]
theorem runM_next {k n : Nat} {s t : St} (h : ¬ 262144 ≤ s.pc) (hc : s.mem s.pc.toNat ≠ 36) (ht : nxt s (s.mem s.pc.toNat) = some t) : runM (k + 1) n s = runM k (n + 1) t := by simp [runM, h, hc, ht]

/-- what run leaves: the output and the number of steps in the struct, the error as its result -/
def Ran (fix : List (Nat × Obj)) (w0 : World) (g : Nat) (bm : Value) (r : Res) (e : Ending) (w' : World) : Prop :=
  e = .returned (.int .i64 r.2.1) ∧ ∃ z t, MP fix w0 w' g r.2.2 z bm t ∧ t.out = r.1
theorem ran_of {fix : List (Nat × Obj)} {w0 w' : World} {g : Nat} {bm : Value} {r : Res} {er n : Int} {z : Bool} {t : St} {O : List UInt8} (hr : r = (O, er, n)) (h : MP fix w0 w' g n z bm t) (ho : t.out = O) : Ran fix w0 g bm r (.returned (.int .i64 er)) w' := by
  subst hr
  exact ⟨rfl, z, t, h, ho⟩

section
variable {fix : List (Nat × Obj)} {w0 W : World} {g : Nat} {n : Int} {z : Bool} {bb : Nat} {s : St}
set_option maxRecDepth 100000 in
set_option maxHeartbeats 4000000 in
theorem run_f (h : MP fix w0 W g 0 false (.map (some bb)) s) (hfx : (bb, .map ents 7) ∈ fix) (ok : Ok s) (ho : s.out = []) (L : Nat) (hL : L ≤ 100000000) :
    Calls Tryd.prog 15 #[.pointer (some ⟨g, 0, none⟩), .int .i64 (L : Int)] W (Ran fix w0 g (.map (some bb)) (runM L 0 s)) := by
  have hmf : ∀ (fn : Fn) (first cap : Array Value) (w : World), (Instr.makeFunc fn first cap).run Tryd.prog w = .ok (.func fn first cap) w := fun _ _ _ _ => rfl
  have HF := Lib.hid (h.addFix (.cells #[.int .i64 0] 24))
  have HNE := Lib.hid (show ∀ p ∈ fix, W.heap.size ≠ p.1 from fun p hp => by
    have := (Array.getElem?_eq_some_iff.1 (h.fixAt hp)).1
    omega)
  have HSZ := Lib.hid h.bel.size
  have HFX := Lib.hid (show (bb, Obj.map ents 7) ∈ (W.heap.size, Obj.cells #[.int .i64 0] 24) :: fix from List.mem_cons_of_mem _ hfx)
  have HMEM := Lib.hid (show (W.heap.size, Obj.cells #[.int .i64 0] 24) ∈ (W.heap.size, Obj.cells #[.int .i64 0] 24) :: fix from by simp)
  have HOK := Lib.hid ok
  have HO := Lib.hid ho
  obtain ⟨R, hR⟩ : ∃ R, R = runM L 0 s := ⟨_, rfl⟩
  have HR := Lib.hid hR
  rw [← hR]
  obtain ⟨eb, heb⟩ : ∃ eb, eb = W.heap.size := ⟨_, rfl⟩
  have HEB := Lib.hid heb
  rw [← heb] at HF HNE HSZ HFX HMEM
  clear h hfx ok ho hR
  go_enter_defers Tryd.func15, Tryd.ntmps15
  go_wp2_with fail
  rw [← heb]
  clear heb
  go_loopg [] L (fun k wr => ∃ (j : Nat) (t : St), k = L - j ∧ j ≤ L ∧ MP ((eb, Obj.cells #[.int .i64 0] 24) :: fix) w0 wr g (j : Int) false (.map (some bb)) t ∧ Ok t ∧ t.out.length ≤ j ∧ R = runM (L - j) j t)
  case atStart => exact ⟨0, s, by omega, by omega, HF.out, HOK.out, by rw [HO.out]; simp, HR.out⟩
  case round =>
    obtain ⟨j, t, rfl, hj, hM, hK, hO, hrn⟩ := hrel
    have HM := Lib.hid hM
    have HK := Lib.hid hK
    have HO1 := Lib.hid hO
    have HRN := Lib.hid hrn
    have hc7 := hM.stAt
    have hf7 := hM.fr 7
    have hc1 := hM.pcAt
    have hp0 := hK.pc.1
    have hp1 := hK.pc.2
    have HEW := Lib.hid (fun (V : World) (n' : Int) (z' : Bool) (t' : St) (hV : MP ((eb, Obj.cells #[.int .i64 0] 24) :: fix) w0 V g n' z' (.map (some bb)) t') => show Blk V eb 24 #[.int .i64 0] from hV.fixAt HMEM.out)
    clear hM hK hO hrn
    by_cases hjL : j < L
    · have HRS := Lib.hid (show R = runM (L - (j + 1) + 1) j t by rw [HRN.out]; congr 1; omega)
      by_cases hp : t.pc < 262144
      · have hpd : decide (t.pc < 262144) = true := by simpa using hp
        have hnp : ¬ 262144 ≤ t.pc := by omega
        have HNP := Lib.hid hnp
        clear hnp
        go_wp2_with fail
        obtain ⟨W1, hW1⟩ : ∃ W1, W1 = wr.setCell ⟨g, 7, none⟩ (.int .i64 ((j : Int) + 1)) := ⟨_, rfl⟩
        have hM1 := HM.out.setSt ((j : Int) + 1)
        rw [← hW1] at hM1 ⊢
        obtain ⟨gm, hd0⟩ := hM1.mem0
        obtain ⟨c, hc⟩ : ∃ c, c = t.mem t.pc.toNat := ⟨_, rfl⟩
        have HC := Lib.hid hc
        have hwd := (hM1.word hd0 (a := t.pc.toNat) (by omega)).1
        rw [← hc] at hwd
        have hcw := HK.out.mem t.pc.toNat
        rw [← hc] at hcw
        have hcw0 := hcw.1
        have hcw1 := hcw.2
        have hd1 := hM1.pcAt
        have hdf1 := hM1.fr 1
        have HM1 := Lib.hid hM1
        clear hM1 hW1 hc7 hf7 hc1 hc hcw
        refine (check_yes _).mono ?_
        rintro e w' ⟨rfl, rfl⟩
        go_wp2_with fail
        go_quiet (fail)
        go_wp2_with fail
        obtain ⟨W2, hW2⟩ : ∃ W2, W2 = (W1.drewN nq).setCell ⟨g, 1, none⟩ (.int .u32 (t.pc + 1)) := ⟨_, rfl⟩
        have hM2 := (HM1.out.drewN nq).setPc (t.pc + 1)
        rw [← hW2] at hM2
        have HM2 := Lib.hid hM2
        have HW2 := Lib.hid hW2
        have HK2 := Lib.hid (ok_pc HK.out (p := t.pc + 1) (w32_mk (by omega) (by omega)))
        clear hM2 hd0 hwd hd1 hdf1 hW2
        rw [← HW2.out]
        by_cases hc36 : c = 36
        · have HX := Lib.hid (ex_halt HM2.out)
          have HRR := Lib.hid (show R = (t.out, 0, ((j : Int) + 1)) by rw [HRS.out, runM_halt (by omega) (by rw [← HC.out]; exact hc36)]; rfl)
          subst hc36
          refine HX.out.mono ?_
          rintro e w3 ⟨rfl, h3⟩
          have HM3 := Lib.hid h3
          have hc8 := h3.zAt
          have hbe := HEW.out w3 _ _ _ h3
          have hce := hbe.cell 0
          rw [show (#[Value.int .i64 0] : Array Value)[0]? = some (.int .i64 0) from rfl] at hce
          have hfe := hbe.frozen 0
          have HBE := Lib.hid hbe
          clear h3 hbe
          go_wp2_with fail
          refine leaves_cons (f := 32) (args := #[.pointer (some ⟨eb, 0, none⟩)]) (by simp) (by simp [go_sem]) ?_
          refine (run1_idle eb _).mono ?_
          rintro e u' w'' ⟨rfl, rfl, rfl⟩
          have hfin := ((HBE.out.set_ 0 (.int .i64 0)).alloc (.cells #[] 65)).cell 0
          rw [show ((#[Value.int .i64 0] : Array Value).setIfInBounds 0 (.int .i64 0))[0]? = some (.int .i64 0) from rfl] at hfin
          exact ⟨.int .i64 0, by simp [results, Tryd.results15, go_sem, hfin], ran_of HRR.out ((HM3.out.setFix HSZ.out HNE.out 0 (.int .i64 0)).alloc _) rfl⟩
        · have HX := Lib.hid (ex_any HM2.out HFX.out HK2.out (Nat.le_trans HO1.out (by omega)) hc36)
          have hc36b : (c == 36) = false := by simp [hc36]
          have HCC := Lib.hid hc36
          clear hc36
          refine HX.out.mono ?_
          intro e w3 hg
          rcases goes_cases hg with ⟨t2, hr, rfl, ht⟩ | ⟨hr, rfl, ht⟩
          · clear hg
            have hc8 := ht.out.zAt
            have hc6 := ht.out.digAt
            have hf6 := ht.out.fr 6
            have HNX := Lib.hid (show nxt t c = some { t2 with digit := decide (isDig c) } by unfold nxt; rw [hr.out]; rfl)
            have HRR := Lib.hid (show R = runM (L - (j + 1)) (j + 1) { t2 with digit := decide (isDig c) } by
              rw [HRS.out, runM_next (by omega) (by rw [← HC.out]; exact HCC.out) (by rw [← HC.out]; exact HNX.out)])
            have HN2 := Lib.hid (nxt_ok HK.out hp (w32_mk hcw0 hcw1) HNX.out)
            have HLE := Lib.hid (show L - (j + 1) < L - j by omega)
            by_cases hd1 : 48 ≤ c
            · by_cases hd2 : c ≤ 57
              · have HDG := Lib.hid (show decide (isDig c) = true from decide_eq_true ⟨hd1, hd2⟩)
                rw [HDG.out] at HRR HN2
                go_wp2_with fail
                go_roundg (L - (j + 1))
                case measure => exact HLE.out
                case rel => exact ⟨j + 1, _, rfl, by omega, by have := ht.out.setDig true; simpa using this, HN2.out.1, Nat.le_trans HN2.out.2 (by have := HO1.out; omega), HRR.out⟩
              · have HDG := Lib.hid (show decide (isDig c) = false from decide_eq_false (fun h => hd2 h.2))
                rw [HDG.out] at HRR HN2
                have hd2b : decide (c ≤ 57) = false := by simp; omega
                go_wp2_with fail
                go_roundg (L - (j + 1))
                case measure => exact HLE.out
                case rel => exact ⟨j + 1, _, rfl, by omega, by have := ht.out.setDig false; simpa using this, HN2.out.1, Nat.le_trans HN2.out.2 (by have := HO1.out; omega), HRR.out⟩
            · have HDG := Lib.hid (show decide (isDig c) = false from decide_eq_false (fun h => hd1 h.1))
              rw [HDG.out] at HRR HN2
              go_wp2_with fail
              go_roundg (L - (j + 1))
              case measure => exact HLE.out
              case rel => exact ⟨j + 1, _, rfl, by omega, by have := ht.out.setDig false; simpa using this, HN2.out.1, Nat.le_trans HN2.out.2 (by have := HO1.out; omega), HRR.out⟩
          · clear hg
            obtain ⟨t2, h2, h3⟩ := ht.out
            have HRR := Lib.hid (show R = (t2.out, 12, ((j : Int) + 1)) by
              rw [HRS.out, runM_trap (by omega) (by rw [← HC.out]; exact HCC.out) (by rw [← HC.out]; unfold nxt; rw [hr.out]; rfl), h3]; rfl)
            have HM3 := Lib.hid h2
            have HBE := Lib.hid (HEW.out w3 _ _ _ h2)
            clear h2 h3
            refine leaves_cons (f := 32) (args := #[.pointer (some ⟨eb, 0, none⟩)]) (by simp) (by simp [go_sem]) ?_
            refine (run1_trap eb 0 _ HBE.out).mono ?_
            rintro e u' w'' ⟨rfl, rfl, rfl⟩
            have hfin := ((HBE.out.alloc (.cells #[] 65)).set_ 0 (.int .i64 12)).cell 0
            rw [show ((#[Value.int .i64 0] : Array Value).setIfInBounds 0 (.int .i64 12))[0]? = some (.int .i64 12) from rfl] at hfin
            exact ⟨.int .i64 12, by simp [results, Tryd.results15, go_sem, hfin], ran_of HRR.out ((HM3.out.alloc _).setFix HSZ.out HNE.out 0 (.int .i64 12)) rfl⟩
      · have hpd : decide (t.pc < 262144) = false := by simp; omega
        have HRR := Lib.hid (show R = (t.out, 12, ((j : Int) + 1)) by rw [HRS.out, runM_far (by omega)]; rfl)
        go_wp2_with fail
        have hM1 := HM.out.setSt ((j : Int) + 1)
        have HM1 := Lib.hid hM1
        have HBE := Lib.hid (HEW.out _ _ _ _ hM1)
        clear hM1
        refine (check_no _).mono ?_
        rintro e w' ⟨rfl, rfl⟩
        refine leaves_cons (f := 32) (args := #[.pointer (some ⟨eb, 0, none⟩)]) (by simp) (by simp [go_sem]) ?_
        refine (run1_trap eb 0 _ HBE.out).mono ?_
        rintro e u' w'' ⟨rfl, rfl, rfl⟩
        have hfin := ((HBE.out.alloc (.cells #[] 65)).set_ 0 (.int .i64 12)).cell 0
        rw [show ((#[Value.int .i64 0] : Array Value).setIfInBounds 0 (.int .i64 12))[0]? = some (.int .i64 12) from rfl] at hfin
        exact ⟨.int .i64 12, by simp [results, Tryd.results15, go_sem, hfin], ran_of HRR.out ((HM1.out.alloc _).setFix HSZ.out HNE.out 0 (.int .i64 12)) rfl⟩
    · have HRR := Lib.hid (show R = (t.out, 13, (j : Int)) by rw [HRN.out, show L - j = 0 by omega]; rfl)
      have HBE := Lib.hid (HEW.out _ _ _ _ HM.out)
      have hce := HBE.out.cell 0
      rw [show (#[Value.int .i64 0] : Array Value)[0]? = some (.int .i64 0) from rfl] at hce
      have hfe := HBE.out.frozen 0
      go_wp2_with fail
      refine leaves_cons (f := 32) (args := #[.pointer (some ⟨eb, 0, none⟩)]) (by simp) (by simp [go_sem]) ?_
      refine (run1_idle eb _).mono ?_
      rintro e u' w'' ⟨rfl, rfl, rfl⟩
      have hfin := ((HBE.out.set_ 0 (.int .i64 13)).alloc (.cells #[] 65)).cell 0
      rw [show ((#[Value.int .i64 0] : Array Value).setIfInBounds 0 (.int .i64 13))[0]? = some (.int .i64 13) from rfl] at hfin
      exact ⟨.int .i64 13, by simp [results, Tryd.results15, go_sem, hfin], ran_of HRR.out ((HM.out.setFix HSZ.out HNE.out 0 (.int .i64 13)).alloc _) rfl⟩
end
end Mc
end Go.Proofs.YtfjjdogjihpbnaaDoor
