/- The reference's Recoverable. -/
import Derived.Test.YtogcgeiocndlbaaLm
namespace Go.Proofs.Ytogcgeiocndlbaa
open Go.RowKit
set_option linter.unusedVariables false
namespace Ly

theorem any_tk {l : List Int} {p : Int → Bool} {k : Nat} (h : k < l.length) (h0 : (l.take k).any p = false) (h1 : p l[k] = false) : (l.take (k + 1)).any p = false := by
  rw [List.take_succ_eq_append_getElem h, List.any_append, h0]
  simp [h1]

set_option maxRecDepth 100000 in
set_option maxHeartbeats 4000000 in
theorem rrecov_f (d t : Int) (zs : List Int) (hwf : ∀ z ∈ zs, (Lit.int .i64 z).wf = true) (A : Option Addr) (n c : Nat) (hn : n ≤ 1000) (w : World) (hL : Lst (Value.int .i64) w A n c zs) :
    Calls Try.prog 20 #[.agg #[.int .i64 d, .int .i64 t], .slice A n c] w fun e w' => e = .returned (.bool (recB d t zs)) ∧ Below w.heap.size w w' := by
  obtain ⟨rb, hrb⟩ : ∃ rb, rb = recB d t zs := ⟨_, rfl⟩
  rw [← hrb]
  have HN := Lib.hid hL.len
  have HWF := Lib.hid hwf
  have HV := Lib.hid hL
  have hnc : n ≤ c := hL.1
  have hcm : c ≤ 9223372036854775807 := hL.2.1
  clear hwf hL
  by_cases hok : okL d t
  · have HC := Lib.hid (fun W => rcheck_yes d t hok W)
    have hrb' : rb = decide (d ≤ ((cntK (hasI zs) (d + t).toNat : Nat) : Int)) := by rw [hrb]; unfold recB; rw [decide_eq_true hok, Bool.true_and]
    obtain ⟨h1, h2, h3, h4⟩ := hok
    obtain ⟨M, hM⟩ : ∃ M : Nat, (d + t).toNat = M := ⟨_, rfl⟩
    have HM := Lib.hid (show d + t = (M : Int) by omega)
    have hM15 : M ≤ 15 := by omega
    rw [hM] at hrb'
    have HR := Lib.hid hrb'
    clear hM hrb hrb'
    go_enter Try.func20, Try.ntmps20
    go_wp2_with fail
    refine (HC.out _).mono ?_
    rintro e w1 ⟨rfl, hb⟩
    have HL := Lib.hid ((Blk.new w 23 #[.int .i64 d, .int .i64 t]).below hb)
    have HS := Lib.hid ((Sl.alloc HV.out (.cells #[.int .i64 d, .int .i64 t] 23)).below hb)
    have HB := Lib.hid (((Below.refl _ w).alloc (Nat.le_refl _) (.cells #[.int .i64 d, .int .i64 t] 23)).trans (hb.mono (by simp)))
    have hsz : w.heap.size < w1.heap.size := by have := hb.size; simp at this; omega
    clear hb
    have c0 := HL.out.cell 0
    have c1 := HL.out.cell 1
    simp only [List.getElem?_toArray, List.getElem?_cons_zero, List.getElem?_cons_succ] at c0 c1
    go_wp2_with fail
    go_loopw [5, 6] (fun nv kv wr => ∃ k : Nat, k ≤ M ∧ kv = .int .i64 (k : Int) ∧ nv = .int .i64 ((cntK (hasI zs) k : Nat) : Int) ∧ wr = w1)
      (fun _ kv _ => M - (intOf kv).toNat)
    case atStart => exact ⟨0, Nat.zero_le _, rfl, rfl, rfl⟩
    case round =>
      obtain ⟨k, hk, rfl, rfl, hwr⟩ := hrel
      obtain ⟨C, hC⟩ : ∃ C, C = cntK (hasI zs) k := ⟨_, rfl⟩
      have hCk : C ≤ 15 := by have := cntK_le (hasI zs) k; omega
      have HCC := Lib.hid hC
      rw [← hC]
      clear hC
      subst hwr
      by_cases hkm : k < M
      · have hkm' : (k : Int) < d + t := by have := HM.out; omega
        go_wp2_with fail
        go_loopw [5, 7] (fun nv iv wr' => ∃ i : Nat, i ≤ n ∧ iv = .int .i64 (i : Int) ∧ nv = .int .i64 (C : Int) ∧ ((zs.take i).any fun x => decide (x = (k : Int))) = false ∧ wr' = wr)
          (fun _ iv _ => n - (intOf iv).toNat)
        case atStart => exact ⟨0, Nat.zero_le _, rfl, rfl, rfl, rfl⟩
        case round =>
          obtain ⟨i, hi, rfl, rfl, hany, hwr⟩ := hrel
          have HA := Lib.hid hany
          clear hany
          subst hwr
          by_cases hin : i < n
          · have hil : i < zs.length := by rw [← HN.out]; exact hin
            obtain ⟨z, hz⟩ : ∃ z, z = zs[i] := ⟨_, rfl⟩
            obtain ⟨av, rfl, _, hcz⟩ := Lst.at_ (f := Value.int .i64) HS.out hil
            rw [← hz] at hcz
            have HZ := Lib.hid hz
            clear hz
            by_cases hzk : z = (k : Int)
            · subst hzk
              have HH := Lib.hid (show cntK (hasI zs) (k + 1) = C + 1 by
                show cntK (hasI zs) k + (if hasI zs k then 1 else 0) = C + 1
                rw [HCC.out, show hasI zs k = true from List.any_eq_true.2 ⟨_, List.getElem_mem hil, by rw [← HZ.out]; simp⟩]
                rfl)
              go_wp2_with fail
              go_roundw
              case rel => exact ⟨k + 1, by omega, by go_num, by rw [HH.out]; go_num, trivial⟩
              case measure => simp [intOf]; omega
            · have HA2 := Lib.hid (any_tk hil HA.out (by rw [← HZ.out]; simpa using hzk))
              go_wp2_with fail
              go_roundw
              case rel => exact ⟨i + 1, by omega, by go_num, rfl, HA2.out, trivial⟩
              case measure => simp [intOf]; omega
          · have HH := Lib.hid (show cntK (hasI zs) (k + 1) = C by
              have h0 : hasI zs k = false := by have := HA.out; rwa [List.take_of_length_le (by rw [← HN.out]; omega)] at this
              show cntK (hasI zs) k + (if hasI zs k then 1 else 0) = C
              rw [HCC.out, h0]
              rfl)
            go_wp2_with fail
            go_roundw
            case rel => exact ⟨k + 1, by omega, by go_num, by rw [HH.out], trivial⟩
            case measure => simp [intOf]; omega
      · have hkm' : ¬ (k : Int) < d + t := by have := HM.out; omega
        have HE := Lib.hid (show rb = decide (d ≤ (C : Int)) by rw [HR.out, HCC.out, show M = k by omega])
        go_wp2_with fail
        go_ret
        rw [HE.out]
        exact ⟨by simp, HB.out⟩
  · have hrb' : rb = false := by rw [hrb]; unfold recB; rw [decide_eq_false hok]; rfl
    have HC := Lib.hid (fun W => rcheck_no d t hok W)
    clear hrb hok
    subst hrb'
    go_enter Try.func20, Try.ntmps20
    go_wp2_with fail
    refine (HC.out _).mono ?_
    rintro e w1 ⟨rfl, hb⟩
    have HB := Lib.hid (((Below.refl _ w).alloc (Nat.le_refl _) (.cells #[.int .i64 d, .int .i64 t] 23)).trans (hb.mono (by simp)))
    clear hb
    go_wp2_with fail
    go_ret
    exact ⟨rfl, HB.out⟩

end Ly
end Go.Proofs.Ytogcgeiocndlbaa
