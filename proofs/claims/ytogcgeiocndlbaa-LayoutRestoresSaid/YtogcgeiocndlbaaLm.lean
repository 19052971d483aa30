/- Recoverable of both: how many of the reels are left. -/
import Derived.Test.YtogcgeiocndlbaaLk
import Derived.Maps.Own
import Derived.Maps.OwnSet
namespace Go.Proofs.Ytogcgeiocndlbaa
open Go.RowKit
set_option linter.unusedVariables false
namespace Ly

/-- how many numbers below m are marked -/
def cntK (p : Nat → Bool) : Nat → Nat
  | 0 => 0
  | m + 1 => cntK p m + if p m then 1 else 0
theorem cntK_le (p : Nat → Bool) : ∀ m, cntK p m ≤ m
  | 0 => Nat.le_refl _
  | m + 1 => by
    have := cntK_le p m
    unfold cntK
    split <;> omega
theorem cntK_congr {p q : Nat → Bool} : ∀ m, (∀ k, k < m → p k = q k) → cntK p m = cntK q m
  | 0, _ => rfl
  | m + 1, h => by
    unfold cntK
    rw [cntK_congr m fun k hk => h k (by omega), h m (by omega)]
theorem cntK_none {p : Nat → Bool} (h : ∀ k, p k = false) : ∀ m, cntK p m = 0
  | 0 => rfl
  | m + 1 => by
    unfold cntK
    rw [cntK_none h m, h m]
    rfl
theorem cntK_or {p q : Nat → Bool} {z : Nat} (h : ∀ k, q k = (p k || decide (z = k))) : ∀ m, cntK q m = cntK p m + if z < m ∧ p z = false then 1 else 0
  | 0 => by simp [cntK]
  | m + 1 => by
    unfold cntK
    rw [cntK_or h m, h m]
    by_cases hz : z = m
    · subst hz
      cases hp : p z <;> simp
    · have e1 : decide (z = m) = false := decide_eq_false hz
      have e2 : (z < m + 1) = (z < m) := propext ⟨fun _ => by omega, fun _ => by omega⟩
      rw [e1, Bool.or_false]
      simp only [e2]
      exact Nat.add_right_comm _ _ _

theorem wf_i64 {n : Int} (h : (Lit.int .i64 n).wf = true) : IntKind.i64.min ≤ n ∧ n ≤ IntKind.i64.max := by
  simp only [Lit.wf, Bool.and_eq_true, decide_eq_true_eq] at h
  exact h
/-- is number k on the list -/
def hasI (zs : List Int) (k : Nat) : Bool := zs.any fun x => decide (x = (k : Int))
theorem hasI_snoc (l : List Int) (z : Int) (k : Nat) : hasI (l ++ [z]) k = (hasI l k || decide (z = (k : Int))) := by simp [hasI, List.any_append]

/-- the set that the program fills -/
def keyI (M : Nat) (zs : List Int) : List Lit := (zs.filter fun z => decide (0 ≤ z ∧ z < (M : Int))).map (Lit.int .i64)
def setI {H : Type} (M : Nat) (zs : List Int) : DataW H := Go.Maps.setOf (.lit (.bool true)) (keyI M zs)
theorem keyI_lit (M : Nat) (zs : List Int) : ∀ x ∈ keyI M zs, WideAt.IsKeyLit x := by
  intro x hx
  obtain ⟨z, _, rfl⟩ := List.mem_map.1 hx
  trivial
theorem setI_nil {H : Type} (M : Nat) : setI (H := H) M [] = .map [] := rfl
theorem setI_in {H : Type} {M : Nat} {z : Int} (l : List Int) (h : 0 ≤ z ∧ z < (M : Int)) : setI (H := H) M (l ++ [z]) = (setI M l).put (.int .i64 z) (.lit (.bool true)) := by
  have e : keyI M (l ++ [z]) = keyI M l ++ [.int .i64 z] := by
    unfold keyI
    rw [List.filter_append, List.map_append, List.filter_cons_of_pos (by simpa using h)]
    rfl
  unfold setI
  rw [e, Go.Maps.setOf_snoc]
theorem setI_out {H : Type} {M : Nat} {z : Int} (l : List Int) (h : ¬ (0 ≤ z ∧ z < (M : Int))) : setI (H := H) M (l ++ [z]) = setI M l := by
  have e : keyI M (l ++ [z]) = keyI M l := by
    unfold keyI
    rw [List.filter_append, List.map_append, List.filter_cons_of_neg (by simpa using h)]
    simp
  unfold setI
  rw [e]
theorem has_setI {H : Type} {M : Nat} {z : Int} (l : List Int) (h : 0 ≤ z ∧ z < (M : Int)) : Go.Maps.has (setI (H := H) M l) (.int .i64 z) = hasI l z.toNat := by
  unfold setI
  rw [Go.Maps.has_setOf _ _ _ (keyI_lit M l)]
  unfold keyI hasI
  rw [List.any_map, List.any_filter]
  congr 1
  funext x
  show (decide (0 ≤ x ∧ x < (M : Int)) && decide (IntKind.i64 = IntKind.i64 ∧ x = z)) = decide (x = ((z.toNat : Nat) : Int))
  by_cases hx : x = z
  · subst hx
    rw [decide_eq_true h, decide_eq_true ⟨rfl, rfl⟩, decide_eq_true (by omega)]
    rfl
  · rw [decide_eq_false (p := IntKind.i64 = IntKind.i64 ∧ x = z) (fun h => hx h.2), decide_eq_false (p := x = ((z.toNat : Nat) : Int)) (by omega), Bool.and_false]
theorem tidy_setI {H : Type} (M : Nat) (zs : List Int) : Go.Maps.Tidy (setI (H := H) M zs) := Go.Maps.tidy_setOf _ _ (keyI_lit M zs)
theorem take_snoc {zs : List Int} {n : Nat} (h : n < zs.length) : zs.take (n + 1) = zs.take n ++ [zs[n]] := List.take_succ_eq_append_getElem h
theorem size_setI (M : Nat) (zs : List Int) : ∀ n, n ≤ zs.length → Go.Maps.size (setI (H := Unit) M (zs.take n)) = cntK (hasI (zs.take n)) M
  | 0, _ => (cntK_none (fun _ => rfl) M).symm
  | n + 1, h => by
    rw [take_snoc (by omega)]
    have ih := size_setI M zs n (by omega)
    by_cases hz : 0 ≤ zs[n] ∧ zs[n] < (M : Int)
    · rw [setI_in _ hz, Go.Maps.size_put (tidy_setI M _), has_setI _ hz, ih, cntK_or (z := zs[n].toNat) (p := hasI (zs.take n)) (q := hasI (zs.take n ++ [zs[n]])) (fun k => by
        rw [hasI_snoc, show decide (zs[n] = (k : Int)) = decide (zs[n].toNat = k) from decide_eq_decide.2 ⟨fun _ => by omega, fun _ => by omega⟩])]
      have : zs[n].toNat < M := by omega
      cases hasI (zs.take n) zs[n].toNat <;> simp [this]
    · rw [setI_out _ hz, ih]
      exact cntK_congr M fun k hk => by rw [hasI_snoc, decide_eq_false (p := zs[n] = (k : Int)) (by omega), Bool.or_false]

/-- what both answer -/
def recB (d t : Int) (zs : List Int) : Bool := decide (okL d t) && decide (d ≤ ((cntK (hasI zs) (d + t).toNat : Nat) : Int))

set_option maxRecDepth 100000 in
set_option maxHeartbeats 4000000 in
theorem recov_f (d t : Int) (zs : List Int) (hwf : ∀ z ∈ zs, (Lit.int .i64 z).wf = true) (A : Option Addr) (n c : Nat) (hn : n ≤ 1000) (w : World) (hL : Lst (Value.int .i64) w A n c zs) :
    Calls Try.prog 21 #[.agg #[.int .i64 d, .int .i64 t], .slice A n c] w fun e w' => e = .returned (.bool (recB d t zs)) ∧ Below w.heap.size w w' := by
  obtain ⟨rb, hrb⟩ : ∃ rb, rb = recB d t zs := ⟨_, rfl⟩
  rw [← hrb]
  have HN := Lib.hid hL.len
  have HWF := Lib.hid hwf
  have HV := Lib.hid hL
  have hnc : n ≤ c := hL.1
  have hcm : c ≤ 9223372036854775807 := hL.2.1
  clear hwf hL
  by_cases hok : okL d t
  · have HC := Lib.hid (fun W => check_yes d t hok W)
    have hrb' : rb = decide (d ≤ ((cntK (hasI zs) (d + t).toNat : Nat) : Int)) := by rw [hrb]; unfold recB; rw [decide_eq_true hok, Bool.true_and]
    obtain ⟨h1, h2, h3, h4⟩ := hok
    obtain ⟨M, hM⟩ : ∃ M : Nat, (d + t).toNat = M := ⟨_, rfl⟩
    have HM := Lib.hid (show d + t = (M : Int) by omega)
    have HSZ := Lib.hid (size_setI M zs zs.length (Nat.le_refl _))
    rw [List.take_length] at HSZ
    obtain ⟨R, hR⟩ : ∃ R, R = cntK (hasI zs) M := ⟨_, rfl⟩
    rw [hM, ← hR] at hrb'
    rw [← hR] at HSZ
    clear hM hR hrb
    subst hrb'
    have hmm := @run_makeMap Try.prog
    go_enter Try.func21, Try.ntmps21
    go_wp2_with fail
    refine (HC.out _).mono ?_
    rintro e w1 ⟨rfl, hb⟩
    have HL := Lib.hid ((Blk.new w 23 #[.int .i64 d, .int .i64 t]).below hb)
    have HS := Lib.hid ((Sl.alloc HV.out (.cells #[.int .i64 d, .int .i64 t] 23)).below hb)
    have HB := Lib.hid (((Below.refl _ w).alloc (Nat.le_refl _) (.cells #[.int .i64 d, .int .i64 t] 23)).trans (hb.mono (by simp)))
    have hsz : w.heap.size < w1.heap.size := by have := hb.size; simp at this; omega
    clear hb
    go_wp2_with fail
    go_loopw [14] (fun iv wr => ∃ k : Nat, k ≤ n ∧ iv = .int .i64 (k : Int) ∧ wr.ownsMap Try.prog 3 (plainElem (H := Unit) Try.prog 4) w1.heap.size k (setI (H := Unit) M (zs.take k)) ∧ Below w1.heap.size w1 wr)
      (fun iv _ => n - (intOf iv).toNat)
    case atStart => exact ⟨0, Nat.zero_le _, rfl, World.ownsMap_made _ _ _ _, (Below.refl _ _).alloc (Nat.le_refl _) _⟩
    case round =>
      obtain ⟨k, hk, rfl, hown, hb⟩ := hrel
      have HO := Lib.hid hown
      have HBr := Lib.hid hb
      have HLr := Lib.hid (HL.out.below hb)
      clear hown hb
      have c0 := HLr.out.cell 0
      have c1 := HLr.out.cell 1
      simp only [List.getElem?_toArray, List.getElem?_cons_zero, List.getElem?_cons_succ] at c0 c1
      by_cases hkn : k < n
      · have hkl : k < zs.length := by rw [← HN.out]; exact hkn
        obtain ⟨z, hz⟩ : ∃ z, z = zs[k] := ⟨_, rfl⟩
        obtain ⟨av, rfl, _, hcz⟩ := Lst.at_ (f := Value.int .i64) (HS.out.below HBr.out) hkl
        have hzw := HWF.out _ (List.getElem_mem hkl)
        have HTK := Lib.hid (take_snoc hkl)
        rw [← hz] at hcz hzw HTK
        clear hz
        have HKY := Lib.hid (Go.Maps.keyOf_int_mk (P := Try.prog) Try.underlying3 hzw)
        have hzb := wf_i64 hzw
        have hz1 : -9223372036854775808 ≤ z := hzb.1
        have hz2 : z ≤ 9223372036854775807 := hzb.2
        clear hzb hzw
        by_cases hin : 0 ≤ z
        · by_cases hin2 : z < d + t
          · go_wp2_with (first
              | (at_mapUpdate; refine wpList_mapUpdate_own _ rfl _ _ _ 56 rfl 3 4 (Go.Maps.int_keyed Try.underlying3) Try.underlying56 (plainElem (H := Unit) Try.prog 4) w1.heap.size k _ rfl HO.out (by unfold maxLen; omega) _ _ _ rfl rfl HKY.out _ [] (plainElem_bool Try.underlying4 true) ?_; intro w2 hown1 hgrow1)
              | fail)
            go_roundw
            case rel => exact ⟨k + 1, by omega, by go_num, by rw [HTK.out, setI_in _ ⟨hin, by have := HM.out; omega⟩]; exact hown1, HBr.out.grown hgrow1 HBr.out.size (fun j hj => by cases hj; exact Nat.le_refl _)⟩
            case measure => simp [intOf]; omega
          · go_wp2_with fail
            go_roundw
            case rel => exact ⟨k + 1, by omega, by go_num, by rw [HTK.out, setI_out _ (by have := HM.out; omega)]; exact HO.out.mono (Nat.le_succ _), HBr.out⟩
            case measure => simp [intOf]; omega
        · go_wp2_with fail
          go_roundw
          case rel => exact ⟨k + 1, by omega, by go_num, by rw [HTK.out, setI_out _ (by omega)]; exact HO.out.mono (Nat.le_succ _), HBr.out⟩
          case measure => simp [intOf]; omega
      · have HOE := Lib.hid (show wr.ownsMap Try.prog 3 (plainElem (H := Unit) Try.prog 4) w1.heap.size k (setI (H := Unit) M zs) from by have := HO.out; rwa [List.take_of_length_le (by rw [← HN.out]; omega)] at this)
        go_wp2_with (first
          | (at_len; refine wpList_len_own _ rfl _ 56 rfl 3 4 Try.underlying56 _ w1.heap.size k _ rfl HOE.out ?_; rw [HSZ.out])
          | fail)
        go_ret
        exact ⟨rfl, HB.out.trans (HBr.out.mono HB.out.size)⟩
  · have hrb' : rb = false := by rw [hrb]; unfold recB; rw [decide_eq_false hok]; rfl
    have HC := Lib.hid (fun W => check_no d t hok W)
    clear hrb hok
    subst hrb'
    go_enter Try.func21, Try.ntmps21
    go_wp2_with fail
    refine (HC.out _).mono ?_
    rintro e w1 ⟨rfl, hb⟩
    have HB := Lib.hid (((Below.refl _ w).alloc (Nat.le_refl _) (.cells #[.int .i64 d, .int .i64 t] 23)).trans (hb.mono (by simp)))
    clear hb
    go_wp2_with fail
    go_ret
    exact ⟨rfl, HB.out⟩

end Ly
end Go.Proofs.Ytogcgeiocndlbaa
