/- Reconcile: lookup, Difference, merge of the reference. -/
import Derived.Test.YtnllocghmnhooaaDoorUl
import Derived.Test.YtnllocghmnhooaaDoorUm
namespace Go.Proofs.YtnllocghmnhooaaDoor
open Go.RowKit
set_option linter.unusedVariables false
set_option linter.unusedSimpArgs false
namespace Rc
open Bk (bl bl_len bl_ofL ofL_bl ofL_size ofL_append)

def lkv (l : List Rec) (k : Bs) : Rec := (lk l k).getD ⟨0, 0, []⟩
theorem lk_first {l : List Rec} {k : Bs} {i : Nat} (h : i < l.length) (hn : ∀ x ∈ l.take i, key x ≠ k) (he : key l[i] = k) : lk l k = some l[i] := by
  unfold lk
  have e : l = l.take i ++ l[i] :: l.drop (i + 1) := by rw [← List.drop_eq_getElem_cons h, List.take_append_drop]
  have h1 : (l.take i).find? (fun x => key x == k) = none := by
    rw [List.find?_eq_none]
    intro x hx
    simpa using hn x hx
  rw [show l.find? (fun x => key x == k) = (l.take i ++ l[i] :: l.drop (i + 1)).find? (fun x => key x == k) from congrArg _ e, List.find?_append, h1, Option.none_or, List.find?_cons_of_pos (by simpa using he)]
theorem lk_nope {l : List Rec} {k : Bs} (hn : ∀ x ∈ l, key x ≠ k) : lk l k = none := by
  unfold lk
  rw [List.find?_eq_none]
  intro x hx
  simpa using hn x hx
theorem has_of_lk {l : List Rec} {k : Bs} {x : Rec} (h : lk l k = some x) : has l k = true := by
  obtain ⟨h1, h2⟩ := lk_of h
  exact has_iff.2 ⟨x, h1, h2⟩
theorem blk_rec {W : World} {g : Nat} {cs : Array Value} (h : Blk W g 42 cs) (hs : cs.size = 3) (a b c : Value) :
    Blk (((W.setCell ⟨g, 0, none⟩ a).setCell ⟨g, 1, none⟩ b).setCell ⟨g, 2, none⟩ c) g 42 #[a, b, c] := by
  have h1 := ((h.set_ 0 a).set_ 1 b).set_ 2 c
  obtain ⟨l⟩ := cs
  match l, hs with
  | [x, y, z], _ => exact h1
theorem bel_rec {w W : World} {g : Nat} (h : Below w.heap.size w W) (hg : w.heap.size ≤ g) (a b c : Value) : Below w.heap.size w (((W.setCell ⟨g, 0, none⟩ a).setCell ⟨g, 1, none⟩ b).setCell ⟨g, 2, none⟩ c) :=
  ((h.setCell (p := ⟨g, 0, none⟩) hg a).setCell (p := ⟨g, 1, none⟩) hg b).setCell (p := ⟨g, 2, none⟩) hg c
theorem rec_ret {fn : Func} (h : fn.results = #[.cell 4 42, .tmp 5]) {Q : Ending → World → Prop} (tmps : Array Value) (W : World) {g : Nat} {v0 v1 v2 v3 : Value} (hb : Blk W g 42 #[v0, v1, v2])
    (hp : tmps.getD 4 undef = .pointer (some ⟨g, 0, none⟩)) (hu : tmps.getD 5 undef = v3) (hQ : Q (.returned (.tuple #[.agg #[v0, v1, v2], v3])) W) : bodyPost Tryd.prog fn Q .ret ⟨tmps, []⟩ W := by
  have hld := run_loadVar_row (P := Tryd.prog) W g 42 42 #[v0, v1, v2] (0, 0) _ hb Tryd.underlying42 rfl (by kernel_rfl)
  exact bodyPost_ret (v := .tuple #[.agg #[v0, v1, v2], v3]) (Bk.res_two h tmps W hp hu hld) rfl hQ

set_option maxRecDepth 100000 in
set_option maxHeartbeats 4000000 in
theorem rlookup_f (l : List Rec) (hv : ∀ x ∈ l, Val x) (k : Bs) (w : World) (A : Option Addr) (c : Nat) (h : Rcs w A c l) (hl : l.length ≤ 100000) :
    Calls Tryd.prog 40 #[.slice A l.length c, .string (ofL k)] w fun e w' => e = .returned (.tuple #[rv (lkv l k), .bool (has l k)]) ∧ Below w.heap.size w w' := by
  have HR := Lib.hid (fun W (hb : Below w.heap.size w W) => h.below hb)
  have HK := Lib.hid (fun i (hi : i < l.length) W => rkey_f l[i] (hv _ (List.getElem_mem hi)) W)
  have HF := Lib.hid (fun i (hi : i < l.length) => (show (∀ x ∈ l.take i, key x ≠ k) → key l[i] = k → lkv l k = l[i] ∧ has l k = true from fun h1 h2 => by
    have := lk_first hi h1 h2
    exact ⟨by unfold lkv; rw [this]; rfl, has_of_lk this⟩))
  have HS := Lib.hid (fun i (hi : i < l.length) => (show (∀ x ∈ l.take i, key x ≠ k) → key l[i] ≠ k → ∀ x ∈ l.take (i + 1), key x ≠ k from fun h1 h2 x hx => by
    rw [List.take_succ_eq_append_getElem hi] at hx
    rcases List.mem_append.1 hx with hx | hx
    · exact h1 x hx
    · rw [List.mem_singleton] at hx; rw [hx]; exact h2))
  have HE := Lib.hid (show (∀ x ∈ l.take l.length, key x ≠ k) → lkv l k = ⟨0, 0, []⟩ ∧ has l k = false from fun h1 => by
    rw [List.take_length] at h1
    exact ⟨by unfold lkv; rw [lk_nope h1]; rfl, has_not.2 h1⟩)
  have hcm : c ≤ 9223372036854775807 := h.max
  have hlc := h.le
  obtain ⟨n, hn⟩ : ∃ n, n = l.length := ⟨_, rfl⟩
  have HN := Lib.hid hn
  rw [← hn] at hl hlc HE ⊢
  obtain ⟨V, hV⟩ : ∃ V, V = lkv l k := ⟨_, rfl⟩
  rw [← hV] at HF HE ⊢
  clear hn hv h hV
  go_enter Tryd.func40, Tryd.ntmps40
  have HZ := Lib.hid (Blk.new w 42 #[.int .u32 0, .int .i64 0, .string ⟨#[]⟩])
  have HZB := Lib.hid ((Below.refl _ w).alloc (Nat.le_refl _) (.cells #[.int .u32 0, .int .i64 0, .string ⟨#[]⟩] 42))
  obtain ⟨w2, hw2⟩ : ∃ x, x = w.alloc (.cells #[.int .u32 0, .int .i64 0, .string ⟨#[]⟩] 42) := ⟨_, rfl⟩
  go_wp2_with fail
  rw [← hw2] at HZ HZB ⊢
  have HRZ := Lib.hid (fun W (k : Below w2.heap.size w2 W) => HZ.out.below k)
  clear hw2 HZ
  go_loopw [6] (fun x W => ∃ i : Nat, i ≤ n ∧ x = .int .i64 (i : Int) ∧ Hid (∀ x ∈ l.take i, key x ≠ k) ∧ Hid (Below w2.heap.size w2 W)) (fun x _ => n - (intOf x).toNat)
  case atStart => exact ⟨0, Nat.zero_le _, rfl, Lib.hid (by simp), Lib.hid (Below.refl _ _)⟩
  case round =>
    obtain ⟨i, hi, rfl, HNO, HB⟩ := hrel
    have HZ := Lib.hid (HRZ.out _ HB.out)
    by_cases hkn : i < n
    · have hkl : i < l.length := by rw [← HN.out]; exact hkn
      obtain ⟨g, o, rfl, hat⟩ := (HR.out _ (HZB.out.trans (HB.out.mono HZB.out.size))).mem (by omega)
      obtain ⟨c0, c1, c2⟩ := hat.2 i hkl
      have HGL := Lib.hid hat.1
      have HKX := Lib.hid (HK.out i hkl)
      have HFX := Lib.hid (HF.out i hkl)
      have HSX := Lib.hid (HS.out i hkl)
      obtain ⟨r, hr⟩ : ∃ r, l[i] = r := ⟨_, rfl⟩
      rw [hr] at c0 c1 c2 HKX HFX HSX
      clear hat hr
      unfold rv at HKX
      by_cases q1 : key r = k
      · have f1 : ((ofL (key r)).toList == (ofL k).toList) = true := by rw [q1]; simp
        have f2 : (ofL (key r)).toList = (ofL k).toList := by rw [q1]
        have HA := Lib.hid (HFX.out HNO.out q1)
        clear q1
        go_wp2_with fail
        refine (HKX.out _).mono ?_
        rintro e w3 ⟨rfl, hb⟩
        have HZ3 := Lib.hid (HZ.out.below hb)
        have HB3 := Lib.hid (HB.out.trans (hb.mono HB.out.size))
        have k0 := (hb.cell (p := ⟨g, _, none⟩) HGL.out).trans c0
        have k1 := (hb.cell (p := ⟨g, _, none⟩) HGL.out).trans c1
        have k2 := (hb.cell (p := ⟨g, _, none⟩) HGL.out).trans c2
        have z0 := HZ3.out.cell 0
        have z1 := HZ3.out.cell 1
        have z2 := HZ3.out.cell 2
        have d0 := HZ3.out.frozen 0
        have d1 := HZ3.out.frozen 1
        have d2 := HZ3.out.frozen 2
        simp only [List.getElem?_toArray, List.getElem?_cons_zero, List.getElem?_cons_succ] at z0 z1 z2
        clear hb c0 c1 c2
        go_wp2_with fail
        try simp only [Exit.inBlock, Exit.then]
        exact rec_ret rfl _ _ (blk_rec HZ3.out rfl _ _ _) rfl rfl ⟨by rw [HA.out.1, HA.out.2]; rfl, bel_rec (HZB.out.trans (HB3.out.mono HZB.out.size)) (Nat.le_refl _) _ _ _⟩
      · have f1 := tl_neq q1
        have f2 := tl_neq' q1
        have HA := Lib.hid (HSX.out HNO.out q1)
        clear q1
        go_wp2_with fail
        refine (HKX.out _).mono ?_
        rintro e w3 ⟨rfl, hb⟩
        have HB3 := Lib.hid (HB.out.trans (hb.mono HB.out.size))
        clear hb c0 c1 c2
        go_wp2_with fail
        go_roundw
        case rel => exact ⟨i + 1, by omega, by go_num, HA, HB3⟩
        case measure => simp [intOf]; omega
    · obtain rfl : n = i := by omega
      have HA := Lib.hid (HE.out HNO.out)
      have z0 := HZ.out.cell 0
      have z1 := HZ.out.cell 1
      have z2 := HZ.out.cell 2
      have d0 := HZ.out.frozen 0
      have d1 := HZ.out.frozen 1
      have d2 := HZ.out.frozen 2
      simp only [List.getElem?_toArray, List.getElem?_cons_zero, List.getElem?_cons_succ] at z0 z1 z2
      go_wp2_with fail
      try simp only [Exit.inBlock, Exit.then]
      exact rec_ret rfl _ _ (blk_rec HZ.out rfl _ _ _) rfl rfl ⟨by rw [HA.out.1, HA.out.2]; rfl, bel_rec (HZB.out.trans (HB.out.mono HZB.out.size)) (Nat.le_refl _) _ _ _⟩
end Rc
end Go.Proofs.YtnllocghmnhooaaDoor
