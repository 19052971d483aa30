/- Reconcile: what the laws share: one record, has, awake. -/
import Derived.Test.YtnllocghmnhooaaDoorUy
import Derived.Test.YtnllocghmnhooaaDoorUs
namespace Go.Proofs.YtnllocghmnhooaaDoor
open Go.RowKit
set_option linter.unusedVariables false
set_option linter.unusedSimpArgs false
namespace Rc
open Bk (bl bl_len bl_ofL ofL_bl ofL_size ofL_append)

def rep (c : Nat) (k : Nat) : Bs := List.replicate k (UInt8.ofNat c)
theorem rep_snoc (c k : Nat) : rep c k ++ [UInt8.ofNat c] = rep c (k + 1) := by
  unfold rep
  rw [List.replicate_succ']
def onr (a s c : Nat) : Rec := ⟨a, s, rep c 32⟩
theorem onr_val {a s c : Nat} (h1 : a < 4294967296) (h2 : 1 ≤ s) (h3 : s ≤ 255) : Val (onr a s c) := ⟨h1, h2, h3, by simp [onr, rep]⟩
theorem rec6_ret {fn : Func} (h : fn.results = #[.cell 6 42]) {Q : Ending → World → Prop} (tmps : Array Value) (W : World) {g : Nat} {v0 v1 v2 : Value} (hb : Blk W g 42 #[v0, v1, v2])
    (hp : tmps.getD 6 undef = .pointer (some ⟨g, 0, none⟩)) (hQ : Q (.returned (.agg #[v0, v1, v2])) W) : bodyPost Tryd.prog fn Q .ret ⟨tmps, []⟩ W := by
  have hld := run_loadVar_row (P := Tryd.prog) W g 42 42 #[v0, v1, v2] (0, 0) _ hb Tryd.underlying42 rfl (by kernel_rfl)
  exact bodyPost_ret (v := .agg #[v0, v1, v2]) (res_one h tmps W hp hld) rfl hQ
set_option maxRecDepth 100000 in
set_option maxHeartbeats 1000000 in
theorem one_f (a s c : Nat) (hc : c < 256) (w : World) :
    Calls Tryd.prog 28 #[.int .u32 (a : Int), .int .i64 (s : Int), .int .u8 (c : Int)] w fun e w' => e = .returned (rv (onr a s c)) ∧ Below w.heap.size w w' := by
  go_enter Tryd.func28, Tryd.ntmps28
  have HZ := Lib.hid (Blk.new w 42 #[.int .u32 0, .int .i64 0, .string ⟨#[]⟩])
  have HZB := Lib.hid ((Below.refl _ w).alloc (Nat.le_refl _) (.cells #[.int .u32 0, .int .i64 0, .string ⟨#[]⟩] 42))
  obtain ⟨w2, hw2⟩ : ∃ x, x = w.alloc (.cells #[.int .u32 0, .int .i64 0, .string ⟨#[]⟩] 42) := ⟨_, rfl⟩
  go_wp2_with fail
  rw [← hw2] at HZ HZB ⊢
  have HRZ := Lib.hid (fun W (k : Below w2.heap.size w2 W) => HZ.out.below k)
  clear hw2 HZ
  go_loopw [7, 8] (fun y z W => ∃ (k : Nat) (t : ByteArray), k ≤ 32 ∧ y = .string t ∧ z = .int .i64 (k : Int) ∧ Hid (t = ofL (rep c k)) ∧ t.size ≤ 32 ∧ Hid (Below w2.heap.size w2 W)) (fun _ z _ => 32 - (intOf z).toNat)
  case atStart => exact ⟨0, ⟨#[]⟩, by omega, rfl, rfl, Lib.hid rfl, (show (0 : Nat) ≤ 32 from by omega), Lib.hid (Below.refl _ _)⟩
  case round =>
    obtain ⟨k, t, hk, rfl, rfl, HT, hts, HB⟩ := hrel
    by_cases hlt : k < 32
    · have hcv := conv_one c hc wr
      have HNX := Lib.hid (show t ++ ofL [UInt8.ofNat c] = ofL (rep c (k + 1)) by rw [HT.out, ofL_append, rep_snoc])
      have hty : (t ++ ofL [UInt8.ofNat c]).size ≤ 32 := by rw [HNX.out, ofL_size]; simp [rep]; omega
      obtain ⟨y, hy⟩ : ∃ y, y = ofL [UInt8.ofNat c] := ⟨_, rfl⟩
      have hys : y.size = 1 := by rw [hy, ofL_size]; rfl
      rw [← hy] at hcv HNX hty
      have HB2 := Lib.hid (HB.out.alloc HB.out.size (.cells #[.int .u8 (c : Int)] 5))
      have hklt : (k : Int) < 32 := by omega
      clear hy
      go_wp2_with fail
      go_roundw
      case rel => exact ⟨k + 1, t ++ y, by omega, rfl, by go_num, HNX, hty, HB2⟩
      case measure => simp [intOf]; omega
    · obtain rfl : k = 32 := by omega
      have HZ := Lib.hid (HRZ.out _ HB.out)
      have z0 := HZ.out.cell 0
      have z1 := HZ.out.cell 1
      have z2 := HZ.out.cell 2
      have d0 := HZ.out.frozen 0
      have d1 := HZ.out.frozen 1
      have d2 := HZ.out.frozen 2
      simp only [List.getElem?_toArray, List.getElem?_cons_zero, List.getElem?_cons_succ] at z0 z1 z2
      go_wp2_with fail
      try simp only [Exit.inBlock, Exit.then]
      exact rec6_ret rfl _ _ (blk_rec HZ.out rfl _ _ _) rfl ⟨by rw [HT.out]; rfl, bel_rec (HZB.out.trans (HB.out.mono HZB.out.size)) (Nat.le_refl _) _ _ _⟩

set_option maxRecDepth 100000 in
set_option maxHeartbeats 4000000 in
theorem lhas_f (l : List Rec) (r : Rec) (hv : ∀ x ∈ l, Val x) (hr : Val r) (w : World) (A : Option Addr) (c : Nat) (h : Rcs w A c l) (hl : l.length ≤ 100000) :
    Calls Tryd.prog 24 #[.slice A l.length c, rv r] w fun e w' => e = .returned (.bool (has l (key r))) ∧ Below w.heap.size w w' := by
  have HKR := Lib.hid (fun W => rkey_f r hr W)
  have HK := Lib.hid (fun k (hk : k < l.length) W => rkey_f l[k] (hv _ (List.getElem_mem hk)) W)
  have HRC := Lib.hid (fun W (hb : Below w.heap.size w W) => h.below hb)
  have HY := Lib.hid (fun k (hk : k < l.length) => (show key l[k] = key r → has l (key r) = true from fun e => has_iff.2 ⟨_, List.getElem_mem hk, e⟩))
  have HS := Lib.hid (fun i (hi : i < l.length) => (show (∀ x ∈ l.take i, key x ≠ key r) → key l[i] ≠ key r → ∀ x ∈ l.take (i + 1), key x ≠ key r from fun h1 h2 x hx => by
    rw [List.take_succ_eq_append_getElem hi] at hx
    rcases List.mem_append.1 hx with hx | hx
    · exact h1 x hx
    · rw [List.mem_singleton] at hx; rw [hx]; exact h2))
  have HE := Lib.hid (show (∀ x ∈ l.take l.length, key x ≠ key r) → has l (key r) = false from fun h1 => by
    rw [List.take_length] at h1
    exact has_not.2 h1)
  have hcm : c ≤ 9223372036854775807 := h.max
  have hlc := h.le
  obtain ⟨n, hnn⟩ : ∃ n, n = l.length := ⟨_, rfl⟩
  have HN := Lib.hid hnn
  rw [← hnn] at hl hlc HE ⊢
  obtain ⟨q, hq⟩ : ∃ q, q = has l (key r) := ⟨_, rfl⟩
  rw [← hq] at HY HE ⊢
  clear hnn hv hr h hq
  unfold rv at HKR ⊢
  go_enter Tryd.func24, Tryd.ntmps24
  have HRB := Lib.hid (fun W (k : Below (w.alloc (.cells (rc r).toArray 42)).heap.size (w.alloc (.cells (rc r).toArray 42)) W) => (Blk.new w 42 (rc r).toArray).below k)
  have HB0 := Lib.hid ((Below.refl w.heap.size w).alloc (Nat.le_refl _) (.cells (rc r).toArray 42))
  go_wp2_with fail
  obtain ⟨w2, hw2⟩ : ∃ x, x = w.alloc (.cells #[.int .u32 (r.a : Int), .int .i64 (r.s : Int), .string (ofL r.d)] 42) := ⟨_, rfl⟩
  have HRB2 := Lib.hid (fun W (k : Below w2.heap.size w2 W) => (show Blk W w.heap.size 42 (rc r).toArray by rw [hw2] at k; exact HRB.out W k))
  have HB2 := Lib.hid (show Below w.heap.size w w2 by rw [hw2]; exact HB0.out)
  rw [← hw2]
  clear hw2 HRB HB0
  go_loopw [9] (fun x W => ∃ i : Nat, i ≤ n ∧ x = .int .i64 (i : Int) ∧ Hid (∀ x ∈ l.take i, key x ≠ key r) ∧ Hid (Below w2.heap.size w2 W)) (fun x _ => n - (intOf x).toNat)
  case atStart => exact ⟨0, Nat.zero_le _, rfl, Lib.hid (by simp), Lib.hid (Below.refl _ _)⟩
  case round =>
    obtain ⟨k, hk, rfl, HNO, HB⟩ := hrel
    by_cases hkn : k < n
    · have hkl : k < l.length := by rw [← HN.out]; exact hkn
      obtain ⟨g, o, rfl, hat⟩ := (HRC.out _ (HB2.out.trans (HB.out.mono HB2.out.size))).mem (by omega)
      obtain ⟨c0, c1, c2⟩ := hat.2 k hkl
      have HKX := Lib.hid (HK.out k hkl)
      have HYX := Lib.hid (HY.out k hkl)
      have HSX := Lib.hid (HS.out k hkl)
      obtain ⟨x, hr⟩ : ∃ r, l[k] = r := ⟨_, rfl⟩
      rw [hr] at c0 c1 c2 HKX HYX HSX
      clear hat hr
      have HXa := Lib.hid (Blk.new wr 42 (rc x).toArray)
      have HRa := Lib.hid ((HRB2.out _ HB.out).alloc (.cells (rc x).toArray 42))
      have HBa := Lib.hid (HB.out.alloc HB.out.size (.cells (rc x).toArray 42))
      obtain ⟨W1, hW1⟩ : ∃ V, V = wr.alloc (.cells #[.int .u32 (x.a : Int), .int .i64 (x.s : Int), .string (ofL x.d)] 42) := ⟨_, rfl⟩
      have HW1 := Lib.hid hW1
      obtain ⟨gx, hgx⟩ : ∃ g, g = wr.heap.size := ⟨_, rfl⟩
      have HGX := Lib.hid hgx
      have HXd := Lib.hid (show Blk W1.drew gx 42 (rc x).toArray by rw [HW1.out, HGX.out]; exact HXa.out)
      have HRd := Lib.hid (show Blk W1.drew w.heap.size 42 (rc r).toArray by rw [HW1.out]; exact HRa.out)
      have HBd := Lib.hid (show Below w2.heap.size w2 W1.drew by rw [HW1.out]; exact below_drewN HBa.out 1)
      unfold rv at HKX
      go_wp2_with fail
      rw [← hW1, ← hgx]
      clear hW1 hgx HXa HRa HBa HGX HW1 c0 c1 c2
      go_region_held3 (fun V => V.cell? ⟨gx, 0, none⟩ = some (.int .u32 (x.a : Int)) ∧ V.cell? ⟨gx, 1, none⟩ = some (.int .i64 (x.s : Int)) ∧ V.cell? ⟨gx, 2, none⟩ = some (.string (ofL x.d)) ∧ V.cell? ⟨w.heap.size, 0, none⟩ = some (.int .u32 (r.a : Int)) ∧ V.cell? ⟨w.heap.size, 1, none⟩ = some (.int .i64 (r.s : Int)) ∧ V.cell? ⟨w.heap.size, 2, none⟩ = some (.string (ofL r.d)))
        (first | exact ⟨(HXd.out).cell 0, (HXd.out).cell 1, (HXd.out).cell 2, (HRd.out).cell 0, (HRd.out).cell 1, (HRd.out).cell 2⟩ | exact ⟨((HXd.out).below HB4.out).cell 0, ((HXd.out).below HB4.out).cell 1, ((HXd.out).below HB4.out).cell 2, ((HRd.out).below HB4.out).cell 0, ((HRd.out).below HB4.out).cell 1, ((HRd.out).below HB4.out).cell 2⟩ | exact ⟨(((HXd.out).below HB4.out).below HB5.out).cell 0, (((HXd.out).below HB4.out).below HB5.out).cell 1, (((HXd.out).below HB4.out).below HB5.out).cell 2, (((HRd.out).below HB4.out).below HB5.out).cell 0, (((HRd.out).below HB4.out).below HB5.out).cell 1, (((HRd.out).below HB4.out).below HB5.out).cell 2⟩)
        (first
          | (go_at_call 32; (with_reducible refine (HKX.out _).mono ?_); rintro e w4 ⟨rfl, hb4⟩; have HB4 := Lib.hid hb4; clear hb4)
          | (go_at_call 32; (with_reducible refine (HKR.out _).mono ?_); rintro e w5 ⟨rfl, hb5⟩; have HB5 := Lib.hid hb5; clear hb5))
      have hA4 := HBd.out.trans (HB4.out.mono HBd.out.size)
      have HB9 := Lib.hid (hA4.trans (HB5.out.mono hA4.size))
      clear hA4
      by_cases q1 : key x = key r
      · have f1 : ((ofL (key x)).toList == (ofL (key r)).toList) = true := by rw [q1]; simp
        have f2 : (ofL (key x)).toList = (ofL (key r)).toList := by rw [q1]
        have HA := Lib.hid (HYX.out q1)
        clear q1
        simp only [f1]
        go_wp2_with fail
        go_ret
        exact ⟨by rw [HA.out]; rfl, HB2.out.trans (HB9.out.mono HB2.out.size)⟩
      · have f1 := tl_neq q1
        have f2 := tl_neq' q1
        have HA := Lib.hid (HSX.out HNO.out q1)
        clear q1
        simp only [f1]
        go_wp2_with fail
        go_roundw
        case rel => exact ⟨k + 1, by omega, by go_num, HA, HB9⟩
        case measure => simp [intOf]; omega
    · obtain rfl : n = k := by omega
      have HA := Lib.hid (HE.out HNO.out)
      go_wp2_with fail
      go_ret
      exact ⟨by rw [HA.out]; rfl, HB2.out.trans (HB.out.mono HB2.out.size)⟩
end Rc
end Go.Proofs.YtnllocghmnhooaaDoor
