/- Walk of erasure.Encode. -/
import Derived.Test.YtogcgeiocndlbaaEe
import Derived.Deep.RegionHeld3
import Derived.Deep.AppendLies
namespace Go.Proofs.Ytogcgeiocndlbaa
open Go.RowKit

/-- append(s, y) at a step of a region that draws its order -/
theorem step_push {P : Program} {t e : TypeId} {z : Value} {bytes : Nat} (T : OneTy P t e z bytes) {w : World} {ops : Array Oper} {o : Oper} {a : Act} {K : Act → World → Prop} {Q : Exit → Act → World → Prop} {E : Prop} (hgd : o.guard = none) (s x : Operand)
    (ho : o.op = .call { callee := .builtin .append, args := #[s, x], argTypes := #[t, t] })
    (base : Nat) (v : Value) (n : Nat) (xs : List Value) (hs : a.eval s = v) (hown : w.ownsRow base e 1 v n xs)
    (g : Nat) (y : Value) (hx : a.eval x = .slice (some ⟨g, 0, none⟩) 1 1) (hblk : Blk w g e #[y]) (hy : y.oneCell' = true) (hbase : base ≤ w.heap.size) (h63 : n + 1 ≤ maxLen) (hbytes : (n + 1) * bytes ≤ 140737488355328)
    (h : ∀ v' w', w'.ownsRow base e 1 v' (n + 1) (xs ++ [y]) → w.grownBy w' v.ownBlock → (v'.ownBlock = v.ownBlock ∨ v'.ownBlock = some w.heap.size) → K (a.put o.dst v') w') :
    if Region.wanted o (yielded ops a.tmps) = true then Oper.wp P o a w K Q else E := by
  have hw : Region.wanted o (yielded ops a.tmps) = true := by simp [Region.wanted, hgd]
  rw [if_pos hw]
  obtain ⟨i, hi, hz, h1, hb⟩ := T.hi
  obtain ⟨v', w', hrun, h2, h3, h4⟩ := run_append_sl (P := P) w base t o.type e i z 1 bytes T.ht hi hz h1 hb T.hz (by omega) v n xs hown (some ⟨g, 0, none⟩) 1 1 [y] (Blk.sl (n := 1) hblk rfl (by unfold maxLen; omega)) (by simpa using hy) h63 hbytes hbase
  unfold Oper.wp execOp
  simp only [ho, resolve, invoke, builtin, Sem.run_bind, Sem.run_pure, Result.andThen_ok, List.map_toArray, List.map_cons, List.map_nil, hs, hx, hrun]
  exact h v' w' h2 h3 h4

theorem info_str : (Try.prog.info? 9).map (fun i => (i.zero, i.size, i.bytes)) = some (some (.string ⟨#[]⟩), 1, 16) := by kernel_rfl
theorem ty_str : OneTy Try.prog 40 9 (.string ⟨#[]⟩) 16 := ⟨Try.underlying40, info_parts info_str, rfl⟩

def unev (ds : List ByteArray) (s : ByteArray) : Bool := decide (s.size ≠ (ds.getD 0 default).size)
def encE (ds : List ByteArray) (spare : Int) : Int :=
  if ds.length = 0 ∨ spare < 0 ∨ 15 < ds.length ∨ 15 - (ds.length : Int) < spare then 1
  else if ds.any (unev ds) then 1 else 0
def spr (ds : List ByteArray) (i : Nat) : ByteArray := ofL (blk (idx ds.length) (ds.map bl) (UInt8.ofNat (ds.length + i)))
def sprs (ds : List ByteArray) (k : Nat) : List ByteArray := (List.range k).map (spr ds)
theorem sprs_succ (ds : List ByteArray) (k : Nat) : sprs ds (k + 1) = sprs ds k ++ [spr ds k] := by simp [sprs, List.range_succ]
theorem sprs_len (ds : List ByteArray) (k : Nat) : (sprs ds k).length = k := by simp [sprs]
def encB (ds : List ByteArray) (spare : Int) : List ByteArray := if encE ds spare = 0 then sprs ds spare.toNat else []

def GivesLE {α : Type} (t : TypeId) (f : α → Value) (w : World) (l : List α) (er : Int) (e : Ending) (w' : World) : Prop :=
  ∃ v, e = .returned (.tuple #[v, .int .i64 er]) ∧ w'.ownsRow w.heap.size t 1 v l.length (l.map f) ∧ Below w.heap.size w w'

theorem unev_b (ds : List ByteArray) (w : World) (A : Option Addr) (n c : Nat) (h : Lst Value.string w A n c ds) (g : Nat) (hb : Blk w g 40 #[.slice A n c]) (hpos : 0 < ds.length) (s : ByteArray) :
    Answers 37 #[.pointer (some ⟨g, 0, none⟩)] (.string s) (unev ds s) w := by
  intro W hB
  obtain ⟨ad, rfl, _, hc⟩ := (h.below hB).at_ hpos
  rw [show ad.add 0 = ad from rfl] at hc
  have hn := h.len
  have hn0 : 0 < n := by omega
  have hcv := (hb.below hB).cell 0
  have hu : unev ds s = ((s.size : Int) != (ds[0].size : Int)) := by
    unfold unev
    rw [show ds.getD 0 default = ds[0] by simp [List.getD, List.getElem?_eq_getElem hpos]]
    rw [Bool.eq_iff_iff]; simp; omega
  have HU := Lib.hid hu
  clear hu hn h hb
  go_enter Try.func37, Try.ntmps37
  go_wp2
  go_ret
  exact ⟨by rw [HU.out]; rfl, Below.refl _ _⟩

set_option maxRecDepth 100000 in
set_option maxHeartbeats 1000000 in
theorem encode_bad1 (w : World) (A : Option Addr) (n c : Nat) (ds : List ByteArray) (h : Lst Value.string w A n c ds) (spare : Int) (hs : IntKind.i64.min ≤ spare ∧ spare ≤ IntKind.i64.max)
    (hbad : ds.length = 0 ∨ spare < 0 ∨ 15 < ds.length ∨ 15 - (ds.length : Int) < spare) :
    Calls Try.prog 25 #[.slice A n c, .int .i64 spare] w (GivesLE 9 Value.string w ([] : List ByteArray) 1) := by
  have hn := h.len
  have hlc : n ≤ c := h.1
  have hcm : c ≤ 9223372036854775807 := h.2.1
  rw [← hn] at hbad
  clear hn h
  have hs1 : -9223372036854775808 ≤ spare := hs.1
  have hs2 : spare ≤ 9223372036854775807 := hs.2
  clear hs
  have hcz := Blk.new w 40 #[.slice A n c]
  have hcv := hcz.cell 0
  clear hcz
  by_cases h1 : n = 0
  · have e1 : ((n : Int) == 0) = true := by simp; omega
    go_enter Try.func25, Try.ntmps25
    go_wp2
    go_ret2
    exact ⟨_, rfl, World.ownsRow_nil _ _ _ _, (Below.refl _ w).alloc (Nat.le_refl _) _⟩
  · have e1 : ((n : Int) == 0) = false := by simp; omega
    by_cases h2 : spare < 0
    · go_enter Try.func25, Try.ntmps25
      go_wp2
      go_ret2
      exact ⟨_, rfl, World.ownsRow_nil _ _ _ _, (Below.refl _ w).alloc (Nat.le_refl _) _⟩
    · by_cases h3 : 15 < n
      · go_enter Try.func25, Try.ntmps25
        go_wp2
        go_ret2
        exact ⟨_, rfl, World.ownsRow_nil _ _ _ _, (Below.refl _ w).alloc (Nat.le_refl _) _⟩
      · have h4 : 15 - (n : Int) < spare := by omega
        clear hbad
        go_enter Try.func25, Try.ntmps25
        go_wp2
        go_ret2
        exact ⟨_, rfl, World.ownsRow_nil _ _ _ _, (Below.refl _ w).alloc (Nat.le_refl _) _⟩

set_option maxRecDepth 100000 in
set_option maxHeartbeats 1000000 in
theorem encode_bad2 (w : World) (A : Option Addr) (n c : Nat) (ds : List ByteArray) (h : Lst Value.string w A n c ds) (spare : Int) (h1 : 0 < ds.length) (h2 : 0 ≤ spare) (h3 : ds.length ≤ 15) (h4 : spare ≤ 15 - (ds.length : Int))
    (hbad : ds.any (unev ds) = true) :
    Calls Try.prog 25 #[.slice A n c, .int .i64 spare] w (GivesLE 9 Value.string w ([] : List ByteArray) 1) := by
  have hn := h.len
  have hlc : n ≤ c := h.1
  have hcm : c ≤ 9223372036854775807 := h.2.1
  have e1 : ((n : Int) == 0) = false := by simp; omega
  have HD := Lib.hid hbad
  have HA := Lib.hid (h.alloc (.cells #[.slice A n c] 40))
  have HBv := Lib.hid (Blk.new w 40 #[.slice A n c])
  have eg := enters_of Try.func37 (by kernel_rfl) rfl
  have HC := Lib.hid (contf_s _ _ eg _ A n c ds HA.out (unev ds) fun k hk => unev_b ds _ A n c HA.out w.heap.size HBv.out h1 _)
  rw [← hn] at h1 h3 h4
  clear hn h hbad eg
  have hcv := HBv.out.cell 0
  go_enter Try.func25, Try.ntmps25
  go_wp2_with fail
  refine HC.out.mono ?_
  rw [HD.out]
  rintro e w1 ⟨rfl, hb⟩
  have HB := Lib.hid (((Below.refl w.heap.size w).alloc (Nat.le_refl _) _).trans (hb.mono (by simp)))
  clear hb
  go_wp2
  go_ret2
  exact ⟨_, rfl, World.ownsRow_nil _ _ _ _, HB.out⟩

theorem even_sizes {ds : List ByteArray} {L : Nat} (h0 : ds.any (unev ds) = false) (hL : (ds.getD 0 default).size = L) : ∀ b ∈ ds, b.size = L := fun b hb => by
  rw [List.any_eq_false] at h0
  have := h0 b hb
  unfold unev at this
  simp only [decide_eq_true_eq, ne_eq, Classical.not_not] at this
  rw [this]; exact hL

set_option maxRecDepth 100000 in
set_option maxHeartbeats 2000000 in
theorem encode_ok (w : World) (A : Option Addr) (n c : Nat) (ds : List ByteArray) (h : Lst Value.string w A n c ds) (s : Nat) (h1 : 0 < ds.length) (h3 : ds.length ≤ 15) (h4 : (s : Int) ≤ 15 - (ds.length : Int))
    (hok : ds.any (unev ds) = false) (L : Nat) (hL : L ≤ 65536) (h0 : (ds.getD 0 default).size = L) :
    Calls Try.prog 25 #[.slice A n c, .int .i64 (s : Int)] w (GivesLE 9 Value.string w (sprs ds s) 0) := by
  have hn := h.len
  have hlc : n ≤ c := h.1
  have hcm : c ≤ 9223372036854775807 := h.2.1
  have e1 : ((n : Int) == 0) = false := by simp; omega
  have HSZ := Lib.hid (even_sizes hok h0)
  have HD := Lib.hid hok
  have HA := Lib.hid (h.alloc (.cells #[.slice A n c] 40))
  have HBv := Lib.hid (Blk.new w 40 #[.slice A n c])
  have eg := enters_of Try.func37 (by kernel_rfl) rfl
  have HC := Lib.hid (contf_s _ _ eg _ A n c ds HA.out (unev ds) fun k hk => unev_b ds _ A n c HA.out w.heap.size HBv.out h1 _)
  have HN := Lib.hid hn
  have HL0 := Lib.hid (show 0 < ds.length from h1)
  rw [← hn] at h1 h3 h4
  clear hn h hok eg h0
  have hcv := HBv.out.cell 0
  go_enter Try.func25, Try.ntmps25
  go_wp2_with fail
  refine HC.out.mono ?_
  rw [HD.out]
  rintro e w1 ⟨rfl, hb⟩
  have HB1 := Lib.hid (((Below.refl w.heap.size w).alloc (Nat.le_refl _) _).trans (hb.mono (by simp)))
  have HA1 := Lib.hid (HA.out.below hb)
  have HV1 := Lib.hid (HBv.out.below hb)
  have hcv1 := HV1.out.cell 0
  clear hb hcv
  go_wp2_with fail
  refine (indices_b n (by omega) _).mono ?_
  rintro e w2 ⟨v2, rfl, hown2, hb2⟩
  rw [idx_len] at hown2
  obtain ⟨A2, c2, rfl, hx2, _⟩ := byt_own hown2
  have HX2 := Lib.hid hx2
  have HB2 := Lib.hid (HB1.out.trans (hb2.mono HB1.out.size))
  have HA2 := Lib.hid (HA1.out.below hb2)
  have HV2 := Lib.hid (HV1.out.below hb2)
  have hlt2 := HV2.out.lt
  clear hown2 hb2 hx2 hcv1
  go_wp2
  go_loopw [7, 35] (fun vo i wr => ∃ k : Nat, k ≤ s ∧ i = .int .i64 (k : Int) ∧ wr.ownsRow w2.heap.size 9 1 vo k ((sprs ds k).map Value.string) ∧ Below w2.heap.size w2 wr) (fun _ i _ => s - (intOf i).toNat)
  case atStart => exact ⟨0, by omega, rfl, World.ownsRow_nil _ _ _ _, Below.refl _ w2⟩
  case round =>
    obtain ⟨k, hk, rfl, hown, hb⟩ := hrel
    have HO := Lib.hid hown
    have HB := Lib.hid hb
    have HX := Lib.hid (HX2.out.below hb)
    have HAr := Lib.hid (HA2.out.below hb)
    have HVr := Lib.hid (HV2.out.below hb)
    have hbs := hb.size
    clear hown hb
    by_cases hlt : k < s
    · have hcv := HVr.out.cell 0
      have HS := Lib.hid (sprs_succ ds k)
      have hk1 : k + 1 ≤ maxLen := by unfold maxLen; omega
      have hk2 : (k + 1) * 16 ≤ 140737488355328 := by omega
      have HNE := Lib.hid (show u7.ownBlock ≠ some w.heap.size from fun e => by have := (HO.out.lt _ e).1; omega)
      obtain ⟨y, hy⟩ : ∃ y, y = UInt8.ofNat (n + k) := ⟨_, rfl⟩
      have HCI := Lib.hid (fun (W : World) (hW : Byt W A2 n c2 (idx n)) => show Calls Try.prog 39 #[.slice A2 n c2, .int .u8 ((n : Int) + (k : Int))] W (GivesF (idx n) y W) by
        have := interp_f W A2 n c2 (idx n) (UInt8.ofNat (n + k)) hW (by rw [idx_len]; omega)
        rw [hy]
        rwa [show ((UInt8.ofNat (n + k)).toNat : Int) = (n : Int) + (k : Int) by rw [UInt8.toNat_ofNat', Nat.mod_eq_of_lt (by omega)]; omega] at this)
      have HCJ := Lib.hid (fun (W : World) (g : Nat) (Aw : Option Addr) (nw cw : Nat) (hW : Lst Value.string W A n c ds) (hv : Blk W g 57 #[.slice Aw nw cw]) (hw : Byt W Aw nw cw (wts (idx n) y (idx n).length)) =>
        show Calls Try.prog 55 #[.slice A n c, .pointer (some ⟨g, 0, none⟩)] W fun e w' => e = .returned (.string (spr ds k)) ∧ Below W.heap.size W w' by
        have := interp1_f W A n c ds hW (idx n) y (by rw [idx_len, HN.out]) (by rw [idx_len]; exact h1) (by rw [idx_len]; omega) L hL HSZ.out g Aw nw cw hv hw
        unfold spr
        rw [← HN.out, ← hy]
        exact this)
      clear hy
      have hwr1 : IntKind.i64.wrap ((n : Int) + (k : Int)) = (n : Int) + (k : Int) := IntWalk.i64_in _ (by omega)
      have hwr2 : IntKind.u8.wrap ((n : Int) + (k : Int)) = (n : Int) + (k : Int) := by rw [IntKind.wrap_u8]; omega
      go_wp2
      go_region_held3 (fun w' => w'.cell? ⟨w.heap.size, 0, none⟩ = some (.slice A n c))
        (first | go_keep | exact (Blk.below (w := wr.drew) HVr.out HB3.out).cell 0 | exact (Blk.below (Blk.below (w := wr.drew) HVr.out HB3.out) HB4.out).cell 0 | exact (Blk.grown (Blk.alloc (Blk.below (Blk.below (w := wr.drew) HVr.out HB3.out) HB4.out) _) hgrow (Ne.symm HNE.out)).cell 0)
        (first
          | (go_at_call 39; (with_reducible refine (HCI.out _ ?_).mono ?_); exact HX.out.drew; rintro e w3 ⟨fv, rfl, ⟨g, Aw, nw, cw, rfl, hbv, hbw⟩, hb3⟩; have HV3 := Lib.hid hbv; have HW3 := Lib.hid hbw; have HB3 := Lib.hid hb3; clear hbv hbw hb3)
          | (go_at_call 55; (with_reducible refine (HCJ.out _ g Aw nw cw ?_ HV3.out HW3.out).mono ?_); exact Lst.below (w := wr.drew) HAr.out HB3.out; rintro e w4 ⟨rfl, hb4⟩; have HB4 := Lib.hid hb4; clear hb4)
          | (refine step_push ty_str (by rfl) _ _ (by rfl) w2.heap.size u7 k ((sprs ds k).map Value.string) (by rfl) (own_alloc (own_below (own_below (w := wr.drew) HO.out HB3.out) HB4.out) _) _ (.string (spr ds k)) (by rfl) (Blk.new _ _ _) rfl (Nat.le_trans (Nat.le_trans hbs HB3.out.size) (Nat.le_trans HB4.out.size (Below.alloc (Below.refl _ w4) (Nat.le_refl _) _).size)) hk1 hk2 ?_; intro v' w5 hown5 hgrow _))
      clear hwr1 hwr2
      have HB5 := Lib.hid (push_below (w := w2) ((HB.out.drew.trans (HB3.out.mono (by simpa using hbs))).trans (HB4.out.mono (by have := HB3.out.size; simp at this; omega))) (by have := HB3.out.size; have := HB4.out.size; simp at *; omega) (own_below (own_below (w := wr.drew) HO.out HB3.out) HB4.out) hgrow)
      go_wp2
      go_roundw
      case rel => exact ⟨k + 1, by omega, by go_num, by rw [HS.out, List.map_append]; exact hown5, HB5.out⟩
      case measure => simp [intOf]; omega
    · have HK := Lib.hid (show k = s by omega)
      go_wp2
      go_ret2
      refine ⟨_, rfl, ?_, HB2.out.trans (HB.out.mono HB2.out.size)⟩
      rw [sprs_len, ← HK.out]
      exact own_mono HO.out HB2.out.size

theorem encode_f (w : World) (A : Option Addr) (n c : Nat) (ds : List ByteArray) (h : Lst Value.string w A n c ds) (spare : Int) (hs : IntKind.i64.min ≤ spare ∧ spare ≤ IntKind.i64.max) (hL : ∀ b ∈ ds, b.size ≤ 65536) :
    Calls Try.prog 25 #[.slice A n c, .int .i64 spare] w (GivesLE 9 Value.string w (encB ds spare) (encE ds spare)) := by
  unfold encB encE
  by_cases h1 : ds.length = 0 ∨ spare < 0 ∨ 15 < ds.length ∨ 15 - (ds.length : Int) < spare
  · rw [if_pos h1, if_neg (by decide)]
    exact encode_bad1 w A n c ds h spare hs h1
  · rw [if_neg h1]
    cases hu : ds.any (unev ds) with
    | true =>
      rw [if_pos rfl, if_neg (by decide)]
      exact encode_bad2 w A n c ds h spare (by omega) (by omega) (by omega) (by omega) hu
    | false =>
      simp only [Bool.false_eq_true, if_false, if_true]
      obtain ⟨s, rfl⟩ := Int.eq_ofNat_of_zero_le (show 0 ≤ spare by omega)
      rw [Int.toNat_natCast]
      exact encode_ok w A n c ds h s (by omega) (by omega) (by omega) hu _ (hL _ (by cases ds with | nil => simp at h1 | cons a l => simp [List.getD])) rfl

end Go.Proofs.Ytogcgeiocndlbaa
