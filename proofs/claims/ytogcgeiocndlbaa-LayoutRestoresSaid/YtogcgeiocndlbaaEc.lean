/- Words for slices of one-cell elements; walks of the program's interpolator, of the function that it hands back, and of indices. -/
import Derived.Test.YtogcgeiocndlbaaEb
import Derived.Deep.RegionWith
namespace Go.Proofs.Ytogcgeiocndlbaa
open Go.RowKit

/-- a slice whose elements fill one cell each -/
def Lst {α : Type} (f : α → Value) (w : World) (A : Option Addr) (n c : Nat) (l : List α) : Prop := Sl w 1 A n c (l.map f)
section
variable {α : Type} {f : α → Value} {w w' : World} {A : Option Addr} {n c : Nat} {l : List α}
theorem Lst.len (h : Lst f w A n c l) : n = l.length := by have := h.2.2.1; rw [List.length_map] at this; omega
theorem Lst.at_ (h : Lst f w A n c l) {k : Nat} (hk : k < l.length) : ∃ ad, A = some ad ∧ ad.block < w.heap.size ∧ w.cell? (ad.add k) = some (f l[k]) := by
  obtain ⟨ad, u, e, hb, hx, hc⟩ := Sl.at_ h (by rw [h.len]; exact hk)
  rw [List.getElem?_map, List.getElem?_eq_getElem hk] at hx
  injection hx with hx
  subst hx
  exact ⟨ad, e, hb, hc⟩
theorem Lst.below (h : Lst f w A n c l) (hb : Below w.heap.size w w') : Lst f w' A n c l := Sl.below h hb
theorem Lst.drewN (h : Lst f w A n c l) (k : Nat) : Lst f (w.drewN k) A n c l := h
theorem Lst.dr (h : Lst f w A n c l) (k : Dr w w') : Lst f w' A n c l := k.sl h
theorem Lst.alloc (h : Lst f w A n c l) (o : Obj) : Lst f (w.alloc o) A n c l := Sl.alloc h o
theorem Lst.heap_ (h : Lst f w A n c l) (e : w'.heap = w.heap) : Lst f w' A n c l := Sl.keep h (by rw [e]; exact Nat.le_refl _) (fun k _ => by rw [e])
theorem Lst.nil_ (w : World) : Lst f w none 0 0 [] := Sl.nil_ w 1
theorem Lst.take (h : Lst f w A n c l) {k : Nat} (hk : k ≤ n) : Lst f w A k c (l.take k) := by
  have := Sl.take h hk
  rw [Nat.mul_one, ← List.map_take] at this
  exact this
theorem Lst.drop (h : Lst f w A n c l) {k : Nat} (hk : k ≤ n) : Lst f w (if c = k then A else A.map (·.add k)) (n - k) (c - k) (l.drop k) := by
  have := Sl.drop h hk
  rw [Nat.mul_one, ← List.map_drop] at this
  exact this
theorem lst_own {base : Nat} {e : TypeId} {v : Value} (h : w.ownsRow base e 1 v n (l.map f)) : ∃ A c, v = .slice A n c ∧ Lst f w A n c l ∧ ∀ ad, A = some ad → base ≤ ad.block := own_form h
end
/-- what a call that hands back a slice of one-cell elements of its own leaves -/
def GivesL {α : Type} (e : TypeId) (f : α → Value) (w : World) (l : List α) (en : Ending) (w' : World) : Prop := ∃ v, en = .returned v ∧ w'.ownsRow w.heap.size e 1 v l.length (l.map f) ∧ Below w.heap.size w w'

/-- the weights, of which the first k are filled in -/
def wts (xs : List UInt8) (x : UInt8) (k : Nat) : List UInt8 := (List.range xs.length).map fun j => if j < k then wgt xs j x else 0
theorem wts_len (xs : List UInt8) (x : UInt8) (k : Nat) : (wts xs x k).length = xs.length := by simp [wts]
theorem wts_start (xs : List UInt8) (x : UInt8) : wts xs x 0 = List.replicate xs.length 0 := by
  refine List.ext_getElem (by simp [wts]) fun j h1 h2 => ?_
  simp [wts]
theorem wts_set {xs : List UInt8} {x : UInt8} {k : Nat} : (wts xs x k).set k (wgt xs k x) = wts xs x (k + 1) := by
  refine List.ext_getElem (by simp [wts]) fun j h1 h2 => ?_
  rw [List.getElem_set]
  simp only [wts, List.getElem_map, List.getElem_range]
  by_cases h : k = j
  · subst h; rw [if_pos rfl, if_pos (by omega)]
  · rw [if_neg h]
    by_cases h2 : j < k
    · rw [if_pos h2, if_pos (by omega)]
    · rw [if_neg h2, if_neg (by omega)]
theorem wts_at {xs : List UInt8} {x : UInt8} {j k : Nat} (h : j < (wts xs x k).length) (hk : j < k) : (wts xs x k)[j] = wgt xs j x := by
  simp only [wts, List.getElem_map, List.getElem_range]
  rw [if_pos hk]

theorem bcell {W w1 : World} (hb : Below W.heap.size W w1) : (∀ b o, b < W.heap.size → w1.cell? ⟨b, o, none⟩ = W.cell? ⟨b, o, none⟩) ∧ (∀ b o, b < W.heap.size → w1.frozen? ⟨b, o, none⟩ = W.frozen? ⟨b, o, none⟩) :=
  ⟨fun b o h => hb.cell (p := ⟨b, o, none⟩) h, fun b o h => hb.frozen (p := ⟨b, o, none⟩) h⟩

/-- the function value that computes the block at x from the blocks at xs -/
def IsInt (xs : List UInt8) (x : UInt8) (fv : Value) (w : World) : Prop :=
  ∃ g Aw nw cw, fv = .func (.func 55) #[] #[.pointer (some ⟨g, 0, none⟩)] ∧ Blk w g 57 #[.slice Aw nw cw] ∧ Byt w Aw nw cw (wts xs x xs.length)
def GivesF (xs : List UInt8) (x : UInt8) (w : World) (e : Ending) (w' : World) : Prop := ∃ fv, e = .returned fv ∧ IsInt xs x fv w' ∧ Below w.heap.size w w'

set_option maxRecDepth 100000 in
set_option maxHeartbeats 1000000 in
theorem interp_f (w : World) (A : Option Addr) (n c : Nat) (xs : List UInt8) (x : UInt8) (h : Byt w A n c xs) (hl : xs.length ≤ 64) :
    Calls Try.prog 39 #[.slice A n c, .int .u8 (x.toNat : Int)] w (GivesF xs x w) := by
  obtain ⟨i0, hi, hz0, hz1, hz2⟩ := info_parts info_u8
  have hn := h.len
  have hlc : n ≤ c := h.1
  have hcm : c ≤ 9223372036854775807 := h.2.1
  have hbd : n ≤ 64 := by omega
  have hmk := run_make_blk (P := Try.prog) w 57 5 i0 (.int .u8 0) Try.underlying57 hi hz0 .i64 .i64 n (by rw [hz2]; omega) (by omega)
  rw [hz1] at hmk
  have hblk0 := Blk.new w 5 (madeCells (Value.int .u8 0).cells (n * 1))
  have hmt := made_bytes n
  generalize madeCells (Value.int .u8 0).cells (n * 1) = mc at *
  have HBK := Lib.hid (show Blk (w.alloc (.cells mc 5)) w.heap.size 5 (bv (wts xs x 0)).toArray by
    rw [show (bv (wts xs x 0)).toArray = mc by rw [wts_start, ← hn, ← hmt]]; exact hblk0)
  have H := Lib.hid h
  have HN := Lib.hid hn
  clear h hn hl hmt hblk0 hi hz0 hz1 hz2
  go_enter Try.func39, Try.ntmps39
  go_wp2
  clear hmk
  go_loopw [15] (fun i wr => ∃ k : Nat, k ≤ n ∧ i = .int .i64 (k : Int) ∧ Blk wr w.heap.size 5 (bv (wts xs x k)).toArray ∧ Blk wr (w.heap.size + 1) 57 #[.slice (some ⟨w.heap.size, 0, none⟩) n n] ∧ Below w.heap.size w wr) (fun i _ => n - (intOf i).toNat)
  case atStart => exact ⟨0, by omega, rfl, HBK.out.alloc _, by have := Blk.new (w.alloc (.cells mc 5)) 57 #[.slice (some ⟨w.heap.size, 0, none⟩) n n]; simpa using this, ((Below.refl _ w).alloc (Nat.le_refl _) _).alloc (by simp) _⟩
  case round =>
    obtain ⟨k, hk, rfl, hbw, hbv, hb⟩ := hrel
    clear HBK
    have HBW := Lib.hid hbw
    have HBV := Lib.hid hbv
    have HB := Lib.hid hb
    have HX := Lib.hid (H.out.below hb)
    clear hbw hb
    by_cases hlt : k < n
    · have hkx : k < xs.length := by rw [← HN.out]; omega
      obtain ⟨wo, rfl⟩ : ∃ wo : World, wo = wr := ⟨_, rfl⟩
      go_wp2
      go_loopw [7, 8, 20] (fun a b i wq => ∃ m : Nat, m ≤ n ∧ i = .int .i64 (m : Int) ∧ a = .int .u8 ((wab xs k x m).1.toNat : Int) ∧ b = .int .u8 ((wab xs k x m).2.toNat : Int) ∧ Dr wo wq) (fun _ _ i _ => n - (intOf i).toNat)
      case atStart => exact ⟨0, by omega, rfl, rfl, rfl, Dr.refl _⟩
      case round =>
        obtain ⟨m, hm, rfl, rfl, rfl, hd⟩ := hrel
        have HD := Lib.hid hd
        have HXq := Lib.hid (HX.out.dr hd)
        clear hbv
        by_cases hlt2 : m < n
        · have hmx : m < xs.length := by rw [← HN.out]; omega
          obtain ⟨ad, rfl, _, hcm'⟩ := Byt.at_ HXq.out hmx
          obtain ⟨_, e1, _, hck'⟩ := Byt.at_ HXq.out hkx
          injection e1 with e1
          subst e1
          by_cases hmk : m = k
          · have hne : ((m : Int) != (k : Int)) = false := by simp; omega
            have HS := Lib.hid (wab_skip (xs := xs) (x := x) hmk)
            clear hmk hcm' hck'
            go_wp2
            go_roundw
            case rel => exact ⟨m + 1, by omega, by go_num, by rw [HS.out], by rw [HS.out], HD.out⟩
            case measure => simp [intOf]; omega
          · have hne : ((m : Int) != (k : Int)) = true := by simp; omega
            have HS := Lib.hid (wab_step (x := x) hmx hkx hmk)
            clear hmk
            go_wp2_with (first | (go_at_call 52; refine (gmul_b _ _ _).mono ?_; rintro e w1 ⟨rfl, rfl⟩) | (go_at_call 53; refine (gadd_b _ _ _).mono ?_; rintro e w1 ⟨rfl, rfl⟩))
            go_quiet ((first | (go_at_call 52; exact Calls.quiet_of_same (gmul_b _ _ _)) | (go_at_call 53; exact Calls.quiet_of_same (gadd_b _ _ _))))
            go_wp2
            go_roundw
            case rel => exact ⟨m + 1, by omega, by go_num, by rw [HS.out], by rw [HS.out], HD.out.drewN _⟩
            case measure => simp [intOf]; omega
        · have HM := Lib.hid (show m = xs.length by rw [← HN.out]; omega)
          have HBWq := Lib.hid (show Blk wr w.heap.size 5 (bv (wts xs x k)).toArray from HBW.out.below (hd.below _))
          have HBVq := Lib.hid (show Blk wr (w.heap.size + 1) 57 #[.slice (some ⟨w.heap.size, 0, none⟩) n n] from HBV.out.below (hd.below _))
          have hcv := HBVq.out.cell 0
          have hcw := HBWq.out.cell k
          rw [bv_cell _ (by rw [wts_len]; exact hkx)] at hcw
          have hfw := HBWq.out.frozen k
          have hlw := HBWq.out.lt
          have hlv := HBVq.out.lt
          unfold B at hcw
          go_wp2
          go_region_with (first | (go_at_call 54; (with_reducible refine (gdiv_b _ _ _).mono ?_); rintro e w1 ⟨rfl, hb1⟩; have hcv1 := (Blk.below HBVq.out.drew hb1).cell 0; have hcw1 := (Blk.below HBWq.out.drew hb1).cell k; rw [bv_cell _ (by rw [wts_len]; exact hkx)] at hcw1; unfold B at hcw1; have hfw1 := (Blk.below HBWq.out.drew hb1).frozen k; have HB1 := Lib.hid hb1; clear hb1))
          all_goals
            go_wp2
            go_roundw
            case rel => exact ⟨k + 1, by omega, by go_num, by rw [← wts_set, bv_set]; unfold wgt; rw [← HM.out]; exact (HBWq.out.drew.below HB1.out).set_ k _, (HBVq.out.drew.below HB1.out).far (by simp) _, (HB.out.trans ((hd.below _).trans ((Below.refl _ _).drew.trans (HB1.out.mono (by have := HB.out.size; have := (hd.below wo.heap.size).size; simp; omega)))) |>.setCell (Nat.le_refl _) _)⟩
            case measure => simp [intOf]; omega
    · have HK := Lib.hid (show k = xs.length by rw [← HN.out]; omega)
      clear hbv
      go_wp2
      go_ret
      refine ⟨_, rfl, ⟨_, _, _, _, rfl, HBV.out, ?_⟩, HB.out⟩
      rw [← HK.out]
      exact Blk.byt HBW.out (by rw [wts_len, ← HN.out]) (by unfold maxLen; omega)

end Go.Proofs.Ytogcgeiocndlbaa
