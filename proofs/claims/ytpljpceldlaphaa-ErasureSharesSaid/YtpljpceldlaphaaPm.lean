/- Walk of the program's polynomial product. -/
import Derived.Test.YtpljpceldlaphaaPa
namespace Go.Proofs.Ytpljpceldlaphaa
open Go.RowKit

/-- row i of the product: its first k places added onto out -/
def rowIn (x : UInt8) (q : List UInt8) (i k : Nat) (out : List UInt8) : List UInt8 :=
  (List.range k).foldl (fun o t => o.set (i + t) (Gf.ga (o.getD (i + t) 0) (Gf.gm x (q.getD t 0)))) out
def mulSt (p q : List UInt8) (i : Nat) : List UInt8 := (List.range i).foldl (fun o s => rowIn (p.getD s 0) q s q.length o) (List.replicate (p.length + q.length) 0)
/-- the product of two polynomials -/
def pmul (p q : List UInt8) : List UInt8 := trim (mulSt p q p.length)
theorem rowIn_zero (x : UInt8) (q : List UInt8) (i : Nat) (out : List UInt8) : rowIn x q i 0 out = out := rfl
theorem rowIn_succ' (x : UInt8) (q : List UInt8) (i k : Nat) (out : List UInt8) :
    rowIn x q i (k + 1) out = (rowIn x q i k out).set (i + k) (Gf.ga ((rowIn x q i k out).getD (i + k) 0) (Gf.gm x (q.getD k 0))) := by
  simp [rowIn, List.range_succ]
theorem rowIn_length (x : UInt8) (q : List UInt8) (i : Nat) (out : List UInt8) : ∀ k, (rowIn x q i k out).length = out.length
  | 0 => rfl
  | k + 1 => by rw [rowIn_succ', List.length_set, rowIn_length x q i out k]
theorem mulSt_succ' (p q : List UInt8) (i : Nat) : mulSt p q (i + 1) = rowIn (p.getD i 0) q i q.length (mulSt p q i) := by
  simp [mulSt, List.range_succ]
theorem mulSt_length (p q : List UInt8) : ∀ i, (mulSt p q i).length = p.length + q.length
  | 0 => by simp [mulSt]
  | i + 1 => by rw [mulSt_succ', rowIn_length, mulSt_length p q i]
theorem getD_lt {l : List UInt8} {i : Nat} (h : i < l.length) : l.getD i 0 = l[i] := by simp [List.getD, List.getElem?_eq_getElem h]
theorem rowIn_succ {x : UInt8} {q : List UInt8} {i k : Nat} {out : List UInt8} (hk : k < q.length) (hik : i + k < out.length) :
    rowIn x q i (k + 1) out = (rowIn x q i k out).set (i + k) (Gf.ga ((rowIn x q i k out)[i + k]'(by rw [rowIn_length]; exact hik)) (Gf.gm x q[k])) := by
  rw [rowIn_succ', getD_lt hk, getD_lt (by rw [rowIn_length]; exact hik)]
theorem mulSt_succ {p q : List UInt8} {i : Nat} (hi : i < p.length) : mulSt p q (i + 1) = rowIn p[i] q i q.length (mulSt p q i) := by rw [mulSt_succ', getD_lt hi]

set_option maxRecDepth 100000 in
set_option maxHeartbeats 1000000 in
theorem pmul_b (w : World) (A : Option Addr) (n c : Nat) (p : List UInt8) (A' : Option Addr) (n' c' : Nat) (q : List UInt8) (h : Byt w A n c p) (h' : Byt w A' n' c' q) (hp : p.length ≤ 512) (hq : q.length ≤ 512) :
    Calls Try.prog 39 #[.slice A n c, .slice A' n' c'] w (Gives w (pmul p q)) := by
  obtain ⟨i0, hi, hz0, hz1, hz2⟩ := info_parts info_u8
  have hn := h.len
  have hn' := h'.len
  have hlc : n ≤ c := h.1
  have hcm : c ≤ 9223372036854775807 := h.2.1
  have hlc' : n' ≤ c' := h'.1
  have hcm' : c' ≤ 9223372036854775807 := h'.2.1
  have hbd : n ≤ 512 := by omega
  have hbd' : n' ≤ 512 := by omega
  have hmk := run_make_blk (P := Try.prog) w 45 5 i0 (.int .u8 0) Try.underlying45 hi hz0 .i64 .i64 (n + n') (by rw [hz2]; omega) (by omega)
  rw [hz1, Int.natCast_add] at hmk
  have hblk0 := Blk.new w 5 (madeCells (Value.int .u8 0).cells ((n + n') * 1))
  have hmt := made_bytes (n + n')
  generalize madeCells (Value.int .u8 0).cells ((n + n') * 1) = mc at *
  have HBK := Lib.hid (show Blk (w.alloc (.cells mc 5)) w.heap.size 5 (bv (mulSt p q 0)).toArray by
    rw [show (bv (mulSt p q 0)).toArray = mc by rw [show mulSt p q 0 = List.replicate (n + n') 0 by rw [hn, hn']; rfl, ← hmt]]; exact hblk0)
  have H := Lib.hid h
  have H' := Lib.hid h'
  have HN := Lib.hid hn
  have HN' := Lib.hid hn'
  clear h h' hn hn' hp hq hmt hblk0 hi hz0 hz1 hz2
  go_enter Try.func39, Try.ntmps39
  go_wp2
  clear hmk
  go_loopw [16] (fun i wr => ∃ i' : Nat, i' ≤ n ∧ i = .int .i64 (i' : Int) ∧ Blk wr w.heap.size 5 (bv (mulSt p q i')).toArray ∧ Below w.heap.size w wr) (fun i _ => n - (intOf i).toNat)
  case atStart => exact ⟨0, by omega, rfl, HBK.out, (Below.refl _ w).alloc (Nat.le_refl _) _⟩
  case round =>
    obtain ⟨i', hi', rfl, hbk, hb⟩ := hrel
    clear HBK
    have HBl := Lib.hid hbk
    have HB := Lib.hid hb
    clear hbk hb
    by_cases hlt : i' < n
    · have hj : i' < p.length := by rw [← HN.out]; omega
      have HSi := Lib.hid (mulSt_succ (q := q) hj)
      go_wp2
      go_loopw [21] (fun i wq => ∃ k : Nat, k ≤ n' ∧ i = .int .i64 (k : Int) ∧ Blk wq w.heap.size 5 (bv (rowIn p[i'] q i' k (mulSt p q i'))).toArray ∧ Below w.heap.size w wq) (fun i _ => n' - (intOf i).toNat)
      case atStart => exact ⟨0, by omega, rfl, HBl.out, HB.out⟩
      case round =>
        obtain ⟨k, hk, rfl, hbk, hb⟩ := hrel
        have HBl2 := Lib.hid hbk
        have HB2 := Lib.hid hb
        by_cases hlt2 : k < n'
        · have hj2 : k < q.length := by rw [← HN'.out]; omega
          have hik : i' + k < (mulSt p q i').length := by rw [mulSt_length, ← HN.out, ← HN'.out]; omega
          have HS := Lib.hid (rowIn_succ (x := p[i']) (i := i') (out := mulSt p q i') hj2 hik)
          have hc1 := hbk.cell (i' + k)
          have hf1 := hbk.frozen (i' + k)
          rw [bv_cell _ (by rw [rowIn_length]; exact hik)] at hc1
          obtain ⟨ad, rfl, _, hc⟩ := Byt.at_ (H.out.below hb) hj
          obtain ⟨ad', rfl, _, hc'⟩ := Byt.at_ (H'.out.below hb) hj2
          clear hbk hb
          unfold B at hc1
          have hw0 : (0 : Int) ≤ (i' : Int) + (k : Int) := by omega
          have hw1 : (i' : Int) + (k : Int) < (n : Int) + (n' : Int) := by omega
          have hw2 : ((i' : Int) + (k : Int)).toNat = i' + k := by omega
          have hw3 := IntWalk.i64_in ((i' : Int) + (k : Int)) (by omega)
          go_wp2
          refine wp_region_still_tail 21 (by kernel_rfl) (by kernel_rfl) ?_
          simp only [List.take_succ_cons, List.take_zero, List.drop_succ_cons, List.drop_zero]
          repeat (first | still_step | still_call (gmul_b _ _ _) | still_call (gadd_b _ _ _))
          refine wpStill_nil ?_
          change wpList _ _ _ _ _ wr.drew
          go_wp2
          go_roundw
          case rel => exact ⟨k + 1, by omega, by go_num, by rw [HS.out, bv_set]; exact HBl2.out.drew.set_ (i' + k) _, HB2.out.drew.setCell (p := ⟨w.heap.size, i' + k, none⟩) (Nat.le_refl _) _⟩
          case measure => simp [intOf]; omega
        · have HK := Lib.hid (show k = q.length by rw [← HN'.out]; omega)
          clear hbk hb
          go_wp2
          go_roundw
          case rel => exact ⟨i' + 1, by omega, by go_num, by rw [HSi.out, ← HK.out]; exact HBl2.out, HB2.out⟩
          case measure => simp [intOf]; omega
    · have HK := Lib.hid (show i' = p.length by rw [← HN.out]; omega)
      have hlen : (mulSt p q i').length = n + n' := by rw [mulSt_length, ← HN.out, ← HN'.out]
      have hl1 : (mulSt p q i').length ≤ 1048576 := by omega
      have HY := Lib.hid (Blk.byt HBl.out hlen (show n + n' ≤ maxLen by unfold maxLen; omega))
      clear hlen
      go_wp2_with (go_at_call 51; refine (trim_b _ _ (n + n') (n + n') (mulSt p q i') HY.out hl1).mono ?_; rintro e w1 ⟨v, rfl, hown1, hb1⟩)
      go_ret
      refine ⟨v, rfl, ?_, HB.out.trans (hb1.mono HB.out.size)⟩
      unfold pmul
      rw [← HK.out]
      exact own_mono hown1 HB.out.size

end Go.Proofs.Ytpljpceldlaphaa
