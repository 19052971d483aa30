/- Walks of the reference's polynomial functions: Add, scale, Mul, Derivative. -/
import Derived.Test.YtphlagmalppbkaaPe
namespace Go.Proofs.Ytphlagmalppbkaa
open Go.RowKit

/-- the sums of the first k coefficients -/
def addTo (p q : List UInt8) (k : Nat) : List UInt8 := (List.range k).map fun i => Gf.ga (p.getD i 0) (q.getD i 0)
theorem addTo_length (p q : List UInt8) (k : Nat) : (addTo p q k).length = k := by simp [addTo]
theorem addTo_succ (p q : List UInt8) (k : Nat) : addTo p q (k + 1) = addTo p q k ++ [Gf.ga (p.getD k 0) (q.getD k 0)] := by simp [addTo, List.range_succ]
/-- the sum of two polynomials -/
def padd (p q : List UInt8) : List UInt8 := trim (addTo p q (max p.length q.length))

set_option maxRecDepth 100000 in
set_option maxHeartbeats 400000 in
theorem rpadd_b (w : World) (A : Option Addr) (n c : Nat) (p : List UInt8) (A' : Option Addr) (n' c' : Nat) (q : List UInt8) (h : Byt w A n c p) (h' : Byt w A' n' c' q) (hp : p.length ≤ 1024) (hq : q.length ≤ 1024) :
    Calls Try.prog 22 #[.slice A n c, .slice A' n' c'] w (Gives w (padd p q)) := by
  obtain ⟨i0, hi, hz0, hz1, hz2⟩ := info_parts info_u8
  have H := Lib.hid h
  have H' := Lib.hid h'
  have hn := h.len
  have hn' := h'.len
  have hlc : n ≤ c := h.1
  have hcm : c ≤ 9223372036854775807 := h.2.1
  have hlc' : n' ≤ c' := h'.1
  have hcm' : c' ≤ 9223372036854775807 := h'.2.1
  have HM := Lib.hid (show max n n' = max p.length q.length by rw [hn, hn'])
  have hbd : n ≤ 1024 := by omega
  have hbd' : n' ≤ 1024 := by omega
  clear h h' hn hn' hp hq
  go_enter Try.func22, Try.ntmps22
  go_wp2
  go_loopw [5, 6] (fun v i wr => ∃ k : Nat, k ≤ max n n' ∧ i = .int .i64 (k : Int) ∧ wr.ownsRow w.heap.size 5 1 v k (bv (addTo p q k)) ∧ Below w.heap.size w wr) (fun _ i _ => max n n' - (intOf i).toNat)
  case atStart => exact ⟨0, by omega, rfl, World.ownsRow_lit w #[] 0 (Nat.le_refl _) (Nat.zero_le _) rfl, (Below.refl _ w).alloc (Nat.le_refl _) _⟩
  case round =>
    obtain ⟨k, hk, rfl, hown, hb⟩ := hrel
    have HO := Lib.hid hown
    have HB := Lib.hid hb
    have hP := Lib.hid (H.out.below hb)
    have hQ := Lib.hid (H'.out.below hb)
    clear hown hb
    have HS := Lib.hid (addTo_succ p q k)
    by_cases hlt : k < max n n'
    · have hk1 : k + 1 ≤ 1024 := by omega
      by_cases h1 : k < n
      · go_wp2_with (first
          | (go_at_call 36; (first | (with_reducible refine (coef_b _ A n c p k hP.out).mono ?_) | (with_reducible refine (coef_b _ A' n' c' q k hQ.out).mono ?_)); rintro e w1 ⟨rfl, rfl⟩)
          | (go_at_call 33; refine (radd_b _ _ _).mono ?_; rintro e w1 ⟨rfl, rfl⟩)
          | (at_builtin; refine wpl_push ty_u8 rfl _ _ rfl w.heap.size u5 k (bv (addTo p q k)) rfl (HO.out.alloc _) _ (B (Gf.ga (p.getD k 0) (q.getD k 0))) rfl (Blk.new _ _ _) rfl (by have := HB.out.size; simp; omega) (by unfold maxLen; omega) (by omega) ?_; intro v' w1 hown1 hgrow _))
        go_roundw
        case rel => exact ⟨k + 1, by omega, by go_num, by rw [HS.out, bv_append]; exact hown1, push_below HB.out HB.out.size HO.out hgrow⟩
        case measure => simp [intOf]; omega
      · have h2 : k < n' := by omega
        go_wp2_with (first
          | (go_at_call 36; (first | (with_reducible refine (coef_b _ A n c p k hP.out).mono ?_) | (with_reducible refine (coef_b _ A' n' c' q k hQ.out).mono ?_)); rintro e w1 ⟨rfl, rfl⟩)
          | (go_at_call 33; refine (radd_b _ _ _).mono ?_; rintro e w1 ⟨rfl, rfl⟩)
          | (at_builtin; refine wpl_push ty_u8 rfl _ _ rfl w.heap.size u5 k (bv (addTo p q k)) rfl (HO.out.alloc _) _ (B (Gf.ga (p.getD k 0) (q.getD k 0))) rfl (Blk.new _ _ _) rfl (by have := HB.out.size; simp; omega) (by unfold maxLen; omega) (by omega) ?_; intro v' w1 hown1 hgrow _))
        go_roundw
        case rel => exact ⟨k + 1, by omega, by go_num, by rw [HS.out, bv_append]; exact hown1, push_below HB.out HB.out.size HO.out hgrow⟩
        case measure => simp [intOf]; omega
    · have h1 : ¬ k < n := by omega
      have h2 : ¬ k < n' := by omega
      have HK := Lib.hid (show k = max p.length q.length by rw [← HM.out]; omega)
      obtain ⟨A1, c1, rfl, hbyt, _⟩ := byt_own HO.out
      have HY := Lib.hid hbyt
      have hl1 : (addTo p q k).length ≤ 1048576 := by rw [addTo_length]; omega
      clear hbyt
      go_wp2_with (go_at_call 21; refine (rtrim_b _ A1 k c1 (addTo p q k) HY.out hl1).mono ?_; rintro e w1 ⟨v, rfl, hown1, hb1⟩)
      go_ret
      refine ⟨v, rfl, ?_, HB.out.trans (hb1.mono HB.out.size)⟩
      unfold padd
      rw [← HK.out]
      exact own_mono hown1 HB.out.size

theorem trim_length (l : List UInt8) : (trim l).length ≤ l.length := by unfold trim; rw [List.length_take]; omega

/-- k zeros and the multiples of the first i coefficients -/
def scaleTo (p : List UInt8) (x : UInt8) (k i : Nat) : List UInt8 := List.replicate k 0 ++ (List.range i).map fun j => Gf.gm x (p.getD j 0)
theorem scaleTo_length (p : List UInt8) (x : UInt8) (k i : Nat) : (scaleTo p x k i).length = k + i := by simp [scaleTo]
theorem scaleTo_succ {p : List UInt8} {i : Nat} (x : UInt8) (k : Nat) (hi : i < p.length) : scaleTo p x k (i + 1) = scaleTo p x k i ++ [Gf.gm x p[i]] := by
  have e : p.getD i 0 = p[i] := by simp [List.getD, List.getElem?_eq_getElem hi]
  rw [← e]
  simp [scaleTo, List.range_succ]
def pscale (p : List UInt8) (x : UInt8) (k : Nat) : List UInt8 := trim (scaleTo p x k p.length)

set_option maxRecDepth 100000 in
set_option maxHeartbeats 400000 in
theorem rscale_b (w : World) (A : Option Addr) (n c : Nat) (p : List UInt8) (x : UInt8) (m : Nat) (h : Byt w A n c p) (hp : p.length ≤ 1024) (hm : m ≤ 1024) :
    Calls Try.prog 34 #[.slice A n c, .int .u8 (x.toNat : Int), .int .i64 (m : Int)] w (Gives w (pscale p x m)) := by
  obtain ⟨i0, hi, hz0, hz1, hz2⟩ := info_parts info_u8
  have hmk := run_make_blk (P := Try.prog) w 22 5 i0 (.int .u8 0) Try.underlying22 hi hz0 .i64 .i64 m (by rw [hz2]; omega) (by omega)
  rw [hz1] at hmk
  have hown0 := World.ownsRow_lit (base := w.heap.size) (e := 5) (size := 1) w (madeCells (Value.int .u8 0).cells (m * 1)) m (Nat.le_refl _) (by unfold maxLen; omega) (by simp [madeCells])
  rw [made_bytes] at hown0
  generalize madeCells (Value.int .u8 0).cells (m * 1) = mc at *
  have HO0 := Lib.hid hown0
  have H := Lib.hid h
  have hn := h.len
  have hlc : n ≤ c := h.1
  have hcm : c ≤ 9223372036854775807 := h.2.1
  have hbd : n ≤ 1024 := by omega
  have hle : n ≤ p.length := by omega
  have HN := Lib.hid hn
  clear h hn hown0 hi hz0 hz1 hz2
  go_enter Try.func34, Try.ntmps34
  go_wp2
  go_loopw [7, 8] (fun v i wr => ∃ k : Nat, k ≤ n ∧ i = .int .i64 (k : Int) ∧ wr.ownsRow w.heap.size 5 1 v (m + k) (bv (scaleTo p x m k)) ∧ Below w.heap.size w wr) (fun _ i _ => n - (intOf i).toNat)
  case atStart => exact ⟨0, by omega, rfl, by simpa [scaleTo] using HO0.out, (Below.refl _ w).alloc (Nat.le_refl _) _⟩
  case round =>
    obtain ⟨k, hk, rfl, hown, hb⟩ := hrel
    have HO := Lib.hid hown
    have HB := Lib.hid hb
    have hP := Lib.hid (H.out.below hb)
    clear hown hb
    by_cases hlt : k < n
    · have hk1 : m + k + 1 ≤ 2048 := by omega
      have hj : k < p.length := by omega
      have HS := Lib.hid (scaleTo_succ x m hj)
      obtain ⟨ad, rfl, _, hc⟩ := Byt.at_ hP.out hj
      go_wp2_with (first
          | (go_at_call 37; refine (rmul_b _ _ _).mono ?_; rintro e w1 ⟨rfl, rfl⟩)
          | (at_builtin; refine wpl_push ty_u8 rfl _ _ rfl w.heap.size u7 (m + k) (bv (scaleTo p x m k)) rfl (HO.out.alloc _) _ (B (Gf.gm x p[k])) rfl (Blk.new _ _ _) rfl (by have := HB.out.size; simp; omega) (by unfold maxLen; omega) (by omega) ?_; intro v' w1 hown1 hgrow _))
      go_roundw
      case rel => exact ⟨k + 1, by omega, by go_num, by rw [HS.out, bv_append]; exact hown1, push_below HB.out HB.out.size HO.out hgrow⟩
      case measure => simp [intOf]; omega
    · have HK := Lib.hid (show k = p.length by rw [← HN.out]; omega)
      obtain ⟨A1, c1, rfl, hbyt, _⟩ := byt_own HO.out
      have HY := Lib.hid hbyt
      clear hbyt
      have hl1 : (scaleTo p x m k).length ≤ 1048576 := by rw [scaleTo_length]; omega
      go_wp2_with (go_at_call 21; refine (rtrim_b _ A1 (m + k) c1 (scaleTo p x m k) HY.out hl1).mono ?_; rintro e w1 ⟨v, rfl, hown1, hb1⟩)
      go_ret
      refine ⟨v, rfl, ?_, HB.out.trans (hb1.mono HB.out.size)⟩
      unfold pscale
      rw [← HK.out]
      exact own_mono hown1 HB.out.size

/-- the reference's product after i coefficients -/
def rmulTo (p q : List UInt8) : Nat → List UInt8
  | 0 => []
  | i + 1 => padd (rmulTo p q i) (pscale q (p.getD i 0) i)
theorem rmulTo_succ {p : List UInt8} {i : Nat} (q : List UInt8) (hi : i < p.length) : rmulTo p q (i + 1) = padd (rmulTo p q i) (pscale q p[i] i) := by
  have e : p.getD i 0 = p[i] := by simp [List.getD, List.getElem?_eq_getElem hi]
  rw [← e]; rfl
theorem padd_length (p q : List UInt8) : (padd p q).length ≤ max p.length q.length := by
  unfold padd
  have := trim_length (addTo p q (max p.length q.length))
  rwa [addTo_length] at this
theorem pscale_length (p : List UInt8) (x : UInt8) (k : Nat) : (pscale p x k).length ≤ k + p.length := by
  unfold pscale
  have := trim_length (scaleTo p x k p.length)
  rwa [scaleTo_length] at this
theorem rmulTo_length (p q : List UInt8) : ∀ i, (rmulTo p q i).length ≤ i + q.length
  | 0 => Nat.zero_le _
  | i + 1 => by
    have h1 := padd_length (rmulTo p q i) (pscale q (p.getD i 0) i)
    have h2 := rmulTo_length p q i
    have h3 := pscale_length q (p.getD i 0) i
    show (padd _ _).length ≤ _
    omega

set_option maxRecDepth 100000 in
set_option maxHeartbeats 400000 in
theorem rpmul_b (w : World) (A : Option Addr) (n c : Nat) (p : List UInt8) (A' : Option Addr) (n' c' : Nat) (q : List UInt8) (h : Byt w A n c p) (h' : Byt w A' n' c' q) (hp : p.length ≤ 256) (hq : q.length ≤ 256) :
    Calls Try.prog 28 #[.slice A n c, .slice A' n' c'] w (Gives w (rmulTo p q p.length)) := by
  have H := Lib.hid h
  have H' := Lib.hid h'
  have hn := h.len
  have hlc : n ≤ c := h.1
  have hcm : c ≤ 9223372036854775807 := h.2.1
  have hle : n ≤ p.length := by omega
  have HN := Lib.hid hn
  have HL := Lib.hid (rmulTo_length p q)
  clear h h' hn
  go_enter Try.func28, Try.ntmps28
  go_wp2
  go_loopw [5, 6] (fun v i wr => ∃ k : Nat, k ≤ n ∧ i = .int .i64 (k : Int) ∧ wr.ownsRow w.heap.size 5 1 v (rmulTo p q k).length (bv (rmulTo p q k)) ∧ Below w.heap.size w wr) (fun _ i _ => n - (intOf i).toNat)
  case atStart => exact ⟨0, by omega, rfl, World.ownsRow_lit w #[] 0 (Nat.le_refl _) (Nat.zero_le _) rfl, (Below.refl _ w).alloc (Nat.le_refl _) _⟩
  case round =>
    obtain ⟨k, hk, rfl, hown, hb⟩ := hrel
    have HO := Lib.hid hown
    have HB := Lib.hid hb
    have hP := Lib.hid (H.out.below hb)
    have hQ := Lib.hid (H'.out.below hb)
    clear hown hb
    by_cases hlt : k < n
    · have hj : k < p.length := by omega
      have HS := Lib.hid (rmulTo_succ q hj)
      obtain ⟨ad, rfl, _, hc⟩ := Byt.at_ hP.out hj
      obtain ⟨A1, c1, rfl, hbyt, _⟩ := byt_own HO.out
      have HY := Lib.hid hbyt
      have hl1 : (rmulTo p q k).length ≤ 1024 := by have := HL.out k; omega
      have hl2 : (pscale q p[k] k).length ≤ 1024 := by have := pscale_length q p[k] k; omega
      clear hbyt
      go_wp2_with fail
      refine (rscale_b _ A' n' c' q p[k] k hQ.out (by omega) (by omega)).mono ?_
      rintro e w1 ⟨v1, rfl, hown1, hb1⟩
      obtain ⟨A2, c2, rfl, hbyt2, _⟩ := byt_own hown1
      have HY2 := Lib.hid hbyt2
      have HB1 := Lib.hid hb1
      have HY1 := Lib.hid (HY.out.below hb1)
      clear hbyt2 hb1 hown1
      go_wp2_with fail
      refine (rpadd_b _ A1 _ c1 _ A2 _ c2 _ HY1.out HY2.out hl1 hl2).mono ?_
      rintro e w2 ⟨v2, rfl, hown2, hb2⟩
      have HO2 := Lib.hid hown2
      have HB2 := Lib.hid hb2
      clear hb2 hown2
      go_wp2_with fail
      go_roundw
      case rel =>
        have b1 := HB.out.trans (HB1.out.mono HB.out.size)
        refine ⟨k + 1, by omega, by go_num, ?_, b1.trans (HB2.out.mono b1.size)⟩
        rw [HS.out]
        exact own_mono HO2.out b1.size
      case measure => simp [intOf]; omega
    · have HK := Lib.hid (show k = p.length by rw [← HN.out]; omega)
      go_wp2
      go_ret
      refine ⟨_, rfl, ?_, HB.out⟩
      rw [← HK.out]
      exact HO.out

end Go.Proofs.Ytphlagmalppbkaa
