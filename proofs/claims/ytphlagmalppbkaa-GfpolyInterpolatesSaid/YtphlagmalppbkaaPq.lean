/- Walks of the two divisions. -/
import Derived.Test.YtphlagmalppbkaaPv
import Derived.Test.YtphlagmalppbkaaPk
namespace Go.Proofs.Ytphlagmalppbkaa
open Go.RowKit

/-- a slice's length, for a measure -/
def lenOf : Value → Nat
  | .slice _ n _ => n
  | _ => 0

/-- what a call leaves that hands back two slices of bytes of its own and a bool -/
def Gives3 (w : World) (r : List UInt8 × List UInt8 × Bool) (e : Ending) (w' : World) : Prop :=
  ∃ v1 v2, e = .returned (.tuple #[v1, v2, .bool r.2.2]) ∧ w'.ownsRow w.heap.size 5 1 v1 r.1.length (bv r.1) ∧ w'.ownsRow w.heap.size 5 1 v2 r.2.1.length (bv r.2.1) ∧ Below w.heap.size w w'

theorem rdvStep_eq (b Q R : List UInt8) (hj : R.length - 1 < R.length) (hj2 : b.length - 1 < b.length) : rdvStep b (Q, R) =
    (padd Q (pscale [1] (Gf.gm R[R.length - 1] (Gf.inv b[b.length - 1])) (R.length - b.length)), padd R (pscale b (Gf.gm R[R.length - 1] (Gf.inv b[b.length - 1])) (R.length - b.length))) := by
  unfold rdvStep
  simp only [getD_lt hj, getD_lt hj2]
theorem rdvRun_more (b : List UInt8) (st : List UInt8 × List UInt8) (f : Nat) (hl : b.length ≤ st.2.length) : rdvRun b (f + 1) st = rdvRun b f (rdvStep b st) := by
  conv => lhs; unfold rdvRun
  rw [if_pos hl]

set_option maxRecDepth 100000 in
set_option maxHeartbeats 1000000 in
theorem rdivmod_b (w : World) (A : Option Addr) (n c : Nat) (p : List UInt8) (A' : Option Addr) (n' c' : Nat) (q : List UInt8) (h : Byt w A n c p) (h' : Byt w A' n' c' q) (hp : p.length ≤ 128) (hq : q.length ≤ 128) :
    Calls Try.prog 27 #[.slice A n c, .slice A' n' c'] w (Gives3 w (divRun p q)) := by
  have H := Lib.hid h
  have H' := Lib.hid h'
  clear h h'
  by_cases h0 : trim q = []
  · have HR := Lib.hid (div_none (p := p) h0)
    have HQ := Lib.hid h0
    clear h0
    go_enter Try.func27, Try.ntmps27
    go_wp2_with fail
    refine (rtrim_b _ A' n' c' q H'.out (by omega)).mono ?_
    rw [HQ.out]
    rintro e w1 ⟨v1, rfl, hown, hb⟩
    obtain ⟨A1, c1, rfl, hy, _⟩ := byt_own hown
    have HB := Lib.hid hb
    clear hown hb hy
    go_wp2
    go_ret3
    unfold Gives3
    rw [HR.out]
    have hs1 : w.heap.size ≤ (w1.alloc (.cells #[] 5)).heap.size := by simp; exact Nat.le_succ_of_le HB.out.size
    have hl2 := World.ownsRow_lit (e := 5) (size := 1) (w1.alloc (.cells #[] 5)) #[] 0 hs1 (Nat.zero_le _) rfl
    exact ⟨_, _, rfl, (World.ownsRow_lit w1 #[] 0 HB.out.size (Nat.zero_le _) rfl).alloc _, by simpa [bv] using hl2, (HB.out.alloc HB.out.size _).alloc hs1 _⟩
  · have hb0 := canon_trim q
    have HDV := Lib.hid (rdiv_div (p := p) h0)
    have HT := Lib.hid (div_law (p := p) h0).1
    have hbl : 0 < (trim q).length := List.length_pos_iff.2 h0
    have hbm : (trim q).length ≤ 128 := by have := trim_length q; omega
    have hpm : (trim p).length ≤ 128 := by have := trim_length p; omega
    have HC := Lib.hid hb0
    have HNE := Lib.hid h0
    clear hb0 h0
    obtain ⟨b, hbq⟩ : ∃ b, b = trim q := ⟨_, rfl⟩
    rw [← hbq] at HDV HC HNE hbl hbm
    have HBQ := Lib.hid hbq
    clear hbq
    go_enter Try.func27, Try.ntmps27
    go_wp2_with fail
    refine (rtrim_b _ A' n' c' q H'.out (by omega)).mono ?_
    rw [← HBQ.out]
    rintro e w1 ⟨v1, rfl, hown, hb⟩
    obtain ⟨A1, c1, rfl, hy, _⟩ := byt_own hown
    have hc1 : b.length ≤ c1 := hy.1
    have hc1m : c1 ≤ 9223372036854775807 := hy.2.1
    have HB1 := Lib.hid hb
    have HY1 := Lib.hid hy
    have HP1 := Lib.hid ((H.out.below hb).alloc (.cells #[] 5))
    clear hown hb hy
    go_wp2_with fail
    refine (rtrim_b _ A n c p HP1.out (by omega)).mono ?_
    rintro e w2 ⟨v2, rfl, hown, hb⟩
    have HB2 := Lib.hid ((HB1.out.alloc HB1.out.size (.cells #[] 5)).trans (hb.mono (by simp; exact Nat.le_succ_of_le HB1.out.size)))
    have HY2 := Lib.hid ((HY1.out.alloc (.cells #[] 5)).below hb)
    have hs1 : w.heap.size ≤ (w1.alloc (.cells #[] 5)).heap.size := by simp; exact Nat.le_succ_of_le HB1.out.size
    have HR2 := Lib.hid (own_mono hown hs1)
    have HQ2 := Lib.hid (own_below (World.ownsRow_lit (e := 5) (size := 1) w1 #[] 0 HB1.out.size (Nat.zero_le _) rfl) hb)
    clear hown hb hs1
    go_wp2
    go_loopw [7, 8] (fun vq vr wr => ∃ (f : Nat) (Q R : List UInt8), rdvRun b f (Q, R) = rdvRun b (trim p).length ([], trim p) ∧ R.length ≤ f ∧ R.length ≤ 128 ∧ Q.length ≤ 129 ∧ wr.ownsRow w.heap.size 5 1 vq Q.length (bv Q) ∧ wr.ownsRow w.heap.size 5 1 vr R.length (bv R) ∧ Byt wr A1 b.length c1 b ∧ Below w.heap.size w wr) (fun _ vr _ => lenOf vr)
    case atStart => exact ⟨_, [], trim p, rfl, Nat.le_refl _, hpm, by simp, HQ2.out, HR2.out, HY2.out, HB2.out⟩
    case round =>
      obtain ⟨f, Q, R, hrun, hRf, hRl, hQl, hoq, hor, hyb, hb⟩ := hrel
      obtain ⟨A2, c2, rfl, hyq, _⟩ := byt_own hoq
      obtain ⟨A3, c3, rfl, hyr, _⟩ := byt_own hor
      have hc3 : R.length ≤ c3 := hyr.1
      have hc3m : c3 ≤ 9223372036854775807 := hyr.2.1
      have HOQ := Lib.hid hoq
      have HOR := Lib.hid hor
      have HRUN := Lib.hid hrun
      have HYQ := Lib.hid hyq
      have HYR := Lib.hid hyr
      have HYB := Lib.hid hyb
      have HB := Lib.hid hb
      clear hoq hor hyq hyr hb hyb hrun HP1 HY2 HR2 HQ2 HB2 HB1 HY1
      by_cases hl : b.length ≤ R.length
      · obtain ⟨f, rfl⟩ : ∃ g, f = g + 1 := ⟨f - 1, by omega⟩
        have hj : R.length - 1 < R.length := by omega
        have hj2 : b.length - 1 < b.length := by omega
        obtain ⟨ad, rfl, _, hcr⟩ := Byt.at_ HYR.out hj
        obtain ⟨ad2, rfl, _, hcb⟩ := Byt.at_ HYB.out hj2
        have HST := Lib.hid (rdvRun_more b (Q, R) f hl)
        have HSH := Lib.hid (rdv_short (st := (Q, R)) HC.out HNE.out hl)
        have HSE := Lib.hid (rdvStep_eq b Q R hj hj2)
        have hi1 : (0 : Int) ≤ (R.length : Int) - 1 := by omega
        have hi2 : ((R.length : Int) - 1).toNat = R.length - 1 := by omega
        have hi3 : (R.length : Int) - 1 < (R.length : Int) := by omega
        have hi4 : (0 : Int) ≤ (b.length : Int) - 1 := by omega
        have hi5 : ((b.length : Int) - 1).toNat = b.length - 1 := by omega
        have hi6 : (b.length : Int) - 1 < (b.length : Int) := by omega
        go_wp2
        go_quiet ((go_at_call 38; exact Calls.quiet_of_same (rdiv_b _ _ _)))
        go_wp2_with fail
        have hk : (R.length : Int) - (b.length : Int) = ((R.length - b.length : Nat) : Int) := by omega
        rw [hk]
        have HD := Lib.hid (show Dr wr (wr.drewN nq) from ⟨nq, rfl⟩)
        have HBD := Lib.hid (HB.out.trans (HD.out.below _))
        have HYQ1 := Lib.hid (HYQ.out.dr HD.out)
        have HYR1 := Lib.hid (HYR.out.dr HD.out)
        have HYB1 := Lib.hid (HYB.out.dr HD.out)
        clear hk
        generalize hcc : Gf.gm R[R.length - 1] (Gf.inv b[b.length - 1]) = cc at *
        generalize hkk : R.length - b.length = kk at *
        have hkm : kk ≤ 128 := by omega
        clear hcc hkk
        have HSZ := Lib.hid (show wr.heap.size = (wr.drewN nq).heap.size from rfl)
        generalize wr.drewN nq = w3 at *
        refine (rscale_b _ _ 1 1 [1] cc kk (lit_byt w3 wr.heap.size HSZ.out [1] #[.int .u8 1] rfl 1 rfl (by omega)) (by simp) (by omega)).mono ?_
        rintro e w4 ⟨v4, rfl, hown, hb⟩
        obtain ⟨A4, c4, rfl, hy4, _⟩ := byt_own hown
        have HB4 := Lib.hid ((HBD.out.alloc HBD.out.size (.cells #[.int .u8 1] 5)).trans (hb.mono (by simp; exact Nat.le_succ_of_le HBD.out.size)))
        have HY4 := Lib.hid hy4
        have HYQ4 := Lib.hid ((HYQ1.out.alloc (.cells #[.int .u8 1] 5)).below hb)
        have HYR4 := Lib.hid ((HYR1.out.alloc (.cells #[.int .u8 1] 5)).below hb)
        have HYB4 := Lib.hid ((HYB1.out.alloc (.cells #[.int .u8 1] 5)).below hb)
        have hl4 : (pscale [1] cc kk).length ≤ 129 := by have := pscale_length [1] cc kk; simp at this; omega
        clear hown hb hy4
        go_wp2_with fail
        refine (rpadd_b _ A2 _ c2 Q A4 _ c4 _ HYQ4.out HY4.out (by omega) (by omega)).mono ?_
        rintro e w5 ⟨v5, rfl, hown, hb⟩
        have HB5 := Lib.hid (HB4.out.trans (hb.mono HB4.out.size))
        have HO5 := Lib.hid (own_mono hown HB4.out.size)
        have HYR5 := Lib.hid (HYR4.out.below hb)
        have HYB5 := Lib.hid (HYB4.out.below hb)
        clear hown hb
        go_wp2_with fail
        refine (rscale_b _ _ _ c1 b cc kk HYB5.out (by omega) (by omega)).mono ?_
        rintro e w6 ⟨v6, rfl, hown, hb⟩
        obtain ⟨A6, c6, rfl, hy6, _⟩ := byt_own hown
        have HB6 := Lib.hid (HB5.out.trans (hb.mono HB5.out.size))
        have HO6 := Lib.hid (own_below HO5.out hb)
        have HY6 := Lib.hid hy6
        have HYR6 := Lib.hid (HYR5.out.below hb)
        have HYB6 := Lib.hid (HYB5.out.below hb)
        have hl6 : (pscale b cc kk).length ≤ 256 := by have := pscale_length b cc kk; omega
        clear hown hb hy6
        go_wp2_with fail
        refine (rpadd_b _ _ _ c3 R A6 _ c6 _ HYR6.out HY6.out (by omega) (by omega)).mono ?_
        rintro e w7 ⟨v7, rfl, hown, hb⟩
        have HB7 := Lib.hid (HB6.out.trans (hb.mono HB6.out.size))
        have HO7 := Lib.hid (own_mono hown HB6.out.size)
        have HOQ7 := Lib.hid (own_below HO6.out hb)
        have HYB7 := Lib.hid (HYB6.out.below hb)
        clear hown hb
        have hsh : (padd R (pscale b cc kk)).length < R.length := by have := HSH.out; rw [HSE.out] at this; exact this
        have hq7 := padd_length Q (pscale [1] cc kk)
        obtain ⟨A7, c7, rfl, _, _⟩ := byt_own HO7.out
        go_wp2
        go_roundw
        case rel => exact ⟨f, padd Q (pscale [1] cc kk), padd R (pscale b cc kk), by rw [← HRUN.out, HST.out, HSE.out], by omega, by omega, by omega, HOQ7.out, HO7.out, HYB7.out, HB7.out⟩
        case measure => exact hsh
      · have hst := rdvRun_stop b (Q, R) hl f
        have hfin := HDV.out
        rw [← HRUN.out, hst] at hfin
        have HF1 := Lib.hid (congrArg Prod.fst hfin)
        have HF2 := Lib.hid (congrArg Prod.snd hfin)
        have hlt : R.length < b.length := by omega
        clear hst hfin hl
        go_wp2
        go_ret3
        refine ⟨.slice A2 Q.length c2, .slice A3 R.length c3, ?_, ?_, ?_, HB.out⟩
        · rw [HT.out]; rfl
        · rw [← HF1.out]; exact HOQ.out
        · rw [← HF2.out]; exact HOR.out

theorem own_cells {w : World} {base g n cap : Nat} {l : List UInt8} (h : w.ownsRow base 5 1 (.slice (some ⟨g, 0, none⟩) n cap) n (bv l)) {j : Nat} (hj : j < n) (hl : n = l.length) :
    w.cell? ⟨g, j, none⟩ = some (.int .u8 ((l[j]'(by omega)).toNat : Int)) ∧ w.frozen? ⟨g, j, none⟩ = false := by
  refine ⟨?_, h.frozenAt j⟩
  rw [h.cellAt j (by omega)]
  unfold bv
  rw [List.getElem?_map, List.getElem?_eq_getElem (by omega)]
  rfl
theorem own_store {w : World} {base g n cap : Nat} {l : List UInt8} (h : w.ownsRow base 5 1 (.slice (some ⟨g, 0, none⟩) n cap) n (bv l)) (j : Nat) (x : UInt8) :
    (w.setCell ⟨g, j, none⟩ (B x)).ownsRow base 5 1 (.slice (some ⟨g, 0, none⟩) n cap) n (bv (l.set j x)) := by
  have := (h.stored j (B x)).1
  unfold bv at this ⊢
  rw [List.map_set]
  exact this
theorem bv_at (l : List UInt8) {k : Nat} (hk : k < l.length) : (bv l)[k]? = some (B l[k]) := by simp [bv, List.getElem?_map, List.getElem?_eq_getElem hk]
theorem grown_drew {a b : World} {row : Option Nat} (h : a.grownBy b row) : a.grownBy b.drew row := ⟨h.os, h.tape, h.output, h.size, h.block⟩
theorem own_drew {w : World} {base : Nat} {e : TypeId} {size : Nat} {v : Value} {n : Nat} {xs : List Value} (h : w.ownsRow base e size v n xs) : w.drew.ownsRow base e size v n xs := h
theorem rowIn_cell {x : UInt8} {q : List UInt8} {i k : Nat} {out : List UInt8} (h : i + k < out.length) : i + k < (rowIn x q i k out).length := by rw [rowIn_length]; exact h

theorem dvRun_more (b Q R : List UInt8) (s : Nat) (h1 : s + (b.length - 1) < R.length) (h2 : b.length - 1 < b.length) : dvRun b (s + 1) (Q, R) =
    dvRun b s (Q.set s (Gf.gm R[s + (b.length - 1)] (Gf.inv b[b.length - 1])), rowIn (Gf.gm R[s + (b.length - 1)] (Gf.inv b[b.length - 1])) b s b.length R) := by
  show dvRun b s (dvStep b s (Q, R)) = _
  unfold dvStep
  simp only [getD_lt h1, getD_lt h2]

set_option maxRecDepth 100000 in
set_option maxHeartbeats 2000000 in
theorem divmod_b (w : World) (A : Option Addr) (n c : Nat) (p : List UInt8) (A' : Option Addr) (n' c' : Nat) (q : List UInt8) (h : Byt w A n c p) (h' : Byt w A' n' c' q) (hp : p.length ≤ 128) (hq : q.length ≤ 128) :
    Calls Try.prog 26 #[.slice A n c, .slice A' n' c'] w (Gives3 w (divRun p q)) := by
  obtain ⟨i0, hi, hz0, hz1, hz2⟩ := info_parts info_u8
  have H := Lib.hid h
  have H' := Lib.hid h'
  have hbm : (trim q).length ≤ 128 := by have := trim_length q; omega
  have hpm : (trim p).length ≤ 128 := by have := trim_length p; omega
  clear h h'
  by_cases h0 : trim q = []
  · have HR := Lib.hid (div_none (p := p) h0)
    have HQ := Lib.hid h0
    clear h0 hi hz0 hz1 hz2
    go_enter Try.func26, Try.ntmps26
    go_wp2_with fail
    refine (trim_b _ A n c p H.out (by omega)).mono ?_
    rintro e w1 ⟨v1, rfl, hown, hb⟩
    have HB := Lib.hid hb
    have H1 := Lib.hid (H'.out.below hb)
    clear hown hb
    go_wp2_with fail
    refine (trim_b _ A' n' c' q H1.out (by omega)).mono ?_
    rw [HQ.out]
    rintro e w2 ⟨v2, rfl, hown, hb⟩
    obtain ⟨A2, c2, rfl, hy, _⟩ := byt_own hown
    have HB2 := Lib.hid (HB.out.trans (hb.mono HB.out.size))
    clear hown hb hy
    go_wp2
    go_ret3
    unfold Gives3
    rw [HR.out]
    exact ⟨_, _, rfl, World.ownsRow_nil _ _ _ _, World.ownsRow_nil _ _ _ _, HB2.out⟩
  · have hbl : 0 < (trim q).length := List.length_pos_iff.2 h0
    have HD := Lib.hid (show divRun p q = (trim (dvRun (trim q) ((trim p).length - ((trim q).length - 1)) (List.replicate ((trim p).length - ((trim q).length - 1)) 0, trim p)).1, trim (dvRun (trim q) ((trim p).length - ((trim q).length - 1)) (List.replicate ((trim p).length - ((trim q).length - 1)) 0, trim p)).2, true) by unfold divRun; rw [if_neg h0])
    obtain ⟨b, hbq⟩ : ∃ b, b = trim q := ⟨_, rfl⟩
    obtain ⟨P, hpq⟩ : ∃ P, P = trim p := ⟨_, rfl⟩
    rw [← hbq, ← hpq] at HD
    rw [← hbq] at hbl hbm
    rw [← hpq] at hpm
    have HBQ := Lib.hid hbq
    have HPQ := Lib.hid hpq
    clear hbq hpq h0
    obtain ⟨s0, hs0⟩ : ∃ s0, s0 = P.length - (b.length - 1) := ⟨_, rfl⟩
    rw [← hs0] at HD
    have hs0m : s0 ≤ 128 := by omega
    by_cases hcase : b.length ≤ P.length
    · have hs1 : s0 + (b.length - 1) = P.length := by omega
      have hmk : ∀ W : World, (Instr.makeSlice 22 (.int .i64 ((P.length : Int) - ((b.length : Int) - 1))) (.int .i64 ((P.length : Int) - ((b.length : Int) - 1)))).run Try.prog W = .ok (.slice (some ⟨W.heap.size, 0, none⟩) s0 s0) (W.alloc (.cells (madeCells (Value.int .u8 0).cells (s0 * 1)) 5)) := fun W => by
        have := run_make_blk (P := Try.prog) W 22 5 i0 (.int .u8 0) Try.underlying22 hi hz0 .i64 .i64 s0 (by rw [hz2]; omega) (by omega)
        rw [hz1] at this
        rw [show (P.length : Int) - ((b.length : Int) - 1) = (s0 : Int) by omega]
        exact this
      have hmt := made_bytes s0
      have hms : (madeCells (Value.int .u8 0).cells (s0 * 1)).size = s0 := by simp [madeCells]
      generalize madeCells (Value.int .u8 0).cells (s0 * 1) = mc at *
      have HMT := Lib.hid hmt
      have HMS := Lib.hid hms
      have HS1 := Lib.hid hs1
      have hs1a : s0 + (b.length - 1) ≤ P.length := by omega
      have hs1b : P.length ≤ s0 + (b.length - 1) := by omega
      have hbz : ((b.length : Int) == 0) = false := by rw [beq_eq_false_iff_ne]; omega
      clear hs0 hi hz0 hz1 hz2 hmt hms hs1
      go_enter Try.func26, Try.ntmps26
      go_wp2_with fail
      refine (trim_b _ A n c p H.out (by omega)).mono ?_
      rw [← HPQ.out]
      rintro e w1 ⟨v1, rfl, hown, hb⟩
      have HB1 := Lib.hid hb
      have H1 := Lib.hid (H'.out.below hb)
      obtain ⟨g1, c1, rfl, hg1, hg1'⟩ := hown.form (by omega)
      have HO1 := Lib.hid hown
      clear hown hb
      go_wp2_with fail
      refine (trim_b _ A' n' c' q H1.out (by omega)).mono ?_
      rw [← HBQ.out]
      rintro e w2 ⟨v2, rfl, hown, hb⟩
      obtain ⟨A2, c2, rfl, hy, hA2⟩ := byt_own hown
      have hc2 : b.length ≤ c2 := hy.1
      have hc2m : c2 ≤ 9223372036854775807 := hy.2.1
      obtain ⟨ad2, rfl, had2, _⟩ := hy.at_ (k := 0) hbl
      have hA2' := hA2 ad2 rfl
      have HB2 := Lib.hid (HB1.out.trans (hb.mono HB1.out.size))
      have HO2 := Lib.hid (own_below HO1.out hb)
      have HY2 := Lib.hid hy
      have hc1 : P.length ≤ c1 := (own_form HO2.out).elim fun A h => h.elim fun c h => by have e := h.1; injection e with _ _ e3; subst e3; exact h.2.1.1
      have hc1m : c1 ≤ 9223372036854775807 := (own_form HO2.out).elim fun A h => h.elim fun c h => by have e := h.1; injection e with _ _ e3; subst e3; exact h.2.1.2.1
      clear hown hb hy hA2
      have HQ3 := Lib.hid (show (w2.alloc (.cells mc 5)).ownsRow w.heap.size 5 1 (.slice (some ⟨w2.heap.size, 0, none⟩) s0 s0) s0 (bv (List.replicate s0 0)) by
        have := World.ownsRow_lit (base := w.heap.size) (e := 5) (size := 1) w2 mc s0 HB2.out.size (by unfold maxLen; omega) (by rw [HMS.out]; omega)
        rwa [HMT.out] at this)
      have HO3 := Lib.hid (HO2.out.alloc (.cells mc 5))
      have HY3 := Lib.hid (HY2.out.alloc (.cells mc 5))
      have HB3 := Lib.hid (HB2.out.alloc HB2.out.size (.cells mc 5))
      have hgq : g1 < w2.heap.size := by omega
      have hwq : w.heap.size ≤ w2.heap.size := HB2.out.size
      go_wp2_with fail
      clear hmk
      go_loopw [11] (fun i wr => ∃ (s : Nat) (Q R : List UInt8), i = .int .i64 ((s : Int) - 1) ∧ dvRun b s (Q, R) = dvRun b s0 (List.replicate s0 0, P) ∧ s ≤ s0 ∧ Q.length = s0 ∧ R.length = P.length ∧
        wr.ownsRow w.heap.size 5 1 (.slice (some ⟨g1, 0, none⟩) P.length c1) P.length (bv R) ∧ wr.ownsRow w.heap.size 5 1 (.slice (some ⟨w2.heap.size, 0, none⟩) s0 s0) s0 (bv Q) ∧
        Byt wr (some ad2) b.length c2 b ∧ Below w.heap.size w wr ∧ w2.heap.size < wr.heap.size) (fun i _ => (intOf i + 1).toNat)
      case atStart => exact ⟨s0, List.replicate s0 0, P, by rw [show (P.length : Int) - (b.length : Int) = (s0 : Int) - 1 by omega], rfl, Nat.le_refl _, by simp, rfl, HO3.out, HQ3.out, HY3.out, HB3.out, by simp⟩
      case round =>
        obtain ⟨s, Q, R, rfl, hrun, hs, hQl, hRl, hor, hoq, hyb, hb, hsz⟩ := hrel
        have HRUN := Lib.hid hrun
        have HOR := Lib.hid hor
        have HOQ := Lib.hid hoq
        have HYB := Lib.hid hyb
        have HB := Lib.hid hb
        have HQL := Lib.hid hQl
        have HRL := Lib.hid hRl
        have hQa : Q.length ≤ s0 := by omega
        have hQb : s0 ≤ Q.length := by omega
        have hRa : P.length ≤ R.length := by omega
        have hRb : R.length ≤ P.length := by omega
        clear hQl hRl hrun hor hoq hyb hb HQ3 HO3 HY3 HB3 HY2 HO2 HB2 HO1 H1 HB1
        by_cases hs0 : 0 < s
        · obtain ⟨j, rfl⟩ : ∃ j, s = j + 1 := ⟨s - 1, by omega⟩
          have ej : ((j + 1 : Nat) : Int) - 1 = (j : Int) := by omega
          rw [ej]
          clear ej
          have hjR : j + (b.length - 1) < R.length := by omega
          have hjb : b.length - 1 < b.length := by omega
          have HMORE := Lib.hid (dvRun_more b Q R j hjR hjb)
          obtain ⟨hc3, hf3⟩ := own_cells HOR.out (j := j + (b.length - 1)) (by omega) HRL.out.symm
          obtain ⟨_, e2, _, hcb⟩ := Byt.at_ HYB.out hjb
          cases e2
          have hi1 : (0 : Int) ≤ (j : Int) + ((b.length : Int) - 1) := by omega
          have hi2 : ((j : Int) + ((b.length : Int) - 1)).toNat = j + (b.length - 1) := by omega
          have hi3 : (j : Int) + ((b.length : Int) - 1) < (P.length : Int) := by omega
          have hi4 : (0 : Int) ≤ (b.length : Int) - 1 := by omega
          have hi5 : ((b.length : Int) - 1).toNat = b.length - 1 := by omega
          have hi6 : (b.length : Int) - 1 < (b.length : Int) := by omega
          have hi7 := IntWalk.i64_in ((j : Int) + ((b.length : Int) - 1)) (by omega)
          go_wp2
          go_region_with (go_at_call 31; refine (gdiv_b _ _ _).mono ?_; rintro e w4 ⟨rfl, hb4⟩)
          all_goals
            have hDr := below_drewN (Below.refl wr.heap.size wr)
            have HB4 := Lib.hid ((hDr _).trans hb4)
            have HOR4 := Lib.hid (own_below HOR.out HB4.out)
            have HOQ4 := Lib.hid (own_below HOQ.out HB4.out)
            have HYB4 := Lib.hid (HYB.out.below HB4.out)
            have hs4 : w2.heap.size < w4.heap.size := Nat.lt_of_lt_of_le hsz HB4.out.size
            have HBB4 := Lib.hid (HB.out.trans (HB4.out.mono HB.out.size))
            clear hb4 hDr hc3 hf3 hcb
            generalize Gf.gm R[j + (b.length - 1)] (Gf.inv b[b.length - 1]) = f at *
            have hcq := HOQ4.out.cellAt j (by omega)
            have hfq := HOQ4.out.frozenAt j
            rw [bv_at Q (by omega)] at hcq
            have HOQ5 := Lib.hid (own_store HOQ4.out j f)
            have HG5 := Lib.hid (HOQ4.out.stored j (B f)).2
            have HOR5 := Lib.hid (HOR4.out.kept HG5.out (by right; simp [Value.ownBlock]; omega))
            have HYB5 := Lib.hid (Sl.grown HYB4.out HG5.out (fun ad g h1 h2 => by cases h1; cases h2; omega))
            have HBB5 := Lib.hid (HBB4.out.setCell (p := ⟨w2.heap.size, j, none⟩) hwq (B f))
            have hs5 : w2.heap.size < (w4.setCell ⟨w2.heap.size, j, none⟩ (B f)).heap.size := by simpa [World.setCell] using hs4
            clear hs4
            obtain ⟨W5, hW5⟩ : ∃ W5, W5 = w4.setCell ⟨w2.heap.size, j, none⟩ (B f) := ⟨_, rfl⟩
            rw [← hW5] at HOQ5 HG5 HOR5 HYB5 HBB5 hs5
            have HW5 := Lib.hid hW5
            clear hW5
            go_wp2
            go_loopw [60] (fun i wq => ∃ k : Nat, i = .int .i64 (k : Int) ∧ k ≤ b.length ∧ W5.grownBy wq (some g1) ∧ wq.ownsRow w.heap.size 5 1 (.slice (some ⟨g1, 0, none⟩) P.length c1) P.length (bv (rowIn f b j k R))) (fun i _ => b.length - (intOf i).toNat)
            case atStart => exact ⟨0, rfl, Nat.zero_le _, by rw [HW5.out]; exact World.grownBy.refl _ _, by have := HOR5.out; rw [HW5.out] at this; exact this⟩
            case round =>
              obtain ⟨k, rfl, hk, hgr, hor⟩ := hrel
              have HGR := Lib.hid hgr
              have HOR6 := Lib.hid hor
              clear hgr hor
              by_cases hkb : k < b.length
              · have hik : j + k < R.length := by omega
                obtain ⟨hc1', hf1⟩ := own_cells HOR6.out (j := j + k) (by omega) (by rw [rowIn_length]; omega)
                obtain ⟨_, e2, hlt2, hcb⟩ := Byt.at_ HYB5.out hkb
                cases e2
                have hcb' := HGR.out.cell hcb (by rw [add_block]; intro h; injection h with h; omega)
                have HS := Lib.hid (rowIn_succ (x := f) (i := j) (out := R) hkb hik)
                have hw0 : (0 : Int) ≤ (j : Int) + (k : Int) := by omega
                have hw1 : (j : Int) + (k : Int) < (P.length : Int) := by omega
                have hw2 : ((j : Int) + (k : Int)).toNat = j + k := by omega
                have hw3 := IntWalk.i64_in ((j : Int) + (k : Int)) (by omega)
                clear hcb hlt2 hcq hfq
                go_wp2
                refine wp_region_still_tail 18 (by kernel_rfl) (by kernel_rfl) ?_
                simp only [List.take_succ_cons, List.take_zero, List.drop_succ_cons, List.drop_zero]
                repeat (first | still_step | still_call (gmul_b _ _ _) | still_call (gadd_b _ _ _))
                refine wpStill_nil ?_
                change wpList _ _ _ _ _ wr.drew
                go_wp2
                go_roundw
                case rel => exact ⟨k + 1, by go_num, by omega, (grown_drew HGR.out).trans (own_drew HOR6.out |>.stored (j + k) (B _)).2, by rw [HS.out]; exact own_store (own_drew HOR6.out) (j + k) _⟩
                case measure => simp [intOf]; omega
              · have hkeq : k = b.length := by omega
                have HK := Lib.hid hkeq
                clear hkeq hcq hfq
                go_wp2
                go_roundw
                case rel =>
                  refine ⟨j, Q.set j f, rowIn f b j b.length R, rfl, by rw [← HRUN.out, HMORE.out], by omega, by rw [List.length_set]; exact HQL.out, by rw [rowIn_length]; exact HRL.out, ?_, ?_, ?_, ?_, ?_⟩
                  · have := HOR6.out; rw [HK.out] at this; exact this
                  · exact HOQ5.out.kept HGR.out (by right; simp [Value.ownBlock]; omega)
                  · exact Sl.grown HYB5.out HGR.out (fun ad g h1 h2 => by cases h1; cases h2; omega)
                  · exact HBB5.out.grown HGR.out HBB5.out.size (fun k hk => by cases hk; exact hg1)
                  · exact Nat.lt_of_lt_of_le hs5 HGR.out.size
                case measure => simp [intOf]
        · obtain rfl : s = 0 := by omega
          have HR0 := Lib.hid (show dvRun b s0 (List.replicate s0 0, P) = (Q, R) from HRUN.out.symm)
          obtain ⟨A5, c5, e5, hy5, _⟩ := byt_own (l := Q) (by rw [HQL.out] at *; exact HOQ.out)
          obtain ⟨A6, c6, e6, hy6, _⟩ := byt_own (l := R) (HOR.out)
          injection e5 with e51 e52 e53
          injection e6 with e61 e62 e63
          subst e51 e53 e61 e63
          have HY5 := Lib.hid hy5
          have HY6 := Lib.hid hy6
          clear hy5 hy6 e52 e62
          go_wp2_with fail
          refine (trim_b _ _ s0 s0 Q HY5.out (by omega)).mono ?_
          rintro e w5 ⟨v5, rfl, hown, hb⟩
          have HB5 := Lib.hid (HB.out.trans (hb.mono HB.out.size))
          have HO5 := Lib.hid (own_mono hown HB.out.size)
          have HY7 := Lib.hid (HY6.out.below hb)
          clear hown hb
          go_wp2_with fail
          refine (trim_b _ _ P.length c1 R HY7.out (by omega)).mono ?_
          rintro e w6 ⟨v6, rfl, hown, hb⟩
          have HB6 := Lib.hid (HB5.out.trans (hb.mono HB5.out.size))
          have HO6 := Lib.hid (own_mono hown HB5.out.size)
          have HO56 := Lib.hid (own_below HO5.out hb)
          clear hown hb
          go_wp2
          go_ret3
          unfold Gives3
          rw [HD.out, HR0.out]
          exact ⟨v5, v6, rfl, HO56.out, HO6.out, HB6.out⟩
    · obtain rfl : s0 = 0 := by omega
      have hbz : ((b.length : Int) == 0) = false := by rw [beq_eq_false_iff_ne]; omega
      have hmk : ∀ W : World, (Instr.makeSlice 22 (.int .i64 0) (.int .i64 0)).run Try.prog W = .ok (.slice (some ⟨W.heap.size, 0, none⟩) 0 0) (W.alloc (.cells (madeCells (Value.int .u8 0).cells (0 * 1)) 5)) := fun W => by
        have := run_make_blk (P := Try.prog) W 22 5 i0 (.int .u8 0) Try.underlying22 hi hz0 .i64 .i64 0 (by omega) (by omega)
        rw [hz1] at this
        exact this
      have hz0' : ((0 : Nat) : Int) = 0 := rfl
      have hms : (madeCells (Value.int .u8 0).cells (0 * 1)) = #[] := by simp [madeCells]
      rw [hms] at hmk
      clear hms hz0' hs0 hi hz0 hz1 hz2
      go_enter Try.func26, Try.ntmps26
      go_wp2_with fail
      refine (trim_b _ A n c p H.out (by omega)).mono ?_
      rw [← HPQ.out]
      rintro e w1 ⟨v1, rfl, hown, hb⟩
      have HB1 := Lib.hid hb
      have H1 := Lib.hid (H'.out.below hb)
      obtain ⟨A1, c1, rfl, hy1, _⟩ := byt_own hown
      have hc1 : P.length ≤ c1 := hy1.1
      have hc1m : c1 ≤ 9223372036854775807 := hy1.2.1
      have HY1 := Lib.hid hy1
      clear hown hy1
      go_wp2_with fail
      refine (trim_b _ A' n' c' q H1.out (by omega)).mono ?_
      rw [← HBQ.out]
      rintro e w2 ⟨v2, rfl, hown, hb2⟩
      obtain ⟨A2, c2, rfl, hy, hA2⟩ := byt_own hown
      have hc2 : b.length ≤ c2 := hy.1
      have hc2m : c2 ≤ 9223372036854775807 := hy.2.1
      have HB2 := Lib.hid (HB1.out.trans (hb2.mono HB1.out.size))
      have HY2 := Lib.hid ((HY1.out.below hb2).alloc (.cells #[] 5))
      clear hown hb hb2 hy hA2
      have HL := Lib.hid (lit_byt w2 w2.heap.size rfl [] #[] rfl 0 rfl (by omega))
      have HBA := Lib.hid (HB2.out.alloc HB2.out.size (.cells #[] 5))
      go_wp2_with fail
      refine wp_loop_rounds 1 ?_
      rw [rounds_succ]
      go_wp2_with fail
      refine (trim_b _ _ 0 0 [] HL.out (by simp)).mono ?_
      rintro e w5 ⟨v5, rfl, hown, hb⟩
      have HB5 := Lib.hid (HBA.out.trans (hb.mono HBA.out.size))
      have HO5 := Lib.hid (own_mono hown HBA.out.size)
      have HY7 := Lib.hid (HY2.out.below hb)
      clear hown hb
      go_wp2_with fail
      refine (trim_b _ A1 P.length c1 P HY7.out (by omega)).mono ?_
      rintro e w6 ⟨v6, rfl, hown, hb⟩
      have HB6 := Lib.hid (HB5.out.trans (hb.mono HB5.out.size))
      have HO6 := Lib.hid (own_mono hown HB5.out.size)
      have HO56 := Lib.hid (own_below HO5.out hb)
      clear hown hb
      go_wp2
      go_ret3
      unfold Gives3
      rw [HD.out]
      exact ⟨v5, v6, rfl, HO56.out, HO6.out, HB6.out⟩

end Go.Proofs.Ytphlagmalppbkaa
