/- Walk of the program's interpolation. -/
import Derived.Test.YtpljpceldlaphaaPs
import Derived.Deep.RegionWith
namespace Go.Proofs.Ytpljpceldlaphaa
open Go.RowKit

/-- the value of a polynomial as Eval computes it -/
def ev (p : List UInt8) (x : UInt8) : UInt8 := evTo p x p.length
/-- Newton's form after k points: the polynomial, and the one that is zero at all of them -/
def ipSt (xs ys : List UInt8) : Nat → Option (List UInt8 × List UInt8)
  | 0 => some ([], [1])
  | k + 1 => match ipSt xs ys k with
    | none => none
    | some (o, z) =>
      if ev z (xs.getD k 0) = 0 then none
      else some (padd o (pmul [Gf.gm (Gf.ga (ys.getD k 0) (ev o (xs.getD k 0))) (Gf.inv (ev z (xs.getD k 0)))] z), pmul z [xs.getD k 0, 1])
/-- what Interpolate hands back -/
def ipRun (xs ys : List UInt8) : List UInt8 × Int :=
  if xs.length = ys.length then
    match ipSt xs ys xs.length with
    | none => ([], 8)
    | some (o, _) => (o, 0)
  else ([], 1)
theorem ipSt_none {xs ys : List UInt8} {k : Nat} (h : ipSt xs ys k = none) : ∀ m, ipSt xs ys (k + m) = none
  | 0 => h
  | m + 1 => by
    show (match ipSt xs ys (k + m) with | none => none | some (o, z) => _) = none
    rw [ipSt_none h m]
theorem ipSt_len {xs ys : List UInt8} : ∀ {k : Nat} {o z : List UInt8}, ipSt xs ys k = some (o, z) → o.length ≤ 3 * k ∧ z.length ≤ 2 * k + 1
  | 0, o, z, h => by
    have : some ([], [1]) = some (o, z) := h
    injection this with this
    injection this with h1 h2
    subst h1 h2
    simp
  | k + 1, o, z, h => by
    have h' : (match ipSt xs ys k with
      | none => none
      | some (o, z) =>
        if ev z (xs.getD k 0) = 0 then none
        else some (padd o (pmul [Gf.gm (Gf.ga (ys.getD k 0) (ev o (xs.getD k 0))) (Gf.inv (ev z (xs.getD k 0)))] z), pmul z [xs.getD k 0, 1])) = some (o, z) := h
    cases hk : ipSt xs ys k with
    | none => rw [hk] at h'; cases h'
    | some oz =>
      obtain ⟨o', z'⟩ := oz
      rw [hk] at h'
      obtain ⟨l1, l2⟩ := ipSt_len hk
      simp only at h'
      split at h'
      · cases h'
      · injection h' with h'
        injection h' with h1 h2
        subst h1 h2
        have hm : ∀ a b, (pmul a b).length ≤ a.length + b.length := fun a b => by
          unfold pmul
          have := trim_length (mulSt a b a.length)
          rwa [mulSt_length] at this
        have h3 := hm [Gf.gm (Gf.ga (ys.getD k 0) (ev o' (xs.getD k 0))) (Gf.inv (ev z' (xs.getD k 0)))] z'
        have h4 := hm z' [xs.getD k 0, 1]
        have h5 := padd_length o' (pmul [Gf.gm (Gf.ga (ys.getD k 0) (ev o' (xs.getD k 0))) (Gf.inv (ev z' (xs.getD k 0)))] z')
        simp only [List.length_cons, List.length_nil] at h3 h4
        omega
theorem ipSt_yes {xs ys : List UInt8} {k : Nat} {o z : List UInt8} (h : ipSt xs ys k = some (o, z)) (hx : k < xs.length) (hy : k < ys.length) (h0 : ¬ ev z xs[k] = 0) :
    ipSt xs ys (k + 1) = some (padd o (pmul [Gf.gm (Gf.ga ys[k] (ev o xs[k])) (Gf.inv (ev z xs[k]))] z), pmul z [xs[k], 1]) := by
  rw [ipSt, h]
  simp only [getD_lt hx, getD_lt hy]
  rw [if_neg h0]
theorem ipSt_no {xs ys : List UInt8} {k : Nat} {o z : List UInt8} (h : ipSt xs ys k = some (o, z)) (hx : k < xs.length) (h0 : ev z xs[k] = 0) : ipSt xs ys (k + 1) = none := by
  rw [ipSt, h]
  simp only [getD_lt hx]
  rw [if_pos h0]

/-- what a call leaves that hands back a slice of bytes of its own and an error number -/
def Gives2 (w : World) (r : List UInt8 × Int) (e : Ending) (w' : World) : Prop :=
  ∃ v, e = .returned (.tuple #[v, .int .i64 r.2]) ∧ w'.ownsRow w.heap.size 5 1 v r.1.length (bv r.1) ∧ Below w.heap.size w w'

set_option maxRecDepth 100000 in
set_option maxHeartbeats 1000000 in
theorem interp_b (w : World) (A : Option Addr) (n c : Nat) (xs : List UInt8) (A' : Option Addr) (n' c' : Nat) (ys : List UInt8) (h : Byt w A n c xs) (h' : Byt w A' n' c' ys) (hp : xs.length ≤ 64) :
    Calls Try.prog 24 #[.slice A n c, .slice A' n' c'] w (Gives2 w (ipRun xs ys)) := by
  have hn := h.len
  have hn' := h'.len
  have hlc : n ≤ c := h.1
  have hcm : c ≤ 9223372036854775807 := h.2.1
  have hlc' : n' ≤ c' := h'.1
  have hcm' : c' ≤ 9223372036854775807 := h'.2.1
  have hbd : n ≤ 64 := by omega
  have H := Lib.hid h
  have H' := Lib.hid h'
  have HN := Lib.hid hn
  have HN' := Lib.hid hn'
  clear h h' hp
  by_cases hnn : n = n'
  · subst hnn
    have HR := Lib.hid (show ipRun xs ys = match ipSt xs ys xs.length with | none => ([], 8) | some (o, _) => (o, 0) by unfold ipRun; rw [if_pos (by rw [← hn, ← hn'])])
    clear hn hn'
    go_enter Try.func24, Try.ntmps24
    go_wp2
    go_loopw [6, 7, 20] (fun vo vz i wr => ∃ (k : Nat) (o z : List UInt8), k ≤ n ∧ i = .int .i64 (k : Int) ∧ ipSt xs ys k = some (o, z) ∧ wr.ownsRow w.heap.size 5 1 vo o.length (bv o) ∧ wr.ownsRow w.heap.size 5 1 vz z.length (bv z) ∧ Below w.heap.size w wr) (fun _ _ i _ => n - (intOf i).toNat)
    case atStart => exact ⟨0, [], [1], by omega, rfl, rfl, World.ownsRow_nil _ _ _ _, World.ownsRow_lit w #[.int .u8 1] 1 (Nat.le_refl _) (by unfold maxLen; omega) rfl, (Below.refl _ w).alloc (Nat.le_refl _) _⟩
    case round =>
      obtain ⟨k, o, z, hk, rfl, hst, hoo, hoz, hb⟩ := hrel
      obtain ⟨A1, c1, rfl, hO, _⟩ := byt_own hoo
      obtain ⟨A2, c2, rfl, hZ, _⟩ := byt_own hoz
      have hlen := ipSt_len hst
      have HO := Lib.hid hO
      have HZ := Lib.hid hZ
      have HOO := Lib.hid hoo
      have HB := Lib.hid hb
      have HST := Lib.hid hst
      have hol : o.length ≤ 192 := by omega
      have hzl : z.length ≤ 129 := by omega
      have HX := Lib.hid (H.out.below hb)
      have HY := Lib.hid (H'.out.below hb)
      clear hO hZ hoo hoz hb hst hlen
      by_cases hlt : k < n
      · have hx : k < xs.length := by rw [← HN.out]; omega
        have hy : k < ys.length := by rw [← HN'.out]; omega
        obtain ⟨ad, rfl, _, hcx⟩ := Byt.at_ HX.out hx
        obtain ⟨ad', rfl, _, hcy⟩ := Byt.at_ HY.out hy
        have HC1 := Lib.hid (fun W (hW : W.heap = wr.heap) => eval_b W A1 o.length c1 o xs[k] (HO.out.heap_ hW))
        have HC2 := Lib.hid (fun W (hW : W.heap = wr.heap) => eval_b W A2 z.length c2 z xs[k] (HZ.out.heap_ hW))
        go_wp2
        go_region_with (first
          | (go_at_call 25; (first | (with_reducible refine (HC1.out _ ?_).mono ?_) | (with_reducible refine (HC2.out _ ?_).mono ?_)); rfl; rintro e w1 ⟨rfl, d, rfl⟩)
          | (go_at_call 37; refine (gadd_b _ _ _).mono ?_; rintro e w1 ⟨rfl, rfl⟩)
          | (go_at_call 36; refine (gdiv_b _ _ _).mono ?_; rintro e w1 ⟨rfl, hb1⟩))
        all_goals
          have HB1 := Lib.hid ((below_drewN (Below.refl wr.heap.size wr) _).trans hb1)
          clear hb1
          have hyes := fun h0 => ipSt_yes (xs := xs) (ys := ys) HST.out hx hy h0
          unfold ev at hyes
          have HYES := Lib.hid hyes
          clear hyes HC1 HC2
          cases h0 : (evTo z xs[k] z.length == 0) with
          | true =>
            have HNO := Lib.hid (ipSt_no (ys := ys) HST.out hx (by simpa [ev] using h0))
            have HBB := Lib.hid (HB.out.trans (HB1.out.mono HB.out.size))
            go_wp2
            go_ret2
            have hr : ipRun xs ys = ([], 8) := by
              obtain ⟨m, hm⟩ : ∃ m, xs.length = k + 1 + m := ⟨xs.length - (k + 1), by omega⟩
              have := ipSt_none HNO.out m
              rw [← hm] at this
              rw [HR.out, this]
            unfold Gives2
            rw [hr]
            exact ⟨.slice none 0 0, rfl, World.ownsRow_nil _ _ _ _, HBB.out⟩
          | false =>
            have HS := Lib.hid (HYES.out (by simpa using h0))
            generalize Gf.gm (Gf.ga ys[k] (evTo o xs[k] o.length)) (Gf.inv (evTo z xs[k] z.length)) = s at *
            have HZ1 := Lib.hid (HZ.out.below HB1.out)
            have HBy := Lib.hid (Blk.byt (l := [s]) (Blk.new w1 5 #[B s]) rfl (show 1 ≤ maxLen by unfold maxLen; omega))
            go_wp2_with fail
            refine (pmul_b _ _ 1 1 [s] A2 z.length c2 z HBy.out (HZ1.out.alloc _) (by simp) (by omega)).mono ?_
            rintro e w2 ⟨v2, rfl, hown2, hb2⟩
            obtain ⟨A3, c3, rfl, hbyt3, _⟩ := byt_own hown2
            have HB2 := Lib.hid (((HB1.out.alloc (HB1.out.size) _)).trans (hb2.mono (by simp; exact Nat.le_succ_of_le HB1.out.size)))
            have HY3 := Lib.hid hbyt3
            have hl3 : (pmul [s] z).length ≤ 1024 := by unfold pmul; have := trim_length (mulSt [s] z [s].length); rw [mulSt_length] at this; simp at this ⊢; omega
            clear hown2 hbyt3 hb2
            have HO2 := Lib.hid (HO.out.below HB2.out)
            go_wp2_with fail
            refine (padd_b _ A1 _ c1 o A3 _ c3 _ HO2.out HY3.out (by omega) hl3).mono ?_
            rintro e w3 ⟨v3, rfl, hown3, hb3⟩
            have HB3 := Lib.hid (HB2.out.trans (hb3.mono HB2.out.size))
            have HO3 := Lib.hid (own_mono hown3 (Nat.le_trans HB.out.size HB2.out.size))
            have HZ3 := Lib.hid (HZ.out.below HB3.out)
            have HBy3 := Lib.hid (Blk.byt (l := [xs[k], 1]) (Blk.new w3 5 #[B xs[k], B 1]) rfl (show 2 ≤ maxLen by unfold maxLen; omega))
            clear hown3 hb3
            go_wp2_with fail
            refine (pmul_b _ A2 _ c2 z _ 2 2 [xs[k], 1] (HZ3.out.alloc _) HBy3.out (by omega) (by simp)).mono ?_
            rintro e w4 ⟨v4, rfl, hown4, hb4⟩
            have HB4 := Lib.hid (((HB3.out.alloc (HB3.out.size) _)).trans (hb4.mono (by simp; exact Nat.le_succ_of_le HB3.out.size)))
            have HO4 := Lib.hid (own_mono hown4 (show w.heap.size ≤ _ by simp; exact Nat.le_succ_of_le (Nat.le_trans HB.out.size HB3.out.size)))
            have HO34 := Lib.hid (own_below (own_alloc HO3.out _) hb4)
            clear hown4 hb4
            go_wp2
            go_roundw
            case rel => exact ⟨k + 1, _, _, by omega, by go_num, HS.out, HO34.out, HO4.out, HB.out.trans (HB4.out.mono HB.out.size)⟩
            case measure => simp [intOf]; omega
      · have HK := Lib.hid (show k = xs.length by rw [← HN.out]; omega)
        go_wp2
        go_ret2
        have hr : ipRun xs ys = (o, 0) := by rw [HR.out, ← HK.out, HST.out]
        unfold Gives2
        rw [hr]
        exact ⟨_, rfl, HOO.out, HB.out⟩
  · have hr : ipRun xs ys = ([], 1) := by unfold ipRun; rw [if_neg (by omega)]
    have HR := Lib.hid hr
    clear hr hn hn'
    go_enter Try.func24, Try.ntmps24
    go_wp2
    go_ret2
    unfold Gives2
    rw [HR.out]
    exact ⟨_, rfl, World.ownsRow_nil _ _ _ _, Below.refl _ _⟩

end Go.Proofs.Ytpljpceldlaphaa
