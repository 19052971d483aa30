/- Plain laws of polynomials over GF(256): values of sums and products, linear factors; the divisions' contracts where the divisor is not zero. -/
import Derived.Test.YtogcgeiocndlbaaPq
namespace Go.Proofs.Ytogcgeiocndlbaa
open Gf

theorem cf_tail (p : List UInt8) (i : Nat) : cf p.tail i = cf p (i + 1) := by
  cases p with
  | nil => rw [List.tail_nil, cf_nil, cf_nil]
  | cons a p => rfl
theorem hor_tail (x : UInt8) (p : List UInt8) : hor x p = ga (gm (hor x p.tail) x) (cf p 0) := by
  cases p with
  | nil => simp only [List.tail_nil, hor, cf_nil]; rw [zero_gm, ga_zero]
  | cons a p => rfl
theorem hor_add (x : UInt8) : ∀ (n : Nat) (l p q : List UInt8), (∀ i, cf l i = ga (cf p i) (cf q i)) → l.length ≤ n → p.length ≤ n → q.length ≤ n → hor x l = ga (hor x p) (hor x q)
  | 0, l, p, q, _, h1, h2, h3 => by
    rw [List.eq_nil_of_length_eq_zero (Nat.le_zero.1 h1), List.eq_nil_of_length_eq_zero (Nat.le_zero.1 h2), List.eq_nil_of_length_eq_zero (Nat.le_zero.1 h3)]
    exact (ga_zero 0).symm
  | n + 1, l, p, q, h, h1, h2, h3 => by
    rw [hor_tail x l, hor_tail x p, hor_tail x q, hor_add x n l.tail p.tail q.tail (fun i => by rw [cf_tail, cf_tail, cf_tail, h]) (by simp; omega) (by simp; omega) (by simp; omega), h 0, ga_gm]
    simp only [ga_assoc, ga_left_comm]
theorem hor_nil (x : UInt8) : hor x [] = 0 := rfl
theorem hor_cf (x : UInt8) {p q : List UInt8} (h : ∀ i, cf p i = cf q i) : hor x p = hor x q := by
  have := hor_add x (max p.length q.length) p q [] (fun i => by rw [h, cf_nil, ga_zero]) (by omega) (by omega) (by simp)
  rwa [hor_nil, ga_zero] at this
theorem hor_zero (x : UInt8) {p : List UInt8} (h : ∀ i, cf p i = 0) : hor x p = 0 := hor_cf x (q := []) fun i => by rw [h, cf_nil]
theorem hor_padd (x : UInt8) (p q : List UInt8) : hor x (padd p q) = ga (hor x p) (hor x q) :=
  hor_add x (max (padd p q).length (max p.length q.length)) _ _ _ (cf_padd p q) (by omega) (by omega) (by omega)
theorem hor_map (x c : UInt8) (p : List UInt8) : hor x (p.map (gm c)) = gm c (hor x p) := by
  induction p with
  | nil => exact (gm_zero c).symm
  | cons a p ih => simp only [List.map_cons, hor]; rw [ih, gm_ga, gm_assoc]
theorem cf_map (c : UInt8) (p : List UInt8) (i : Nat) : cf (p.map (gm c)) i = gm c (cf p i) := by
  by_cases h : i < p.length
  · rw [cf_lt (by simpa using h), cf_lt h]; simp
  · rw [cf_ge (by simpa using h), cf_ge (by omega), gm_zero]
theorem hor_mul (x : UInt8) (q : List UInt8) : ∀ (p l : List UInt8), (∀ n, cf l n = mulF p (cf q) n) → hor x l = gm (hor x p) (hor x q)
  | [], l, h => by rw [hor_zero x h]; exact (zero_gm _).symm
  | a :: p, l, h => by
    have e := hor_add x (max l.length (max (q.map (gm a)).length (0 :: pmul p q).length)) l (q.map (gm a)) (0 :: pmul p q) (fun i => by
      rw [h, cf_map]
      show ga (gm a (cf q i)) (sh (mulF p (cf q)) i) = _
      congr 1
      cases i with
      | zero => rfl
      | succ i => exact (cf_pmul p q i).symm) (by omega) (by omega) (by omega)
    rw [e, hor_map]
    show ga (gm a (hor x q)) (ga (gm (hor x (pmul p q)) x) 0) = gm (ga (gm (hor x p) x) a) (hor x q)
    rw [hor_mul x q p (pmul p q) (cf_pmul p q), ga_zero, ga_gm, ga_comm, gm_assoc, gm_assoc, gm_comm (hor x q) x]
theorem hor_pmul (x : UInt8) (p q : List UInt8) : hor x (pmul p q) = gm (hor x p) (hor x q) := hor_mul x q p _ (cf_pmul p q)
theorem hor_trim (x : UInt8) (p : List UInt8) : hor x (trim p) = hor x p := hor_cf x (cf_trim p)

/-! linear factors -/
theorem hor_lin (x a : UInt8) : hor x [a, 1] = ga x a := by
  show ga (gm (ga (gm 0 x) 1) x) a = _
  rw [zero_gm, zero_ga, one_gm]
theorem canon_lin (a : UInt8) : Canon [a, 1] := .inr (by show (1 : UInt8) ≠ 0; decide)
theorem trim_lin (a : UInt8) : trim [a, 1] = [a, 1] := trim_canon (canon_lin a)
theorem lin_ne (a : UInt8) : trim [a, 1] ≠ [] := by rw [trim_lin]; simp
theorem canon_one : Canon [1] := .inr (by show (1 : UInt8) ≠ 0; decide)
/-- quotient and remainder -/
def pquo (p q : List UInt8) : List UInt8 := (divRun p q).1
def prem (p q : List UInt8) : List UInt8 := (divRun p q).2.1
theorem div_eq {p q : List UInt8} (hq : trim q ≠ []) : divRun p q = (pquo p q, prem p q, true) := by
  have := (div_law (p := p) hq).1
  unfold pquo prem
  rw [← this]
theorem canon_small {l : List UInt8} (h : Canon l) (hl : l.length < 2) (x : UInt8) : l = trim [hor x l] := by
  refine canon_ext h (canon_trim _) fun i => ?_
  rw [cf_trim]
  cases i with
  | zero =>
    show cf l 0 = hor x l
    rw [hor_tail, hor_zero x (p := l.tail) (fun i => by rw [cf_tail]; exact cf_ge (by omega)), zero_gm, zero_ga]
  | succ i => rw [cf_ge (by omega), cf_ge (by simp)]
theorem prem_lin (p : List UInt8) (x : UInt8) : prem p [x, 1] = trim [hor x p] := by
  obtain ⟨_, _, hc, hl, he⟩ := div_law (p := p) (lin_ne x)
  rw [trim_lin] at hl he
  have hv : hor x (prem p [x, 1]) = hor x p := by
    have h1 : hor x p = ga (hor x (pmul [x, 1] (pquo p [x, 1]))) (hor x (prem p [x, 1])) :=
      hor_add x (max p.length (max (pmul [x, 1] (pquo p [x, 1])).length (prem p [x, 1]).length)) _ _ _ (fun i => by rw [cf_pmul]; exact he i) (by omega) (by omega) (by omega)
    rw [hor_pmul, hor_lin, ga_self, zero_gm, zero_ga] at h1
    exact h1.symm
  rw [← hv]
  exact canon_small hc hl x
theorem pmul_lin_length {p : List UInt8} (hp : Canon p) (hpn : p ≠ []) (r : UInt8) : (pmul p [r, 1]).length = p.length + 1 ∧ pmul p [r, 1] ≠ [] := by
  have hl : 0 < p.length := List.length_pos_iff.2 hpn
  obtain ⟨p', a, h1, h2, h3⟩ := split_last hpn
  have hlead : cf (pmul p [r, 1]) p.length = a := by
    rw [cf_pmul]
    have := mulF_lead p' a (f := cf [r, 1]) (m := 1) (fun i hi => cf_ge (by simp; omega))
    rw [← h1, h2, show p.length - 1 + 1 = p.length by omega] at this
    rw [this]
    show gm a 1 = a
    exact gm_one a
  have ha : a ≠ 0 := by rw [← h3]; exact canon_ne hp hpn
  have hle := pmul_length p [r, 1]
  have hup : (pmul p [r, 1]).length ≤ p.length + 1 := canon_len (canon_pmul _ _) fun i hi => by
    rw [cf_pmul]
    exact mulF_above p (m := 2) (fun i hi => cf_ge (by simpa using hi)) i (by omega) (.inr trivial)
  have hlo : p.length < (pmul p [r, 1]).length := by
    rcases Nat.lt_or_ge p.length (pmul p [r, 1]).length with h | h
    · exact h
    · rw [cf_ge h] at hlead; exact absurd hlead.symm ha
  exact ⟨by omega, fun h => by rw [h] at hlo; simp at hlo⟩

open Go.RowKit

/-- what a division by a divisor that is not zero leaves -/
def GivesD (w : World) (d r : List UInt8) (e : Ending) (w' : World) : Prop :=
  ∃ v1 v2, e = .returned (.tuple #[v1, v2, .bool true]) ∧ w'.ownsRow w.heap.size 5 1 v1 d.length (bv d) ∧ w'.ownsRow w.heap.size 5 1 v2 r.length (bv r) ∧ Below w.heap.size w w'
theorem pquo_length (p q : List UInt8) (hq : trim q ≠ []) (hp : p.length ≤ 128) : (pquo p q).length ≤ 128 := by
  obtain ⟨_, hc, _, hl, he⟩ := div_law (p := p) hq
  have hb := canon_trim q
  rcases Nat.lt_or_ge 128 (pquo p q).length with h | h
  · exfalso
    have hne : pquo p q ≠ [] := fun h0 => by rw [h0] at h; simp at h
    obtain ⟨b', a, h1, h2, h3⟩ := split_last hq
    have hbl : 0 < (trim q).length := List.length_pos_iff.2 hq
    have e1 := mulF_lead b' a (f := cf (pquo p q)) (m := (pquo p q).length - 1) (fun i hi => cf_ge (by omega))
    rw [← h1, h2] at e1
    have e2 := he ((trim q).length - 1 + ((pquo p q).length - 1))
    rw [cf_ge (by omega : p.length ≤ _)] at e2
    have e3 : cf (divRun p q).2.1 ((trim q).length - 1 + ((pquo p q).length - 1)) = 0 := cf_ge (by omega)
    rw [e3, ga_zero] at e2
    rw [show mulF (trim q) (cf (divRun p q).1) = mulF (trim q) (cf (pquo p q)) from rfl, e1] at e2
    rcases gm_eq_zero e2.symm with h4 | h4
    · exact canon_ne hb hq (h3.trans h4)
    · exact canon_ne hc hne h4
  · exact h
theorem prem_length (p q : List UInt8) (hq : trim q ≠ []) : (prem p q).length < (trim q).length := (div_law (p := p) hq).2.2.2.1
theorem div_back (p q : List UInt8) (hq : trim q ≠ []) : padd (pmul (pquo p q) q) (prem p q) = trim p := canon_ext (canon_padd _ _) (canon_trim _) fun i => by
  rw [cf_padd, cf_pmul, cf_trim, (div_law (p := p) hq).2.2.2.2 i, mulF_comm, mulF_left (pquo p q) (fun n => (cf_trim q n).symm)]
  rfl
theorem trim_pquo (p q : List UInt8) (hq : trim q ≠ []) : trim (pquo p q) = pquo p q := trim_canon (div_law hq).2.1
theorem trim_prem (p q : List UInt8) (hq : trim q ≠ []) : trim (prem p q) = prem p q := trim_canon (div_law hq).2.2.1

end Go.Proofs.Ytogcgeiocndlbaa
