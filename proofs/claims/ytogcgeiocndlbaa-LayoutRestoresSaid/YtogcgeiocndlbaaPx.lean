/- Plain laws of polynomials over GF(256): coefficients, values, sums, products. No program in sight. -/
import Derived.Test.YtogcgeiocndlbaaPi
namespace Go.Proofs.Ytogcgeiocndlbaa
open Gf

/-! the field again, under 'ga' -/
theorem ga_comm (a b : UInt8) : ga a b = ga b a := UInt8.xor_comm a b
theorem ga_assoc (a b c : UInt8) : ga (ga a b) c = ga a (ga b c) := UInt8.xor_assoc a b c
theorem ga_left_comm (a b c : UInt8) : ga a (ga b c) = ga b (ga a c) := by rw [← ga_assoc, ga_comm a b, ga_assoc]
theorem ga_self (a : UInt8) : ga a a = 0 := UInt8.xor_self
theorem gm_ga (a b c : UInt8) : gm a (ga b c) = ga (gm a b) (gm a c) := gm_xor a b c
theorem ga_gm (a b c : UInt8) : gm (ga a b) c = ga (gm a c) (gm b c) := xor_gm a b c
theorem ga_eq_zero {a b : UInt8} (h : ga a b = 0) : a = b := xor_eq_zero h
theorem ga_cancel {a b c : UInt8} (h : ga a b = ga a c) : b = c := by
  have : ga a (ga a b) = ga a (ga a c) := by rw [h]
  rwa [← ga_assoc, ← ga_assoc, ga_self, zero_ga, zero_ga] at this
theorem ga_move {a b c : UInt8} (h : ga a b = c) : a = ga c b := by rw [← h, ga_assoc, ga_self, ga_zero]

/-- the value by Horner's rule -/
def hor (x : UInt8) : List UInt8 → UInt8
  | [] => 0
  | a :: p => ga (gm (hor x p) x) a
theorem evTo_hor (l : List UInt8) (x : UInt8) : ∀ k, k ≤ l.length → evTo l x k = hor x (l.drop (l.length - k))
  | 0, _ => by simp [evTo, hor]
  | k + 1, h => by
    have e : l.drop (l.length - (k + 1)) = l[l.length - (k + 1)] :: l.drop (l.length - k) := by
      rw [List.drop_eq_getElem_cons (by omega)]
      congr 2
      omega
    rw [e]
    show ga (gm (evTo l x k) x) (l.getD (l.length - 1 - k) 0) = ga (gm (hor x (l.drop (l.length - k))) x) _
    rw [evTo_hor l x k (by omega), getD_lt (by omega : l.length - 1 - k < l.length)]
    congr 2
    omega
theorem ev_hor (l : List UInt8) (x : UInt8) : ev l x = hor x l := by
  unfold ev
  rw [evTo_hor l x _ (Nat.le_refl _)]
  simp
theorem rev_hor (l : List UInt8) (x : UInt8) : ∀ k, k ≤ l.length → hor x l = ga (rev l x k).1 (gm (rev l x k).2 (hor x (l.drop k)))
  | 0, _ => by simp only [rev, List.drop_zero]; rw [one_gm, zero_ga]
  | k + 1, h => by
    rw [rev_hor l x k (by omega), List.drop_eq_getElem_cons (by omega : k < l.length), rev_succ (by omega : k < l.length)]
    simp only [hor]
    rw [gm_ga, gm_comm (hor x (l.drop (k + 1))) x, ← gm_assoc, ga_comm (gm (gm _ x) _), ← ga_assoc, gm_comm l[k]]
theorem rev_ev (l : List UInt8) (x : UInt8) : (rev l x l.length).1 = evTo l x l.length := by
  have h := rev_hor l x l.length (Nat.le_refl _)
  rw [List.drop_length] at h
  simp only [hor] at h
  rw [gm_zero, ga_zero, ← ev_hor] at h
  exact h.symm

end Go.Proofs.Ytogcgeiocndlbaa
