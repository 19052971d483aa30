/- BLAKE2s of the reference: how it lays the words of a block, in plain Lean. -/
import Derived.Test.YtnllocghmnhooaaDoorCb
namespace Go.Proofs.YtnllocghmnhooaaDoor
open Go.RowKit
set_option linter.unusedVariables false
namespace Bk

/-- the words behind i bytes -/
def mr (b : List UInt8) : Nat → List Int
  | 0 => List.replicate 16 0
  | i + 1 => (mr b i).set (i / 4) (orr ((mr b i).getD (i / 4) 0) (((b.getD i 0).toNat : Int) * 2 ^ (8 * (i % 4)) % 4294967296))
theorem mr_len (b : List UInt8) : ∀ i, (mr b i).length = 16
  | 0 => by simp [mr]
  | i + 1 => by show (List.set _ _ _).length = _; rw [List.length_set, mr_len b i]
theorem orr_zero {x : Int} (h : W x) : orr 0 x = x := by
  obtain ⟨n, rfl, hn⟩ := h.nat
  have := orr_nat 0 n (by omega) hn
  rw [Nat.zero_or] at this
  exact this
theorem mr_four (b : List UInt8) {k : Nat} (hk : k < 16) (h : mr b (4 * k) = mz b k) : mr b (4 * (k + 1)) = mz b (k + 1) := by
  have hl := mr_len b (4 * k)
  have d0 : 4 * k / 4 = k := by omega
  have d1 : (4 * k + 1) / 4 = k := by omega
  have d2 : (4 * k + 2) / 4 = k := by omega
  have d3 : (4 * k + 3) / 4 = k := by omega
  have m0 : 4 * k % 4 = 0 := by omega
  have m1 : (4 * k + 1) % 4 = 1 := by omega
  have m2 : (4 * k + 2) % 4 = 2 := by omega
  have m3 : (4 * k + 3) % 4 = 3 := by omega
  have z0 : (mz b k).getD k 0 = 0 := by
    unfold mz
    rw [List.getD_eq_getElem?_getD, List.getElem?_append_right (by rw [mws_len]; omega), mws_len, Nat.sub_self, List.getElem?_replicate]
    rw [if_pos (by omega)]; rfl
  have key : ∀ (l : List Int) (x y : Int), k < l.length → ((l.set k x).set k (orr ((l.set k x).getD k 0) y)) = l.set k (orr x y) := fun l x y hl => by
    rw [set_getD_eq hl, List.set_set]
  have hz : k < (mz b k).length := by rw [mz_len b (by omega)]; exact hk
  have e1 : mr b (4 * k + 1) = (mz b k).set k (orr 0 (((b.getD (4 * k) 0).toNat : Int) * 2 ^ (8 * 0) % 4294967296)) := by
    show (mr b (4 * k)).set (4 * k / 4) _ = _
    rw [d0, m0, h, z0]
  have e2 : mr b (4 * k + 2) = (mz b k).set k (orr (orr 0 (((b.getD (4 * k) 0).toNat : Int) * 2 ^ (8 * 0) % 4294967296)) (((b.getD (4 * k + 1) 0).toNat : Int) * 2 ^ (8 * 1) % 4294967296)) := by
    show (mr b (4 * k + 1)).set ((4 * k + 1) / 4) _ = _
    rw [d1, m1, e1, key _ _ _ hz]
  have e3 : mr b (4 * k + 3) = (mz b k).set k (orr (orr (orr 0 (((b.getD (4 * k) 0).toNat : Int) * 2 ^ (8 * 0) % 4294967296)) (((b.getD (4 * k + 1) 0).toNat : Int) * 2 ^ (8 * 1) % 4294967296)) (((b.getD (4 * k + 2) 0).toNat : Int) * 2 ^ (8 * 2) % 4294967296)) := by
    show (mr b (4 * k + 2)).set ((4 * k + 2) / 4) _ = _
    rw [d2, m2, e2, key _ _ _ hz]
  rw [show 4 * (k + 1) = 4 * k + 3 + 1 by omega, ← mz_succ b hk]
  show (mr b (4 * k + 3)).set ((4 * k + 3) / 4) _ = _
  rw [d3, m3, e3, key _ _ _ hz]
  have t0 := (b.getD (4 * k) 0).toNat_lt
  have t1 := (b.getD (4 * k + 1) 0).toNat_lt
  have t2 := (b.getD (4 * k + 2) 0).toNat_lt
  have t3 := (b.getD (4 * k + 3) 0).toNat_lt
  unfold wd
  generalize (b.getD (4 * k) 0).toNat = x0 at *
  generalize (b.getD (4 * k + 1) 0).toNat = x1 at *
  generalize (b.getD (4 * k + 2) 0).toNat = x2 at *
  generalize (b.getD (4 * k + 3) 0).toNat = x3 at *
  have q0 : (x0 : Int) * 2 ^ (8 * 0) % 4294967296 = (x0 : Int) := by
    show (x0 : Int) * 1 % 4294967296 = _
    omega
  have q1 : (x1 : Int) * 2 ^ (8 * 1) % 4294967296 = (x1 : Int) * 256 := by
    show (x1 : Int) * 256 % 4294967296 = _
    omega
  have q2 : (x2 : Int) * 2 ^ (8 * 2) % 4294967296 = (x2 : Int) * 65536 := by
    show (x2 : Int) * 65536 % 4294967296 = _
    omega
  have q3 : (x3 : Int) * 2 ^ (8 * 3) % 4294967296 = (x3 : Int) * 16777216 := by
    show (x3 : Int) * 16777216 % 4294967296 = _
    omega
  rw [q0, q1, q2, q3, orr_zero (show W (x0 : Int) by unfold W; omega)]
theorem mr_all (b : List UInt8) : mr b 64 = mws b 16 := by
  have key : ∀ k, k ≤ 16 → mr b (4 * k) = mz b k := by
    intro k
    induction k with
    | zero => intro _; rfl
    | succ k ih => intro hk; exact mr_four b (by omega) (ih (by omega))
  have h := key 16 (Nat.le_refl _)
  have e : mz b 16 = mws b 16 := by unfold mz; simp
  rw [e] at h
  exact h

end Bk
end Go.Proofs.YtnllocghmnhooaaDoor
