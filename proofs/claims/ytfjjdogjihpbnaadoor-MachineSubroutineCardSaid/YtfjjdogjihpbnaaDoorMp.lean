/- The echo program in plain Lean: what it outputs. -/
import Derived.Test.YtfjjdogjihpbnaaDoorMl
import Derived.Test.YtfjjdogjihpbnaaDoorMm
namespace Go.Proofs.YtfjjdogjihpbnaaDoor
open Go.RowKit
namespace Mc

def ecode : ByteArray := ⟨#[44, 57, 48, 33, 57, 48, 64, 52, 50, 57, 52, 57, 54, 55, 50, 57, 53, 94, 50, 57, 63, 57, 48, 64, 46, 48, 32, 48, 63, 36]⟩
def EM : Nat → Int := memT [(0, ecode)]
theorem put_put (m : Nat → Int) (a : Nat) (x y : Int) : put (put m a y) a x = put m a x := by
  funext i; unfold put; split <;> rfl
def exo (x : Int) : Int := ((x.toNat ^^^ (4294967295 : Int).toNat : Nat) : Int)
theorem segA (k n : Nat) (y x : Int) (l : List Int) (out : List UInt8) : runM (k + 20) n ⟨put EM 90 y, 0, [], [], x :: l, out, false⟩ = runM k (n + 20) ⟨put (put EM 90 y) 90 x, 20, [29, exo x], [], l, out, true⟩ := by
  kernel_rfl
theorem segA0 (k n : Nat) (y : Int) (out : List UInt8) : runM (k + 20) n ⟨put EM 90 y, 0, [], [], [], out, false⟩ = runM k (n + 20) ⟨put (put EM 90 y) 90 4294967295, 20, [29, 0], [], [], out, true⟩ := by
  kernel_rfl
theorem segH (k n : Nat) (y : Int) (l : List Int) (out : List UInt8) : runM (k + 2) n ⟨put EM 90 y, 20, [29, 0], [], l, out, true⟩ = (out, 0, ((n + 1 + 1 : Nat) : Int)) := by
  kernel_rfl
theorem segJ (k n : Nat) (y v : Int) (l : List Int) (out : List UInt8) : runM (k + 1) n ⟨put EM 90 y, 20, [29, v], [], l, out, true⟩ = runM k (n + 1) ⟨put EM 90 y, if v = 0 then 29 else 21, [], [], l, out, false⟩ := by
  kernel_rfl
theorem segB (k n : Nat) (x : Int) (l : List Int) (out : List UInt8) : runM (k + 8) n ⟨put EM 90 x, 21, [], [], l, out, false⟩ = runM k (n + 8) ⟨put EM 90 x, 0, [], [], l, out ++ [byte x], false⟩ := by
  kernel_rfl
theorem exo_ne {x : Int} (hx : W32 x) (h : x ≠ 4294967295) : exo x ≠ 0 := by
  unfold exo
  intro e
  have e2 : x.toNat ^^^ (4294967295 : Int).toNat = 0 := by omega
  have e3 : x.toNat = (4294967295 : Int).toNat := by
    have h1 : x.toNat ^^^ (4294967295 : Int).toNat ^^^ (4294967295 : Int).toNat = 0 ^^^ (4294967295 : Int).toNat := by rw [e2]
    rwa [Nat.xor_assoc, Nat.xor_self, Nat.xor_zero, Nat.zero_xor] at h1
  have := hx.1
  omega
def echo (l : List Int) : List UInt8 := (l.takeWhile fun x => x != 4294967295).map byte
theorem echo_loop : ∀ (l : List Int) (k n : Nat) (y : Int) (out : List UInt8), (∀ x ∈ l, W32 x) → 29 * l.length + 22 ≤ k → ∃ n' : Int, runM k n ⟨put EM 90 y, 0, [], [], l, out, false⟩ = (out ++ echo l, 0, n')
  | [], k, n, y, out, _, hk => by
    obtain ⟨j, rfl⟩ : ∃ j, k = j + 2 + 20 := ⟨k - 22, by simp at hk; omega⟩
    refine ⟨((n + 20 + 1 + 1 : Nat) : Int), ?_⟩
    rw [segA0, put_put, segH]
    simp [echo]
  | x :: l, k, n, y, out, hw, hk => by
    by_cases hx : x = 4294967295
    · subst hx
      obtain ⟨j, rfl⟩ : ∃ j, k = j + 2 + 20 := ⟨k - 22, by simp at hk; omega⟩
      refine ⟨((n + 20 + 1 + 1 : Nat) : Int), ?_⟩
      rw [segA, put_put, show exo 4294967295 = 0 from rfl, segH]
      simp [echo]
    · obtain ⟨j, rfl⟩ : ∃ j, k = j + 8 + 1 + 20 := ⟨k - 29, by simp at hk; omega⟩
      obtain ⟨n', h⟩ := echo_loop l j (n + 20 + 1 + 8) x (out ++ [byte x]) (fun z hz => hw z (by simp [hz])) (by simp at hk; omega)
      refine ⟨n', ?_⟩
      rw [segA, put_put, segJ, if_neg (exo_ne (hw x (by simp)) hx), segB, h]
      simp [echo, hx]
theorem em_put : put EM 90 0 = EM := by
  funext i
  unfold put
  split
  · rename_i h; subst h; rfl
  · rfl
theorem echo_run (l : List Int) (hw : ∀ x ∈ l, W32 x) (hl : l.length ≤ 100) : ∃ n' : Int, runT [(0, ecode)] 0 l ((10000 : Nat) : Int) = (echo l, 0, n') := by
  obtain ⟨n', h⟩ := echo_loop l 10000 0 0 [] hw (by omega)
  refine ⟨n', ?_⟩
  rw [runT_run (by decide +kernel) (by decide)]
  rw [em_put] at h
  rw [List.nil_append] at h
  exact h

end Mc
end Go.Proofs.YtfjjdogjihpbnaaDoor
