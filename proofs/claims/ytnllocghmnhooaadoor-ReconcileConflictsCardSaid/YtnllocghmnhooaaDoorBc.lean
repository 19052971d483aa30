/- BLAKE2s in plain Lean: the compression function. -/
import Derived.Test.YtnllocghmnhooaaDoorBb
namespace Go.Proofs.YtnllocghmnhooaaDoor
open Go.RowKit
set_option linter.unusedVariables false
namespace Bk

def iv : List Int := [0x6a09e667, 0xbb67ae85, 0x3c6ef372, 0xa54ff53a, 0x510e527f, 0x9b05688c, 0x1f83d9ab, 0x5be0cd19]
def pms : List Int := [0x0123456789abcdef, 0xea489fd61c02b753, 0xb8c052fdae367194, 0x7931dcbe265a40f8, 0x905724afe1bc683d, 0x2c6a0b834d75fe19, 0xc51fed4a0763928b, 0xdb7ec13950f4862a, 0x6fe9b308c2d714a5, 0xa2847615fb9e3cd0]
/-- the j-th word's number in round r -/
def sg (r j : Nat) : Nat := ((pms.getD r 0).toNat / 16 ^ (15 - j)) % 16
theorem sg_lt (r j : Nat) : sg r j < 16 := Nat.mod_lt _ (by omega)
def qa (k : Nat) : Nat := k % 4
def qb (k : Nat) : Nat := if k < 4 then k + 4 else 4 + (k - 4 + 1) % 4
def qc (k : Nat) : Nat := if k < 4 then k + 8 else 8 + (k - 4 + 2) % 4
def qd (k : Nat) : Nat := if k < 4 then k + 12 else 12 + (k - 4 + 3) % 4
theorem q_lt {k : Nat} (h : k < 8) : qa k < 16 ∧ qb k < 16 ∧ qc k < 16 ∧ qd k < 16 := by
  unfold qa qb qc qd
  refine ⟨by omega, ?_, ?_, ?_⟩ <;> split <;> omega
theorem q_ne {k : Nat} (h : k < 8) : qa k ≠ qb k ∧ qa k ≠ qc k ∧ qa k ≠ qd k ∧ qb k ≠ qc k ∧ qb k ≠ qd k ∧ qc k ≠ qd k := by
  unfold qa qb qc qd
  split <;> refine ⟨?_, ?_, ?_, ?_, ?_, ?_⟩ <;> omega
/-- the word of four bytes from i on -/
def wd (b : List UInt8) (i : Nat) : Int := orr (orr (orr ((b.getD i 0).toNat : Int) ((b.getD (i + 1) 0).toNat * 256)) ((b.getD (i + 2) 0).toNat * 65536)) ((b.getD (i + 3) 0).toNat * 16777216)
theorem w_wd (b : List UInt8) (i : Nat) : W (wd b i) := w_orr _ _
def mws (b : List UInt8) : Nat → List Int
  | 0 => []
  | k + 1 => mws b k ++ [wd b (4 * k)]
theorem mws_len (b : List UInt8) : ∀ k, (mws b k).length = k
  | 0 => rfl
  | k + 1 => by show (mws b k ++ [_]).length = _; rw [List.length_append, mws_len b k]; rfl
theorem mws_ws (b : List UInt8) : ∀ k, Ws (mws b k)
  | 0 => fun x hx => by cases hx
  | k + 1 => fun x hx => by
    rcases List.mem_append.1 hx with h | h
    · exact mws_ws b k x h
    · rw [List.mem_singleton] at h; subst h; exact w_wd _ _
/-- the words laid so far, the rest zero -/
def mz (b : List UInt8) (k : Nat) : List Int := mws b k ++ List.replicate (16 - k) 0
theorem mz_len (b : List UInt8) {k : Nat} (h : k ≤ 16) : (mz b k).length = 16 := by unfold mz; rw [List.length_append, mws_len, List.length_replicate]; omega
theorem mz_succ (b : List UInt8) {k : Nat} (h : k < 16) : (mz b k).set k (wd b (4 * k)) = mz b (k + 1) := by
  unfold mz
  rw [List.set_append_right _ _ (by rw [mws_len]; omega), mws_len, show k - k = 0 by omega, show 16 - k = (16 - (k + 1)) + 1 by omega, List.replicate_succ]
  show mws b k ++ (wd b (4 * k) :: _) = (mws b k ++ [_]) ++ _
  rw [List.append_assoc]; rfl
def rnd (m v : List Int) (r : Nat) : Nat → List Int
  | 0 => v
  | k + 1 => Gm (rnd m v r k) (qa k) (qb k) (qc k) (qd k) (m.getD (sg r (2 * k)) 0) (m.getD (sg r (2 * k + 1)) 0)
def rnds (m v : List Int) : Nat → List Int
  | 0 => v
  | r + 1 => rnd m (rnds m v r) r 8
theorem rnd_len (m v : List Int) (r : Nat) : ∀ k, (rnd m v r k).length = v.length
  | 0 => rfl
  | k + 1 => by show (Gm _ _ _ _ _ _ _).length = _; rw [Gm_len, rnd_len m v r k]
theorem rnds_len (m v : List Int) : ∀ r, (rnds m v r).length = v.length
  | 0 => rfl
  | r + 1 => by show (rnd _ _ _ _).length = _; rw [rnd_len, rnds_len m v r]
theorem rnd_ws {m v : List Int} (h : Ws v) (r : Nat) : ∀ k, Ws (rnd m v r k)
  | 0 => h
  | k + 1 => Gm_ws (rnd_ws h r k) _ _ _ _ _ _
theorem rnds_ws {m v : List Int} (h : Ws v) : ∀ r, Ws (rnds m v r)
  | 0 => h
  | r + 1 => rnd_ws (rnds_ws h r) _ _
/-- the sixteen words at the start -/
def vst (h : List Int) (t : Int) (last : Bool) : List Int :=
  let v := h ++ iv
  let v := v.set 12 (xr (v.getD 12 0) (t % 4294967296))
  let v := v.set 13 (xr (v.getD 13 0) (t / 4294967296))
  if last then v.set 14 (xr 4294967295 (v.getD 14 0)) else v
theorem iv_ws : Ws iv := by
  intro x hx
  unfold iv at hx
  simp at hx
  unfold W
  omega
theorem vst_len {h : List Int} (hl : h.length = 8) (t : Int) (last : Bool) : (vst h t last).length = 16 := by
  unfold vst
  cases last <;> simp [hl, iv]
theorem vst_ws {h : List Int} (hh : Ws h) (t : Int) (last : Bool) : Ws (vst h t last) := by
  have h0 : Ws (h ++ iv) := fun x hx => by
    rcases List.mem_append.1 hx with h1 | h1
    · exact hh x h1
    · exact iv_ws x h1
  unfold vst
  cases last
  · exact (h0.set _ (w_xr _ _)).set _ (w_xr _ _)
  · exact ((h0.set _ (w_xr _ _)).set _ (w_xr _ _)).set _ (w_xr _ _)
def fin (h v : List Int) : Nat → List Int
  | 0 => h
  | k + 1 => (fin h v k).set k (xr (h.getD k 0) (xr (v.getD k 0) (v.getD (k + 8) 0)))
theorem fin_len (h v : List Int) : ∀ k, (fin h v k).length = h.length
  | 0 => rfl
  | k + 1 => by show (List.set _ _ _).length = _; rw [List.length_set, fin_len h v k]
theorem fin_ws {h v : List Int} (hh : Ws h) : ∀ k, Ws (fin h v k)
  | 0 => hh
  | k + 1 => (fin_ws hh k).set _ (w_xr _ _)
theorem fin_at (h v : List Int) : ∀ k j, k ≤ j → (fin h v k).getD j 0 = h.getD j 0
  | 0, j, _ => rfl
  | k + 1, j, hj => by
    show ((fin h v k).set k _).getD j 0 = _
    rw [List.getD_eq_getElem?_getD, List.getElem?_set_ne (by omega), ← List.getD_eq_getElem?_getD, fin_at h v k j (by omega)]
/-- the compression function -/
def comp (h : List Int) (b : List UInt8) (t : Int) (last : Bool) : List Int := fin h (rnds (mws b 16) (vst h t last) 10) 8
theorem comp_len {h : List Int} (b : List UInt8) (t : Int) (last : Bool) : (comp h b t last).length = h.length := fin_len _ _ _
theorem comp_ws {h : List Int} (hh : Ws h) (b : List UInt8) (t : Int) (last : Bool) : Ws (comp h b t last) := fin_ws hh _

theorem eight {l : List Int} (h : l.length = 8) : ∃ a b c d e f g i, l = [a, b, c, d, e, f, g, i] := by
  match l, h with
  | [a, b, c, d, e, f, g, i], _ => exact ⟨a, b, c, d, e, f, g, i, rfl⟩
end Bk
end Go.Proofs.YtnllocghmnhooaaDoor
