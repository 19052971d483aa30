/- The program of MachineSubroutine in plain Lean: a subroutine that calls itself. -/
import Derived.Test.YtfjjdogjihpbnaaDoorMv
import Derived.Test.YtfjjdogjihpbnaaDoorMp
namespace Go.Proofs.YtfjjdogjihpbnaaDoor
open Go.RowKit
set_option linter.unusedVariables false
namespace Mc

def scode : ByteArray := ⟨#[57, 48, 48, 64, 49, 52, 48, 63, 57, 48, 48, 64, 49, 45, 57, 48, 48, 33, 49, 48, 48, 58, 52, 54, 46, 48, 32, 49, 52, 48, 63]⟩
def semi : ByteArray := ⟨#[59]⟩
def SM (c : ByteArray) : Nat → Int := memT [(0, c), (100, scode), (140, semi)]
theorem sub1 (c : ByteArray) (k n : Nat) (y : Int) (cs : List Int) (out : List UInt8) : runM (k + 8) n ⟨put (SM c) 900 y, 100, [], cs, [], out, false⟩ = runM k (n + 8) ⟨put (SM c) 900 y, if y = 0 then 140 else 108, [], cs, [], out, false⟩ := by
  kernel_rfl
theorem sub2 (c : ByteArray) (k n : Nat) (y : Int) (cs : List Int) (out : List UInt8) : runM (k + 13) n ⟨put (SM c) 900 y, 108, [], cs, [], out, false⟩ = runM k (n + 13) ⟨put (put (SM c) 900 y) 900 (u32 (y - 1)), 121, [100], cs, [], out, true⟩ := by
  kernel_rfl
theorem sub3 (c : ByteArray) (k n : Nat) (y : Int) (cs : List Int) (out : List UInt8) : runM (k + 1) n ⟨put (SM c) 900 y, 121, [100], cs, [], out, true⟩ = match (if cs.length < 64 then some (⟨put (SM c) 900 y, 100, [], 122 :: cs, [], out, false⟩ : St) else none) with
    | some t => runM k (n + 1) t
    | none => (out, 12, ((n + 1 : Nat) : Int)) := by
  by_cases h : cs.length < 64
  · have hn : nxt ⟨put (SM c) 900 y, 121, [100], cs, [], out, true⟩ 58 = some ⟨put (SM c) 900 y, 100, [], 122 :: cs, [], out, false⟩ := by
      show ((if cs.length < 64 then some (⟨put (SM c) 900 y, 100, [], 122 :: cs, [], out, true⟩ : St) else none).map fun t => { t with digit := false }) = _
      rw [if_pos h]; rfl
    rw [if_pos h]
    exact runM_next (s := ⟨put (SM c) 900 y, 121, [100], cs, [], out, true⟩) (by simp only; omega) (show ¬ ((58 : Int) = 36) by decide) hn
  · have hn : nxt ⟨put (SM c) 900 y, 121, [100], cs, [], out, true⟩ 58 = none := by
      show ((if cs.length < 64 then some (⟨put (SM c) 900 y, 100, [], 122 :: cs, [], out, true⟩ : St) else none).map fun t => { t with digit := false }) = _
      rw [if_neg h]; rfl
    rw [if_neg h]
    exact runM_trap (s := ⟨put (SM c) 900 y, 121, [100], cs, [], out, true⟩) (by simp only; omega) (show ¬ ((58 : Int) = 36) by decide) hn
theorem sub4 (c : ByteArray) (k n : Nat) (y p : Int) (cs : List Int) (out : List UInt8) : runM (k + 1) n ⟨put (SM c) 900 y, 140, [], p :: cs, [], out, false⟩ = runM k (n + 1) ⟨put (SM c) 900 y, p, [], cs, [], out, false⟩ := by
  kernel_rfl
theorem sub5 (c : ByteArray) (k n : Nat) (y : Int) (cs : List Int) (out : List UInt8) : runM (k + 9) n ⟨put (SM c) 900 y, 122, [], cs, [], out, false⟩ = runM k (n + 9) ⟨put (SM c) 900 y, 140, [], cs, [], out ++ [46], false⟩ := by
  kernel_rfl
theorem dec_u32 {j : Nat} (h : j < 4294967296) : u32 (((j + 1 : Nat) : Int) - 1) = (j : Int) := by unfold u32; omega
theorem sub_ok (c : ByteArray) : ∀ (j : Nat) (cs : List Int), j + cs.length ≤ 64 → ∀ (k n : Nat) (out : List UInt8),
    runM (k + (32 * j + 8)) n ⟨put (SM c) 900 (j : Int), 100, [], cs, [], out, false⟩ = runM k (n + (32 * j + 8)) ⟨put (SM c) 900 0, 140, [], cs, [], out ++ List.replicate j 46, false⟩
  | 0, cs, _, k, n, out => by
    rw [show k + (32 * 0 + 8) = k + 8 by omega, show n + (32 * 0 + 8) = n + 8 by omega]
    rw [show (((0 : Nat)) : Int) = 0 from rfl, sub1, if_pos rfl]
    simp
  | j + 1, cs, h, k, n, out => by
    have ih := sub_ok c j (122 :: cs) (by simp; omega) (k + 10) (n + 22) out
    rw [show k + (32 * (j + 1) + 8) = (k + 10 + (32 * j + 8) + 1 + 13) + 8 by omega, sub1, if_neg (by omega), sub2, put_put, dec_u32 (by omega), sub3, if_pos (by omega)]
    simp only
    rw [show n + 8 + 13 + 1 = n + 22 by omega, ih, show k + 10 = k + 9 + 1 by omega, sub4, sub5]
    rw [show n + 22 + (32 * j + 8) + 1 + 9 = n + (32 * (j + 1) + 8) by omega, List.append_assoc, ← List.replicate_succ']
theorem sub_trap (c : ByteArray) : ∀ (j : Nat) (cs : List Int), j < 4294967296 → 64 < j + cs.length → cs.length ≤ 64 → ∀ (k n : Nat) (out : List UInt8), ∃ n' : Int,
    runM (k + (32 * j + 8)) n ⟨put (SM c) 900 (j : Int), 100, [], cs, [], out, false⟩ = (out, 12, n')
  | 0, cs, hj, h, h2, k, n, out => by omega
  | j + 1, cs, hj, h, h2, k, n, out => by
    rw [show k + (32 * (j + 1) + 8) = (k + 10 + (32 * j + 8) + 1 + 13) + 8 by omega, sub1, if_neg (by omega), sub2, put_put, dec_u32 (by omega), sub3]
    by_cases h3 : cs.length < 64
    · rw [if_pos h3]
      exact sub_trap c j (122 :: cs) (by omega) (by simp; omega) (by simp; omega) _ _ _
    · rw [if_neg h3]
      exact ⟨_, rfl⟩
/-- the main text -/
def mnC (k : Nat) : List UInt8 := Lib.decDigits k ++ [32, 57, 48, 48, 33, 49, 48, 48]
theorem mnC_len {k : Nat} (h : k < 80) : (mnC k).length ≤ 10 := by
  have := dec_len 2 k (by omega) (by omega)
  unfold mnC
  simp; omega
theorem sl_mn {k : Nat} (h : k < 80) : sl 900 (mnC k) 0 [] [] false = some ((k : Int), [100], [], true) := by
  unfold mnC
  rw [sl_app, sl_dec 900 0 [] [] (by decide) k (by omega)]
  simp only [Option.bind_some]
  kernel_rfl
theorem sm_lies {k : Nat} (h : k < 80) {c : ByteArray} (hc : bl c = mnC k ++ [58, 36]) : LiesB (SM c) 0 (mnC k ++ [58, 36]) := by
  have hl : (bl c).length = c.size := by simp [bl]
  have hl2 := mnC_len h
  have hs : c.size ≤ 12 := by rw [← hl, hc]; simp; omega
  rw [← hc]
  refine ⟨by omega, by omega, fun j hj => ?_⟩
  have hj' : j < c.size := by omega
  show putT (putT (putT (fun _ => 0) (0, c)) (100, scode)) (140, semi) ((0 : Int).toNat + j) = _
  have e1 : ∀ m : Nat → Int, putT m (140, semi) ((0 : Int).toNat + j) = m ((0 : Int).toNat + j) := fun m => if_neg (by rintro ⟨h1, _⟩; change 140 ≤ 0 + j at h1; omega)
  have e2 : ∀ m : Nat → Int, putT m (100, scode) ((0 : Int).toNat + j) = m ((0 : Int).toNat + j) := fun m => if_neg (by rintro ⟨h1, _⟩; change 100 ≤ 0 + j at h1; omega)
  rw [e1, e2]
  unfold putT
  simp only
  rw [if_pos (by constructor <;> omega), show (0 : Int).toNat + j - (0 : Int).toNat = j by omega]
  unfold bl
  simp [Array.getD, List.getD]
  rw [dif_pos (show j < c.size from hj'), Array.getElem?_eq_getElem hj']
  rfl
theorem sm_900 {c : ByteArray} (hc : c.size ≤ 12) : SM c 900 = 0 := by
  show putT (putT (putT (fun _ => 0) (0, c)) (100, scode)) (140, semi) 900 = 0
  have e1 : ∀ m : Nat → Int, putT m (140, semi) 900 = m 900 := fun m => if_neg (by decide)
  have e2 : ∀ m : Nat → Int, putT m (100, scode) 900 = m 900 := fun m => if_neg (by decide)
  rw [e1, e2]
  unfold putT
  simp only
  rw [if_neg (by omega)]
theorem run_text3 {c : ByteArray} (hc : c.size ≤ 12) : runT [(0, c), (100, scode), (140, semi)] 0 [] 20000 = runM 20000 0 ⟨SM c, 0, [], [], [], [], false⟩ := by
  have hb : ([(0, c), (100, scode), (140, semi)] : List Txt).any badT = false := by
    simp only [List.any_cons, List.any_nil, Bool.or_false]
    unfold badT
    simp only
    rw [decide_eq_false (by omega), decide_eq_false (by omega), show scode.size = 31 from rfl, show semi.size = 1 from rfl]
    decide
  unfold runT
  rw [hb, if_neg (by simp), if_neg (by omega)]
  rfl
theorem sub_run {k : Nat} (h : k < 80) {c : ByteArray} (hc : bl c = mnC k ++ [58, 36]) : ∃ n : Int, runT [(0, c), (100, scode), (140, semi)] 0 [] 20000 = if k + 1 ≤ 64 then (List.replicate k 46, 0, n) else ([], 12, n) := by
  have hl : (bl c).length = c.size := by simp [bl]
  have hl2 := mnC_len h
  have hs : c.size ≤ 12 := by rw [← hl, hc]; simp; omega
  rw [run_text3 hs]
  have hL := sm_lies h hc
  have hL1 := hL.app.1
  have hL2 := hL.app.2
  obtain ⟨l, hl⟩ : ∃ l, l = (mnC k).length := ⟨_, rfl⟩
  obtain ⟨m', hr, hv, hm'⟩ := sl_run (A := 900) (by omega) (by omega) (mnC k) 0 [] [] false (sl_mn h) (SM c) 0 [] [] (20000 - l) 0 hL1 (sm_900 hs)
  rw [← hl] at hr hL2 hl2
  have hm : m' = put (SM c) 900 (k : Int) := by
    rcases hm' with rfl | ⟨x, rfl⟩
    · funext j
      unfold put
      split
      · rename_i hj; subst hj; exact hv
      · rfl
    · have : x = (k : Int) := by simpa [put] using hv
      rw [this]
  subst hm
  rw [show 20000 - l + l = 20000 by omega] at hr
  rw [hr]
  have hP := hL2.put 900 (by omega) (k : Int)
  have e1 := hP.head
  have e2 := hP.tail.head
  have hn : nxt ⟨put (SM c) 900 (k : Int), 0 + (l : Int), [100], [], [], [], true⟩ 58 = some ⟨put (SM c) 900 (k : Int), 100, [], [0 + (l : Int) + 1], [], [], false⟩ := rfl
  obtain ⟨K, hK⟩ : ∃ K, 20000 - l = K + (32 * k + 8) + 1 := ⟨20000 - l - 1 - (32 * k + 8), by omega⟩
  rw [hK, runM_next (s := ⟨put (SM c) 900 (k : Int), 0 + (l : Int), [100], [], [], [], true⟩) (by simp only; omega) (by simp only [e1]; decide) (by simp only [e1]; exact hn)]
  by_cases hk : k + 1 ≤ 64
  · have hok := sub_ok c k [0 + (l : Int) + 1] (by simpa using hk) K (0 + l + 1) []
    rw [hok]
    obtain ⟨K2, hK2⟩ : ∃ K2, K = K2 + 1 + 1 := ⟨K - 2, by omega⟩
    rw [hK2, sub4]
    simp only [if_pos hk]
    have hP0 := hL2.put 900 (by omega) (0 : Int)
    have e3 := hP0.tail.head
    exact ⟨_, runM_halt (by simp only; omega) (by simp only [e3]; decide)⟩
  · obtain ⟨n', ht⟩ := sub_trap c k [0 + (l : Int) + 1] (by omega) (by simp; omega) (by simp) K (0 + l + 1) []
    rw [ht]
    simp only [if_neg hk]
    exact ⟨n', rfl⟩

end Mc
end Go.Proofs.YtfjjdogjihpbnaaDoor
