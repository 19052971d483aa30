/- The program of MachineArithmetic in plain Lean. -/
import Derived.Test.YtfjjdogjihpbnaaDoorMt
namespace Go.Proofs.YtfjjdogjihpbnaaDoor
open Go.RowKit
set_option linter.unusedVariables false
namespace Mc

/-- what stands behind the sign: 1000!1000@.1000@256/.1000@65536/.1000@16777216/. -/
def arT : List UInt8 := [49, 48, 48, 48, 33, 49, 48, 48, 48, 64, 46, 49, 48, 48, 48, 64, 50, 53, 54, 47, 46, 49, 48, 48, 48, 64, 54, 53, 53, 51, 54, 47, 46, 49, 48, 48, 48, 64, 49, 54, 55, 55, 55, 50, 49, 54, 47, 46]
theorem sl_arT (v v0 : Int) : sl 1000 arT v0 [v] [] false = some (v, [], [byte v, byte (v / 256), byte (v / 65536), byte (v / 16777216)], false) := by kernel_rfl
theorem one_sp (A v : Int) (d : List Int) (o : List UInt8) (g : Bool) : one A ((32 : UInt8).toNat : Int) v d o g = some (v, d, o, false) := by
  show one A 32 v d o g = _
  unfold one
  rw [if_neg (by decide), if_neg (by decide), if_neg (by decide)]
  rfl
theorem one_bin (A v : Int) {c : Int} (hc : isBin c) (a b : Int) (o : List UInt8) (g : Bool) : one A c v [b, a] o g = (bin c a b).map fun x => (v, [x], o, false) := by
  have h1 : ¬ isDig c := by rcases hc with rfl | rfl | rfl | rfl | rfl | rfl | rfl <;> decide
  have h2 : ¬ (c = 32 ∨ c = 10) := by rcases hc with rfl | rfl | rfl | rfl | rfl | rfl | rfl <;> decide
  unfold one
  rw [if_neg (by rcases hc with rfl | rfl | rfl | rfl | rfl | rfl | rfl <;> decide), if_neg (by rcases hc with rfl | rfl | rfl | rfl | rfl | rfl | rfl <;> decide), if_neg (by rcases hc with rfl | rfl | rfl | rfl | rfl | rfl | rfl <;> decide)]
  unfold stp
  rw [if_neg h1, if_neg h2, if_pos hc]
  unfold stBin
  simp only [decide_eq_false h1]
  cases bin c a b <;> rfl
/-- the code up to the sign -/
def arH (a b : Nat) : List UInt8 := Lib.decDigits a ++ 32 :: Lib.decDigits b
theorem sl_arH {a b : Nat} (ha : a < 4294967296) (hb : b < 4294967296) (v : Int) : sl 1000 (arH a b) v [] [] false = some (v, [(b : Int), (a : Int)], [], true) := by
  unfold arH
  rw [sl_app, sl_dec 1000 v [] [] (by decide) a ha]
  simp only [Option.bind_some]
  unfold sl
  rw [one_sp]
  exact sl_dec 1000 v [(a : Int)] [] (by simp) b hb
def arC (a b : Nat) (sg : UInt8) : List UInt8 := arH a b ++ sg :: (arT ++ [36])
theorem arH_len {a b : Nat} (ha : a < 4294967296) (hb : b < 4294967296) : (arH a b).length ≤ 21 := by
  have h1 := dec_len 10 a (by omega) (by omega)
  have h2 := dec_len 10 b (by omega) (by omega)
  unfold arH
  simp only [List.length_append, List.length_cons]
  omega
theorem arC_len {a b : Nat} (ha : a < 4294967296) (hb : b < 4294967296) (sg : UInt8) : (arC a b sg).length ≤ 71 := by
  have h1 := arH_len ha hb
  unfold arC
  simp only [List.length_append, List.length_cons, List.length_nil, show arT.length = 48 from rfl]
  omega
theorem lies_text {c : ByteArray} (hc : c.size ≤ 400) : LiesB (memT [(500, c)]) 500 (bl c) := by
  have hl : (bl c).length = c.size := by simp [bl]
  refine ⟨by omega, by omega, fun j hj => ?_⟩
  show putT (fun _ => 0) (500, c) ((500 : Int).toNat + j) = _
  unfold putT
  simp only
  rw [if_pos (by constructor <;> omega), show (500 : Int).toNat + j - (500 : Int).toNat = j by omega]
  unfold bl
  have hj' : j < c.data.size := by rw [hl] at hj; exact hj
  simp [Array.getD, List.getD]
  rw [dif_pos (show j < c.size from hj'), Array.getElem?_eq_getElem hj']
  rfl
theorem mem_1000 {c : ByteArray} (hc : c.size ≤ 400) : memT [(500, c)] 1000 = 0 := by
  show putT (fun _ => 0) (500, c) 1000 = 0
  unfold putT
  simp only
  rw [if_neg (by omega)]
theorem run_text {c : ByteArray} (hc : c.size ≤ 400) : runT [(500, c)] 500 [] 200 = runM 200 0 ⟨memT [(500, c)], 500, [], [], [], [], false⟩ := by
  have hb : ([(500, c)] : List Txt).any badT = false := by
    simp only [List.any_cons, List.any_nil, Bool.or_false]
    unfold badT
    simp only
    rw [decide_eq_false (by omega), decide_eq_false (by omega)]
    rfl
  unfold runT
  rw [hb, if_neg (by simp), if_neg (by omega)]
  rfl
/-- the run of MachineArithmetic's program -/
theorem arith_run {a b : Nat} (ha : a < 4294967296) (hb : b < 4294967296) {sg : UInt8} (hs : isBin (sg.toNat : Int)) {c : ByteArray} (hc : bl c = arC a b sg) :
    ∃ n : Int, runT [(500, c)] 500 [] 200 = match bin (sg.toNat : Int) (a : Int) (b : Int) with
      | some x => ([byte x, byte (x / 256), byte (x / 65536), byte (x / 16777216)], 0, n)
      | none => ([], 12, n) := by
  have hl := arC_len ha hb sg
  have hl2 := arH_len ha hb
  have hsz : c.size ≤ 71 := by rw [← hc] at hl; simpa [bl] using hl
  have hL := lies_text (c := c) (by omega)
  rw [hc] at hL
  have h0 := mem_1000 (c := c) (by omega)
  rw [run_text (by omega)]
  generalize memT [(500, c)] = m at hL h0
  have hH := sl_arH ha hb 0
  cases hbin : bin (sg.toNat : Int) (a : Int) (b : Int) with
  | none =>
    obtain ⟨m', hr, _, hm'⟩ := sl_run (A := 1000) (by omega) (by omega) (arH a b) 0 [] [] false hH m 500 [] [] (200 - (arH a b).length) 0 hL.app.1 h0
    rw [show 200 - (arH a b).length + (arH a b).length = 200 by omega] at hr
    rw [hr]
    obtain ⟨k, hk⟩ : ∃ k, 200 - (arH a b).length = k + 1 := ⟨199 - (arH a b).length, by omega⟩
    rw [hk]
    have hL2 : LiesB m' (500 + (arH a b).length) (sg :: (arT ++ [36])) := by
      rcases hm' with rfl | ⟨x, rfl⟩
      · exact hL.app.2
      · exact hL.app.2.put 1000 (by omega) x
    have e1 := hL2.head
    have h1 : ¬ isDig (sg.toNat : Int) := by unfold isDig; rcases hs with h | h | h | h | h | h | h <;> omega
    have hn : nxt ⟨m', 500 + (arH a b).length, [(b : Int), (a : Int)], [], [], [], true⟩ (sg.toNat : Int) = none := by
      unfold nxt stp
      rw [if_neg h1, if_neg (by rcases hs with h | h | h | h | h | h | h <;> omega), if_pos hs]
      unfold stBin
      simp only [hbin]
      rfl
    exact ⟨_, runM_trap (by simp only; omega) (by simp only [e1]; rcases hs with h | h | h | h | h | h | h <;> omega) (by simp only [e1]; exact hn)⟩
  | some x =>
    have hT : sl 1000 (arH a b ++ sg :: arT) 0 [] [] false = some (x, [], [byte x, byte (x / 256), byte (x / 65536), byte (x / 16777216)], false) := by
      rw [sl_app, hH]
      simp only [Option.bind_some]
      unfold sl
      rw [one_bin 1000 0 hs, hbin]
      exact sl_arT x 0
    have hsp : arC a b sg = (arH a b ++ sg :: arT) ++ [36] := by unfold arC; simp
    rw [hsp] at hL
    have hlen : (arH a b ++ sg :: arT).length = (arH a b).length + 49 := by simp only [List.length_append, List.length_cons, show arT.length = 48 from rfl]
    obtain ⟨m', hr, _, hm'⟩ := sl_run (A := 1000) (by omega) (by omega) (arH a b ++ sg :: arT) 0 [] [] false hT m 500 [] [] (200 - (arH a b ++ sg :: arT).length) 0 hL.app.1 h0
    rw [show 200 - (arH a b ++ sg :: arT).length + (arH a b ++ sg :: arT).length = 200 by omega] at hr
    rw [hr]
    obtain ⟨k, hk⟩ : ∃ k, 200 - (arH a b ++ sg :: arT).length = k + 1 := ⟨199 - (arH a b ++ sg :: arT).length, by omega⟩
    rw [hk]
    have hL2 : LiesB m' (500 + (arH a b ++ sg :: arT).length) [36] := by
      rcases hm' with rfl | ⟨x, rfl⟩
      · exact hL.app.2
      · exact hL.app.2.put 1000 (by omega) x
    have e1 := hL2.head
    exact ⟨_, runM_halt (by simp only; omega) (by simp only [e1]; decide)⟩

end Mc
end Go.Proofs.YtfjjdogjihpbnaaDoor
