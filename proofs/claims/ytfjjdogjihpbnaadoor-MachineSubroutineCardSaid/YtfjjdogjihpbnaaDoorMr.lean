/- A text placed in two parts, or over another text of its length, lays the same memory; so the plain machine answers the same. -/
import Derived.Test.YtfjjdogjihpbnaaDoorMo
namespace Go.Proofs.YtfjjdogjihpbnaaDoor
open Go.RowKit
namespace Mc

theorem ext_at (c : ByteArray) (a b i : Nat) (h : a + i < b) (hb : b ≤ c.size) : (c.extract a b).data.getD i 0 = c.data.getD (a + i) 0 := by
  have hb' : b ≤ c.data.size := hb
  simp only [Array.getD_eq_getD_getElem?, ByteArray.data_extract, Array.getElem?_extract]
  rw [if_pos (by omega)]
theorem ext_size (c : ByteArray) (a b : Nat) (hb : b ≤ c.size) : (c.extract a b).size = b - a := by
  rw [ByteArray.size_extract]; omega
theorem mem_two (base n : Nat) (c : ByteArray) (hn : n ≤ c.size) : memT [(((base : Int) + (n : Int)), c.extract n c.size), ((base : Int), c.extract 0 n)] = memT [((base : Int), c)] := by
  funext i
  simp only [memT, List.foldl_cons, List.foldl_nil, putT]
  rw [ext_size c n c.size (Nat.le_refl _), ext_size c 0 n hn]
  have e1 : ((base : Int) + (n : Int)).toNat = base + n := by omega
  have e2 : (base : Int).toNat = base := by omega
  rw [e1, e2]
  by_cases h1 : base ≤ i ∧ i < base + (n - 0)
  · rw [if_pos h1, if_pos (by omega), ext_at c 0 n (i - base) (by omega) hn, Nat.zero_add]
  · rw [if_neg h1]
    by_cases h2 : base + n ≤ i ∧ i < base + n + (c.size - n)
    · rw [if_pos h2, if_pos (by omega), ext_at c n c.size (i - (base + n)) (by omega) (Nat.le_refl _), show n + (i - (base + n)) = i - base by omega]
    · rw [if_neg h2, if_neg (by omega)]
theorem mem_over (base : Nat) (r c : ByteArray) (hr : r.size = c.size) : memT [((base : Int), r), ((base : Int), c)] = memT [((base : Int), c)] := by
  funext i
  simp only [memT, List.foldl_cons, List.foldl_nil, putT]
  by_cases h1 : (base : Int).toNat ≤ i ∧ i < (base : Int).toNat + c.size
  · rw [if_pos h1, if_pos h1]
  · rw [if_neg h1, if_neg h1, hr, if_neg h1]
theorem runT_mem {ts us : List Txt} (h : memT ts = memT us) (ht : ts.any badT = false) (hu : us.any badT = false) (at_ : Int) (input : List Int) (steps : Int) : runT ts at_ input steps = runT us at_ input steps := by
  unfold runT start
  rw [h, ht, hu]
theorem good (a : Int) (c : ByteArray) (h0 : 0 ≤ a) (h1 : a ≤ 10000) (h2 : c.size ≤ 1000) : badT (a, c) = false := by
  unfold badT
  simp only [Bool.or_eq_false_iff, decide_eq_false_iff_not]
  omega
theorem run_two (base n : Nat) (c : ByteArray) (hb : base ≤ 999) (hn : n ≤ c.size) (hc : c.size ≤ 300) (input : List Int) (steps : Int) :
    runT [(((base : Int) + (n : Int)), c.extract n c.size), ((base : Int), c.extract 0 n)] base input steps = runT [((base : Int), c)] base input steps :=
  runT_mem (mem_two base n c hn) (by
    simp only [List.any_cons, List.any_nil, Bool.or_false]
    rw [good _ _ (by omega) (by omega) (by rw [ext_size c n c.size (Nat.le_refl _)]; omega), good _ _ (by omega) (by omega) (by rw [ext_size c 0 n hn]; omega)]
    rfl) (by
    simp only [List.any_cons, List.any_nil, Bool.or_false]
    exact good _ _ (by omega) (by omega) (by omega)) _ _ _
theorem run_over (base : Nat) (r c : ByteArray) (hb : base ≤ 999) (hr : r.size = c.size) (hc : c.size ≤ 300) (input : List Int) (steps : Int) :
    runT [((base : Int), r), ((base : Int), c)] base input steps = runT [((base : Int), c)] base input steps :=
  runT_mem (mem_over base r c hr) (by
    simp only [List.any_cons, List.any_nil, Bool.or_false]
    rw [good _ _ (by omega) (by omega) (by omega), good _ _ (by omega) (by omega) (by omega)]
    rfl) (by
    simp only [List.any_cons, List.any_nil, Bool.or_false]
    exact good _ _ (by omega) (by omega) (by omega)) _ _ _

end Mc
end Go.Proofs.YtfjjdogjihpbnaaDoor
