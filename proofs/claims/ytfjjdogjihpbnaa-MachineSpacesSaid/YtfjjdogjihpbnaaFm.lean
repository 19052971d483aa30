/- How arguments that came in are read: slices of numbers, of texts; arrays of ints. -/
import Derived.Test.YtfjjdogjihpbnaaMm
import Derived.SliceStrings
import Derived.ChangeSlices
import Derived.Deep.SlicePairs
import Derived.WideShapes
import Derived.ProofKit
import Derived.OpenShut
namespace Go.Proofs.Ytfjjdogjihpbnaa
open Go.ChangeShapes Go.WideShapes Go.ChangeAt Go.RowKit Go.Deep

section
variable {H : Type} {enc : TypeId × Value → H} {P : Program} {W : World} {base : Nat} {t e : TypeId} {v : Value} {d : DataW H} {p : List MemPlace}

theorem w32_of_wf {n : Int} (h : (Lit.int .u32 n).wf = true) : Mc.W32 n := by
  have e1 : IntKind.u32.min = 0 := rfl
  have e2 : IntKind.u32.max = 4294967295 := rfl
  simp [Lit.wf, e1, e2] at h
  exact ⟨h.1, by omega⟩
theorem i64_of_wf {n : Int} (h : (Lit.int .i64 n).wf = true) : IntKind.i64.min ≤ n ∧ n ≤ IntKind.i64.max := by
  simp [Lit.wf] at h
  exact h

theorem u16_of {n : Int} (h : (Lit.int .u16 n).wf = true) : ∃ x : Nat, n = (x : Int) ∧ x < 65536 := by
  have hb : 0 ≤ n ∧ n ≤ 65535 := by
    have e1 : IntKind.u16.min = 0 := rfl
    have e2 : IntKind.u16.max = 65535 := rfl
    simp [Lit.wf, e1, e2] at h
    omega
  exact ⟨n.toNat, by omega, by omega⟩

/-- the numbers of a slice of integers, each fitting its kind -/
theorem open_lst_i {r : Reach} {b0 : Nat} (ht : P.underlying t = some (.slice e)) (he : P.underlying e = some (.int .u32)) (hc : P.cellsOf e = 1) (hv : Value.okWide P W r b0 t v)
    (h : DataW.Trod enc P W base (fun _ => true) true t v d p) : ∃ a n c l, v = .slice a n c ∧ Sl W 1 a n c (Mc.iv l) ∧ ∀ x ∈ l, Mc.W32 x := by
  obtain ⟨a, n, c, rfl⟩ := okWide_slice ht hv
  obtain ⟨fuel, hf⟩ := h
  rcases open_ints ht he hc hf with ⟨hcs, _⟩ | ⟨x, l, cc, zs, hcs, _, hl, hm, hz, _, hcell, hwz⟩
  · simp [Value.cells] at hcs
    obtain ⟨rfl, rfl, rfl⟩ := hcs
    exact ⟨none, 0, 0, [], rfl, Sl.nil_ W 1, fun s hs => by simp at hs⟩
  · simp [Value.cells] at hcs
    obtain ⟨rfl, rfl, rfl⟩ := hcs
    have hz' : zs.length = c := by simpa using hz
    refine ⟨some x, n, c, zs.take n, rfl, ⟨hl, hm, by simp [Mc.iv]; omega, fun h0 => ⟨x, rfl, ?_, fun j u hu => ?_⟩⟩, fun s hs => w32_of_wf (hwz s (List.mem_of_mem_take hs))⟩
    · have := World.block_lt_of_cell? W _ (hcell 0 (by omega))
      rwa [add_block] at this
    · unfold Mc.iv at hu
      rw [List.getElem?_map, List.getElem?_take] at hu
      split at hu
      · rename_i hj
        have hjs : j < zs.length := by omega
        rw [hcell j hjs, ← hu, List.getElem?_eq_getElem hjs, List.getD, List.getElem?_eq_getElem hjs]
        rfl
      · cases hu

/-- a slice of structs of an int and a string -/
theorem open_shs {f0 f1 : Field} {r : Reach} {b0 : Nat} (ht : P.underlying t = some (.slice e)) (he : P.underlying e = some (.struct #[f0, f1])) (ce : P.cellsOf e = 2) (o0 : f0.offset = 0) (o1 : f1.offset = 1) (c0 : P.cellsOf f0.type = 1) (c1 : P.cellsOf f1.type = 1)
    (u0 : P.underlying f0.type = some (.int .i64)) (u1 : P.underlying f1.type = some .string) (hv : Value.okWide P W r b0 t v)
    (h : DataW.Trod enc P W base (fun _ => true) true t v d p) : ∃ a n c l, v = .slice a n c ∧ Mc.Txs W a n c l ∧ ∀ x ∈ l, (IntKind.i64.min ≤ x.1 ∧ x.1 ≤ IntKind.i64.max) ∧ x.2.size ≤ maxLen := by
  obtain ⟨a, n, c, rfl⟩ := okWide_slice ht hv
  obtain ⟨fuel, hf⟩ := h
  rcases open_slice_pairs ht he ce o0 o1 c0 c1 hf with ⟨hcs, _⟩ | ⟨x, l, cc, m, k, V0, V1, D0, D1, P0, P1, hcs, _, hl, hm, hmm, _, hi⟩
  · simp [Value.cells] at hcs
    obtain ⟨rfl, rfl, rfl⟩ := hcs
    exact ⟨none, 0, 0, [], rfl, Sl.nil_ W 2, fun s hs => by simp at hs⟩
  · simp [Value.cells] at hcs
    obtain ⟨rfl, rfl, rfl⟩ := hcs
    have hmc : m = c := by simpa using hmm
    have hex : ∀ i, i < n → ∃ y : Int × ByteArray, V0 i = .int .i64 y.1 ∧ V1 i = .string y.2 ∧ (IntKind.i64.min ≤ y.1 ∧ y.1 ≤ IntKind.i64.max) ∧ y.2.size ≤ maxLen := fun i hin => by
      obtain ⟨_, _, h2, h3⟩ := hi i (by omega)
      obtain ⟨z, e1, _, e2⟩ := DataW.trod_int u0 h2
      obtain ⟨s, e3, _, e4⟩ := DataW.trod_string u1 h3
      injection e1 with e1
      injection e3 with e3
      exact ⟨(z, s), e1, e3, i64_of_wf e2, e4⟩
    have hlist : ∀ m, m ≤ n → ∃ L : List (Int × ByteArray), L.length = m ∧ (∀ i, (hi : i < L.length) → V0 i = .int .i64 L[i].1 ∧ V1 i = .string L[i].2) ∧ ∀ y ∈ L, (IntKind.i64.min ≤ y.1 ∧ y.1 ≤ IntKind.i64.max) ∧ y.2.size ≤ maxLen := by
      intro m
      induction m with
      | zero => exact fun _ => ⟨[], rfl, fun i hi => absurd hi (by simp), fun y hy => by simp at hy⟩
      | succ m ih =>
        intro hmn
        obtain ⟨L, h1, h2, h3⟩ := ih (by omega)
        obtain ⟨y, h4, h5, h6⟩ := hex m (by omega)
        refine ⟨L ++ [y], by simp [h1], fun i hi => ?_, fun z hz => ?_⟩
        · by_cases hil : i < L.length
          · rw [List.getElem_append_left hil]; exact h2 i hil
          · have : i = m := by simp at hi; omega
            subst this
            rw [List.getElem_append_right (by omega)]
            simp [h1, h4, h5]
        · rcases List.mem_append.1 hz with hz | hz
          · exact h3 z hz
          · rw [List.mem_singleton] at hz; subst hz; exact h6
    obtain ⟨L, hL, h2, h3⟩ := hlist n (Nat.le_refl _)
    refine ⟨some x, n, c, L, rfl, ⟨hl, hm, by rw [Mc.txs_len, hL], fun h0 => ⟨x, rfl, ?_, fun j u hu => ?_⟩⟩, h3⟩
    · have := World.block_lt_of_cell? W _ (hi 0 (by omega)).1
      rwa [add_block] at this
    · have hj : j < (L.flatMap Mc.txc).length := (List.getElem?_eq_some_iff.1 hu).1
      rw [Mc.txs_len] at hj
      have hq : j / 2 < L.length := by omega
      have h7 := Mc.txs_at L (j / 2) hq (j % 2) (by omega)
      rw [show j / 2 * 2 + j % 2 = j by omega, hu] at h7
      obtain ⟨g0, g1, _, _⟩ := hi (j / 2) (by omega)
      obtain ⟨k0, k1⟩ := h2 (j / 2) hq
      rcases Nat.mod_two_eq_zero_or_one j with hm2 | hm2
      · rw [hm2] at h7
        rw [show j / 2 * 2 = j by omega] at g0
        rw [g0, k0]; exact h7.symm
      · rw [hm2] at h7
        rw [show j / 2 * 2 + 1 = j by omega] at g1
        rw [g1, k1]; exact h7.symm
/-- an array of ints -/
theorem open_arr_i {n : Nat} {r : Reach} {b0 : Nat} (ht : P.underlying t = some (.array n e)) (he : P.underlying e = some (.int .i64)) (hc : P.cellsOf e = 1) (hct : P.cellsOf t = n) (hv : Value.okWide P W r b0 t v)
    (h : DataW.Trod enc P W base (fun _ => true) true t v d p) : ∃ l : List Int, v = .agg (l.map (Value.int .i64)).toArray ∧ l.length = n ∧ ∀ x ∈ l, IntKind.i64.min ≤ x ∧ x ≤ IntKind.i64.max := by
  simp only [Value.okWide, ht] at hv
  obtain ⟨cs, rfl, h2, _⟩ := hv
  rw [hct] at h2
  obtain ⟨fuel, hf⟩ := h
  obtain ⟨xs, m, _, _, _, hxl, hx⟩ := DataW.trod_array ht hf
  have hcell : ∀ i, i < n → ∃ z : Int, cs[i]? = some (.int .i64 z) ∧ IntKind.i64.min ≤ z ∧ z ≤ IntKind.i64.max := fun i hi => by
    have h3 := hx i hi
    rw [hc, Nat.mul_one, List.getElem?_eq_getElem (by omega)] at h3
    obtain ⟨z, e1, _, e2⟩ := DataW.trod_int he h3
    have e3 : (cs.toList.drop i).take 1 = [.int .i64 z] := e1
    have hi2 : i < cs.toList.length := by simp; omega
    rw [List.drop_eq_getElem_cons hi2] at e3
    simp only [List.take_succ_cons, List.take_zero, List.cons.injEq, and_true] at e3
    refine ⟨z, ?_, i64_of_wf e2⟩
    rw [← Array.getElem?_toList, List.getElem?_eq_getElem hi2, e3]
  have hlist : ∀ m, m ≤ n → ∃ l : List Int, l.length = m ∧ (∀ i, (hi : i < l.length) → cs[i]? = some (.int .i64 l[i])) ∧ ∀ x ∈ l, IntKind.i64.min ≤ x ∧ x ≤ IntKind.i64.max := by
    intro m
    induction m with
    | zero => exact fun _ => ⟨[], rfl, fun i hi => absurd hi (by simp), fun x hx => by cases hx⟩
    | succ m ih =>
      intro hm
      obtain ⟨l, h1, h2', h3⟩ := ih (by omega)
      obtain ⟨z, hz, hb⟩ := hcell m (by omega)
      refine ⟨l ++ [z], by simp [h1], fun i hi => ?_, fun x hx => ?_⟩
      · by_cases hil : i < l.length
        · rw [List.getElem_append_left hil]; exact h2' i hil
        · have : i = m := by simp at hi; omega
          subst this
          rw [hz, List.getElem_append_right (by omega)]
          simp [h1]
      · rcases List.mem_append.1 hx with hx | hx
        · exact h3 x hx
        · rw [List.mem_singleton] at hx; subst hx; exact hb
  obtain ⟨l, h4, h5, h6⟩ := hlist n (Nat.le_refl _)
  refine ⟨l, ?_, h4, h6⟩
  congr 1
  apply Array.ext'
  refine List.ext_getElem (by simp; omega) fun i g1 g2 => ?_
  have h7 := h5 i (by simpa using g2)
  rw [← Array.getElem?_toList, List.getElem?_eq_getElem g1] at h7
  injection h7 with h7
  simpa using h7
theorem open_arr2 {r : Reach} {b0 : Nat} (ht : P.underlying t = some (.array 2 e)) (he : P.underlying e = some (.int .i64)) (hc : P.cellsOf e = 1) (hct : P.cellsOf t = 2) (hv : Value.okWide P W r b0 t v)
    (h : DataW.Trod enc P W base (fun _ => true) true t v d p) : ∃ a b : Int, v = .agg #[.int .i64 a, .int .i64 b] ∧ (IntKind.i64.min ≤ a ∧ a ≤ IntKind.i64.max) ∧ IntKind.i64.min ≤ b ∧ b ≤ IntKind.i64.max := by
  obtain ⟨l, rfl, hl, hb⟩ := open_arr_i ht he hc hct hv h
  match l, hl with
  | [a, b], _ => exact ⟨a, b, rfl, hb a (by simp), hb b (by simp)⟩
theorem open_arr3 {r : Reach} {b0 : Nat} (ht : P.underlying t = some (.array 3 e)) (he : P.underlying e = some (.int .i64)) (hc : P.cellsOf e = 1) (hct : P.cellsOf t = 3) (hv : Value.okWide P W r b0 t v)
    (h : DataW.Trod enc P W base (fun _ => true) true t v d p) : ∃ a b c : Int, v = .agg #[.int .i64 a, .int .i64 b, .int .i64 c] ∧ (IntKind.i64.min ≤ a ∧ a ≤ IntKind.i64.max) ∧ (IntKind.i64.min ≤ b ∧ b ≤ IntKind.i64.max) ∧ IntKind.i64.min ≤ c ∧ c ≤ IntKind.i64.max := by
  obtain ⟨l, rfl, hl, hb⟩ := open_arr_i ht he hc hct hv h
  match l, hl with
  | [a, b, c], _ => exact ⟨a, b, c, rfl, hb a (by simp), hb b (by simp), hb c (by simp)⟩

end

end Go.Proofs.Ytfjjdogjihpbnaa
