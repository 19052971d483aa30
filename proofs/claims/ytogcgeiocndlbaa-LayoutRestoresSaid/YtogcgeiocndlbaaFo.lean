/- How arguments that came in are read: slices of strings, of bytes, of shares. -/
import Derived.Test.YtogcgeiocndlbaaEe
import Derived.SliceStrings
import Derived.ChangeSlices
import Derived.Deep.SlicePairs
import Derived.WideShapes
import Derived.ProofKit
namespace Go.Proofs.Ytogcgeiocndlbaa
open Go.ChangeShapes Go.WideShapes Go.ChangeAt Go.RowKit Go.Deep

section
variable {H : Type} {enc : TypeId × Value → H} {P : Program} {W : World} {base : Nat} {t e : TypeId} {v : Value} {d : DataW H} {p : List MemPlace}

theorem open_lst_s {r : Reach} {b0 : Nat} (ht : P.underlying t = some (.slice e)) (he : P.underlying e = some .string) (hc : P.cellsOf e = 1) (hv : Value.okWide P W r b0 t v)
    (h : DataW.Trod enc P W base (fun _ => true) true t v d p) : ∃ a n c l, v = .slice a n c ∧ Lst Value.string W a n c l ∧ ∀ s ∈ l, s.size ≤ maxLen := by
  obtain ⟨a, n, c, rfl⟩ := okWide_slice ht hv
  obtain ⟨fuel, hf⟩ := h
  rcases open_strings ht he hc hf with ⟨hcs, _⟩ | ⟨x, l, cc, ss, hcs, _, hl, hm, hz, _, hcell, hsz⟩
  · simp [Value.cells] at hcs
    obtain ⟨rfl, rfl, rfl⟩ := hcs
    exact ⟨none, 0, 0, [], rfl, Lst.nil_ W, fun s hs => by simp at hs⟩
  · simp [Value.cells] at hcs
    obtain ⟨rfl, rfl, rfl⟩ := hcs
    have hz' : ss.length = c := by simpa using hz
    refine ⟨some x, n, c, ss.take n, rfl, ⟨hl, hm, by simp; omega, fun h0 => ⟨x, rfl, ?_, fun j u hu => ?_⟩⟩, fun s hs => hsz s (List.mem_of_mem_take hs)⟩
    · have := World.block_lt_of_cell? W _ (hcell 0 (by omega))
      rwa [add_block] at this
    · rw [List.getElem?_map, List.getElem?_take] at hu
      split at hu
      · rename_i hj
        have hjs : j < ss.length := by omega
        rw [hcell j hjs, ← hu, List.getElem?_eq_getElem hjs, List.getD, List.getElem?_eq_getElem hjs]
        rfl
      · cases hu

theorem open_byt {r : Reach} {b0 : Nat} (ht : P.underlying t = some (.slice e)) (he : P.underlying e = some (.int .u8)) (hc : P.cellsOf e = 1) (hv : Value.okWide P W r b0 t v)
    (h : DataW.Trod enc P W base (fun _ => true) true t v d p) : ∃ a n c l, v = .slice a n c ∧ Byt W a n c l := by
  obtain ⟨a, n, c, rfl⟩ := okWide_slice ht hv
  obtain ⟨fuel, hf⟩ := h
  rcases open_ints ht he hc hf with ⟨hcs, _⟩ | ⟨x, l, cc, zs, hcs, _, hl, hm, hz, _, hcell, hwz⟩
  · simp [Value.cells] at hcs
    obtain ⟨rfl, rfl, rfl⟩ := hcs
    exact ⟨none, 0, 0, [], rfl, Byt.nil_ W⟩
  · simp [Value.cells] at hcs
    obtain ⟨rfl, rfl, rfl⟩ := hcs
    obtain ⟨l, hb⟩ := byt_rows (w := W) (a := some x) (len := n) (cap := c) (zs := zs) (.inr ⟨x, rfl, hl, hm, by simpa using hz, hcell, hwz⟩)
    exact ⟨some x, n, c, l, rfl, hb⟩

/-- the numbers of a slice of integers, each fitting its kind -/
theorem open_lst_i {k : IntKind} {r : Reach} {b0 : Nat} (ht : P.underlying t = some (.slice e)) (he : P.underlying e = some (.int k)) (hc : P.cellsOf e = 1) (hv : Value.okWide P W r b0 t v)
    (h : DataW.Trod enc P W base (fun _ => true) true t v d p) : ∃ a n c l, v = .slice a n c ∧ Lst (Value.int k) W a n c l ∧ ∀ x ∈ l, (Lit.int k x).wf = true := by
  obtain ⟨a, n, c, rfl⟩ := okWide_slice ht hv
  obtain ⟨fuel, hf⟩ := h
  rcases open_ints ht he hc hf with ⟨hcs, _⟩ | ⟨x, l, cc, zs, hcs, _, hl, hm, hz, _, hcell, hwz⟩
  · simp [Value.cells] at hcs
    obtain ⟨rfl, rfl, rfl⟩ := hcs
    exact ⟨none, 0, 0, [], rfl, Lst.nil_ W, fun s hs => by simp at hs⟩
  · simp [Value.cells] at hcs
    obtain ⟨rfl, rfl, rfl⟩ := hcs
    have hz' : zs.length = c := by simpa using hz
    refine ⟨some x, n, c, zs.take n, rfl, ⟨hl, hm, by simp; omega, fun h0 => ⟨x, rfl, ?_, fun j u hu => ?_⟩⟩, fun s hs => hwz s (List.mem_of_mem_take hs)⟩
    · have := World.block_lt_of_cell? W _ (hcell 0 (by omega))
      rwa [add_block] at this
    · rw [List.getElem?_map, List.getElem?_take] at hu
      split at hu
      · rename_i hj
        have hjs : j < zs.length := by omega
        rw [hcell j hjs, ← hu, List.getElem?_eq_getElem hjs, List.getD, List.getElem?_eq_getElem hjs]
        rfl
      · cases hu

theorem i64_of_wf {n : Int} (h : (Lit.int .i64 n).wf = true) : IntKind.i64.min ≤ n ∧ n ≤ IntKind.i64.max := by
  simp [Lit.wf] at h
  exact h

theorem u16_of {n : Int} (h : (Lit.int .u16 n).wf = true) : ∃ x : Nat, n = (x : Int) ∧ x < 65536 := by
  have hb : 0 ≤ n ∧ n ≤ 65535 := by
    have e1 : IntKind.u16.min = 0 := rfl
    have e2 : IntKind.u16.max = 65535 := rfl
    simp [Lit.wf, e1, e2] at h
    omega
  exact ⟨n.toNat, by omega, by omega⟩

/-- a slice of structs of an int and a string -/
theorem open_shs {f0 f1 : Field} {r : Reach} {b0 : Nat} (ht : P.underlying t = some (.slice e)) (he : P.underlying e = some (.struct #[f0, f1])) (ce : P.cellsOf e = 2) (o0 : f0.offset = 0) (o1 : f1.offset = 1) (c0 : P.cellsOf f0.type = 1) (c1 : P.cellsOf f1.type = 1)
    (u0 : P.underlying f0.type = some (.int .i64)) (u1 : P.underlying f1.type = some .string) (hv : Value.okWide P W r b0 t v)
    (h : DataW.Trod enc P W base (fun _ => true) true t v d p) : ∃ a n c l, v = .slice a n c ∧ Shs W a n c l ∧ ∀ x ∈ l, (IntKind.i64.min ≤ x.1 ∧ x.1 ≤ IntKind.i64.max) ∧ x.2.size ≤ maxLen := by
  obtain ⟨a, n, c, rfl⟩ := okWide_slice ht hv
  obtain ⟨fuel, hf⟩ := h
  rcases open_slice_pairs ht he ce o0 o1 c0 c1 hf with ⟨hcs, _⟩ | ⟨x, l, cc, m, k, V0, V1, D0, D1, P0, P1, hcs, _, hl, hm, hmm, _, hi⟩
  · simp [Value.cells] at hcs
    obtain ⟨rfl, rfl, rfl⟩ := hcs
    exact ⟨none, 0, 0, [], rfl, Sl.nil_ W 2, fun s hs => by simp at hs⟩
  · simp [Value.cells] at hcs
    obtain ⟨rfl, rfl, rfl⟩ := hcs
    have hmc : m = c := by simpa using hmm
    have hex : ∀ i, i < n → ∃ y : Int × ByteArray, V0 i = .int .i64 y.1 ∧ V1 i = .string y.2 ∧ (IntKind.i64.min ≤ y.1 ∧ y.1 ≤ IntKind.i64.max) ∧ y.2.size ≤ maxLen := fun i hin => by
      obtain ⟨_, _, h2, h3⟩ := hi i (by omega)
      obtain ⟨z, e1, _, e2⟩ := DataW.trod_int u0 h2
      obtain ⟨s, e3, _, e4⟩ := DataW.trod_string u1 h3
      injection e1 with e1
      injection e3 with e3
      exact ⟨(z, s), e1, e3, i64_of_wf e2, e4⟩
    have hlist : ∀ m, m ≤ n → ∃ L : List (Int × ByteArray), L.length = m ∧ (∀ i, (hi : i < L.length) → V0 i = .int .i64 L[i].1 ∧ V1 i = .string L[i].2) ∧ ∀ y ∈ L, (IntKind.i64.min ≤ y.1 ∧ y.1 ≤ IntKind.i64.max) ∧ y.2.size ≤ maxLen := by
      intro m
      induction m with
      | zero => exact fun _ => ⟨[], rfl, fun i hi => absurd hi (by simp), fun y hy => by simp at hy⟩
      | succ m ih =>
        intro hmn
        obtain ⟨L, h1, h2, h3⟩ := ih (by omega)
        obtain ⟨y, h4, h5, h6⟩ := hex m (by omega)
        refine ⟨L ++ [y], by simp [h1], fun i hi => ?_, fun z hz => ?_⟩
        · by_cases hil : i < L.length
          · rw [List.getElem_append_left hil]; exact h2 i hil
          · have : i = m := by simp at hi; omega
            subst this
            rw [List.getElem_append_right (by omega)]
            simp [h1, h4, h5]
        · rcases List.mem_append.1 hz with hz | hz
          · exact h3 z hz
          · rw [List.mem_singleton] at hz; subst hz; exact h6
    obtain ⟨L, hL, h2, h3⟩ := hlist n (Nat.le_refl _)
    refine ⟨some x, n, c, L, rfl, ⟨hl, hm, by rw [flat2_len shc (fun _ => rfl), hL], fun h0 => ⟨x, rfl, ?_, fun j u hu => ?_⟩⟩, h3⟩
    · have := World.block_lt_of_cell? W _ (hi 0 (by omega)).1
      rwa [add_block] at this
    · have hj : j < (L.flatMap shc).length := (List.getElem?_eq_some_iff.1 hu).1
      rw [flat2_len shc (fun _ => rfl)] at hj
      have hq : j / 2 < L.length := by omega
      have h7 := flat2_at shc (fun _ => rfl) L (j / 2) hq (j % 2) (by omega)
      rw [show j / 2 * 2 + j % 2 = j by omega, hu] at h7
      obtain ⟨g0, g1, _, _⟩ := hi (j / 2) (by omega)
      obtain ⟨k0, k1⟩ := h2 (j / 2) hq
      rcases Nat.mod_two_eq_zero_or_one j with hm2 | hm2
      · rw [hm2] at h7
        rw [show j / 2 * 2 = j by omega] at g0
        rw [g0, k0]; exact h7.symm
      · rw [hm2] at h7
        rw [show j / 2 * 2 + 1 = j by omega] at g1
        rw [g1, k1]; exact h7.symm
end

end Go.Proofs.Ytogcgeiocndlbaa
