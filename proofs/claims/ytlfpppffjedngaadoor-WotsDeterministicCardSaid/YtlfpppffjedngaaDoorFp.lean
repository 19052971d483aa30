/- How arrays of two integers that came in are read. -/
import Derived.Test.YtlfpppffjedngaaDoorFe
import Derived.ChangeSlices
import Derived.WideShapes
import Derived.ProofKit
import Derived.OpenShut
namespace Go.Proofs.YtlfpppffjedngaaDoor.Door
open Go.ChangeShapes Go.WideShapes Go.ChangeAt Go.RowKit
section
variable {H : Type} {enc : TypeId × Value → H} {P : Program} {W : World} {base : Nat} {t e : TypeId} {v : Value} {d : DataW H} {p : List MemPlace} {k : IntKind}
theorem open_arr_k {n : Nat} {r : Reach} {b0 : Nat} (ht : P.underlying t = some (.array n e)) (he : P.underlying e = some (.int k)) (hc : P.cellsOf e = 1) (hct : P.cellsOf t = n) (hv : Value.okWide P W r b0 t v)
    (h : DataW.Trod enc P W base (fun _ => true) true t v d p) : ∃ l : List Int, v = .agg (l.map (Value.int k)).toArray ∧ l.length = n ∧ ∀ x ∈ l, (Lit.int k x).wf = true := by
  simp only [Value.okWide, ht] at hv
  obtain ⟨cs, rfl, h2, _⟩ := hv
  rw [hct] at h2
  obtain ⟨fuel, hf⟩ := h
  obtain ⟨xs, m, _, _, _, hxl, hx⟩ := DataW.trod_array ht hf
  have hcell : ∀ i, i < n → ∃ z : Int, cs[i]? = some (.int k z) ∧ (Lit.int k z).wf = true := fun i hi => by
    have h3 := hx i hi
    rw [hc, Nat.mul_one, List.getElem?_eq_getElem (by omega)] at h3
    obtain ⟨z, e1, _, e2⟩ := DataW.trod_int he h3
    have e3 : (cs.toList.drop i).take 1 = [.int k z] := e1
    have hi2 : i < cs.toList.length := by simp; omega
    rw [List.drop_eq_getElem_cons hi2] at e3
    simp only [List.take_succ_cons, List.take_zero, List.cons.injEq, and_true] at e3
    refine ⟨z, ?_, e2⟩
    rw [← Array.getElem?_toList, List.getElem?_eq_getElem hi2, e3]
  have hlist : ∀ m, m ≤ n → ∃ l : List Int, l.length = m ∧ (∀ i, (hi : i < l.length) → cs[i]? = some (.int k l[i])) ∧ ∀ x ∈ l, (Lit.int k x).wf = true := by
    intro m
    induction m with
    | zero => exact fun _ => ⟨[], rfl, fun i hi => absurd hi (by simp), fun x hx => by cases hx⟩
    | succ m ih =>
      intro hm
      obtain ⟨l, h1, h2', h3⟩ := ih (by omega)
      obtain ⟨z, hz, hb⟩ := hcell m (by omega)
      refine ⟨l ++ [z], by simp [h1], fun i hi => ?_, fun x hx => ?_⟩
      · by_cases hil : i < l.length
        · rw [List.getElem_append_left hil]; exact h2' i hil
        · have : i = m := by simp at hi; omega
          subst this
          rw [hz, List.getElem_append_right (by omega)]
          simp [h1]
      · rcases List.mem_append.1 hx with hx | hx
        · exact h3 x hx
        · rw [List.mem_singleton] at hx; subst hx; exact hb
  obtain ⟨l, h4, h5, h6⟩ := hlist n (Nat.le_refl _)
  refine ⟨l, ?_, h4, h6⟩
  congr 1
  apply Array.ext'
  refine List.ext_getElem (by simp; omega) fun i g1 g2 => ?_
  have h7 := h5 i (by simpa using g2)
  rw [← Array.getElem?_toList, List.getElem?_eq_getElem g1] at h7
  injection h7 with h7
  simpa using h7
theorem open_arr2k {r : Reach} {b0 : Nat} (ht : P.underlying t = some (.array 2 e)) (he : P.underlying e = some (.int k)) (hc : P.cellsOf e = 1) (hct : P.cellsOf t = 2) (hv : Value.okWide P W r b0 t v)
    (h : DataW.Trod enc P W base (fun _ => true) true t v d p) : ∃ a b : Int, v = .agg #[.int k a, .int k b] ∧ (Lit.int k a).wf = true ∧ (Lit.int k b).wf = true := by
  obtain ⟨l, rfl, hl, hb⟩ := open_arr_k ht he hc hct hv h
  match l, hl with
  | [a, b], _ => exact ⟨a, b, rfl, hb a (by simp), hb b (by simp)⟩

end
end Go.Proofs.YtlfpppffjedngaaDoor.Door
