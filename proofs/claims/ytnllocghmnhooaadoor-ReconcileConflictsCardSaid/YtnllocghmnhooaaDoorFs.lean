/- How a slice of items and a summary that came in are read. -/
import Derived.Test.YtnllocghmnhooaaDoorFe
import Derived.Test.YtnllocghmnhooaaDoorVc
import Derived.ChangeSlices
import Derived.WideShapes
import Derived.ProofKit
import Derived.OpenShut
import Derived.Deep.SlicePairs
import Derived.Lib.SmallJoins
namespace Go.Proofs.YtnllocghmnhooaaDoor.Door
open Go.ChangeShapes Go.WideShapes Go.ChangeAt Go.RowKit Go.Deep
section
variable {H : Type} {enc : TypeId × Value → H} {P : Program} {W : World} {base : Nat} {t e : TypeId} {v : Value} {d : DataW H} {p : List MemPlace}
theorem u8_nat {n : Int} (h : (Lit.int .u8 n).wf = true) : n = ((n.toNat : Nat) : Int) ∧ n.toNat < 256 := by
  obtain ⟨x, rfl, hx⟩ := u8_of h
  exact ⟨by simp, by simpa using hx⟩
theorem open_its {f0 f1 f2 : Field} {r : Reach} {b0 : Nat} (ht : P.underlying t = some (.slice e)) (he : P.underlying e = some (.struct #[f0, f1, f2])) (ce : P.cellsOf e = 3) (o0 : f0.offset = 0) (o1 : f1.offset = 1) (o2 : f2.offset = 2) (c0 : P.cellsOf f0.type = 1) (c1 : P.cellsOf f1.type = 1) (c2 : P.cellsOf f2.type = 1)
    (u0 : P.underlying f0.type = some (.int .u8)) (u1 : P.underlying f1.type = some (.int .u8)) (u2 : P.underlying f2.type = some (.int .u8)) (hv : Value.okWide P W r b0 t v)
    (h : DataW.Trod enc P W base (fun _ => true) true t v d p) : ∃ a c l, v = .slice a l.length c ∧ Rc.Its W a c l ∧ ∀ i ∈ l, i.a < 256 ∧ i.s < 256 ∧ i.w < 256 := by
  obtain ⟨a, n, c, rfl⟩ := okWide_slice ht hv
  obtain ⟨fuel, hf⟩ := h
  rcases open_slice ht hf with ⟨hcs, _⟩ | ⟨x, len, cap, m, k, D, Pl, hcs, _, hl, hm, hmm, _, hi⟩
  · simp [Value.cells] at hcs
    obtain ⟨rfl, rfl, rfl⟩ := hcs
    exact ⟨none, 0, [], rfl, ⟨Nat.le_refl _, Nat.zero_le _, fun h => absurd h (by simp)⟩, fun i hi => by cases hi⟩
  · simp [Value.cells] at hcs
    obtain ⟨rfl, rfl, rfl⟩ := hcs
    have hmc : m = c := by simpa using hmm
    have each : ∀ i, i < n → ∃ q : Rc.Itm, W.cell? (x.add (i * 3)) = some (.int .u8 (q.a : Int)) ∧ W.cell? ⟨(x.add (i * 3)).block, (x.add (i * 3)).off + 1, none⟩ = some (.int .u8 (q.s : Int)) ∧ W.cell? ⟨(x.add (i * 3)).block, (x.add (i * 3)).off + 2, none⟩ = some (.int .u8 (q.w : Int)) ∧ q.a < 256 ∧ q.s < 256 ∧ q.w < 256 := by
      intro i hin
      obtain ⟨cs', h1, h2⟩ := hi i (by omega)
      rw [ce] at h1
      obtain ⟨_, hlen, hcell⟩ := World.cells?_some h1
      obtain ⟨xs, k2, _, _, _, hxl, hfl⟩ := DataW.trod_struct he h2
      match xs, hxl, cs', hlen with
      | [y0, y1, y2], _, [v0, v1, v2], _ =>
        have g0 := hfl 0 f0 rfl
        have g1 := hfl 1 f1 rfl
        have g2 := hfl 2 f2 rfl
        simp [o0, o1, o2, c0, c1, c2] at g0 g1 g2
        obtain ⟨z0, e0, _, w0⟩ := DataW.trod_int u0 g0
        obtain ⟨z1, e1, _, w1⟩ := DataW.trod_int u1 g1
        obtain ⟨z2, e2, _, w2⟩ := DataW.trod_int u2 g2
        simp only [List.cons.injEq, and_true] at e0 e1 e2
        subst e0
        subst e1
        subst e2
        obtain ⟨n0, b0⟩ := u8_nat w0
        obtain ⟨n1, b1⟩ := u8_nat w1
        obtain ⟨n2, b2⟩ := u8_nat w2
        have k0 := hcell 0 (by omega)
        have k1 := hcell 1 (by omega)
        have k2 := hcell 2 (by omega)
        rw [show (x.add (i * 3)).add 0 = x.add (i * 3) from by simp [Addr.add]] at k0
        rw [n0] at k0
        rw [n1] at k1
        rw [n2] at k2
        exact ⟨⟨z0.toNat, z1.toNat, z2.toNat⟩, k0, k1, k2, b0, b1, b2⟩
    have hlist : ∀ m, m ≤ n → ∃ L : List Rc.Itm, L.length = m ∧ ∀ i, (hi : i < L.length) → W.cell? (x.add (i * 3)) = some (.int .u8 (L[i].a : Int)) ∧ W.cell? ⟨(x.add (i * 3)).block, (x.add (i * 3)).off + 1, none⟩ = some (.int .u8 (L[i].s : Int)) ∧ W.cell? ⟨(x.add (i * 3)).block, (x.add (i * 3)).off + 2, none⟩ = some (.int .u8 (L[i].w : Int)) ∧ L[i].a < 256 ∧ L[i].s < 256 ∧ L[i].w < 256 := by
      intro m
      induction m with
      | zero => exact fun _ => ⟨[], rfl, fun i hi => absurd hi (by simp)⟩
      | succ m ih =>
        intro hmn
        obtain ⟨L, h1, h2⟩ := ih (by omega)
        obtain ⟨y, h4⟩ := each m (by omega)
        refine ⟨L ++ [y], by simp [h1], fun i hi => ?_⟩
        by_cases hil : i < L.length
        · rw [List.getElem_append_left hil]; exact h2 i hil
        · have : i = m := by simp at hi; omega
          subst this
          have e : (L ++ [y])[i] = y := by
            rw [List.getElem_append_right (by omega)]
            simp [h1]
          rw [e]
          exact h4
    obtain ⟨L, hL, h2⟩ := hlist n (Nat.le_refl _)
    subst hL
    refine ⟨some x, c, L, rfl, ⟨hl, hm, fun h0 => ⟨x, rfl, ?_, fun j hj => ⟨(h2 j hj).1, (h2 j hj).2.1, (h2 j hj).2.2.1⟩⟩⟩, fun i hi => ?_⟩
    · have := World.block_lt_of_cell? W _ (h2 0 h0).1
      rwa [add_block] at this
    · obtain ⟨j, hj, rfl⟩ := List.getElem_of_mem hi
      exact (h2 j hj).2.2.2
theorem open_rng {f0 f1 f2 f3 : Field} {r : Reach} {b0 : Nat} (hs : P.underlying t = some (.struct #[f0, f1, f2, f3])) (hone : oneCellFields P #[f0, f1, f2, f3] = true) (hC : P.cellsOf t = 4)
    (u0 : P.underlying f0.type = some .string) (u1 : P.underlying f1.type = some .string) (u2 : P.underlying f2.type = some (.int .i64)) (u3 : P.underlying f3.type = some .string) (hv : Value.okWide P W r b0 t v)
    (h : DataW.Trod enc P W base (fun _ => true) true t v d p) : ∃ g : Rc.Rng, v = Rc.rgv g ∧ (g.f.length ≤ maxLen ∧ g.t.length ≤ maxLen ∧ g.d.length ≤ maxLen) := by
  obtain ⟨v0, v1, v2, v3, y0, y1, y2, y3, n, rfl, _, _, h0, h1, h2, h3⟩ := Go.Joins.open_agg4 hs hone hC hv h
  obtain ⟨s0, e0, _, l0⟩ := DataW.trod_string u0 h0
  obtain ⟨s1, e1, _, l1⟩ := DataW.trod_string u1 h1
  obtain ⟨z, e2, _, _⟩ := DataW.trod_int u2 h2
  obtain ⟨s3, e3, _, l3⟩ := DataW.trod_string u3 h3
  simp only [List.cons.injEq, and_true] at e0 e1 e2 e3
  subst e0
  subst e1
  subst e2
  subst e3
  refine ⟨⟨Bk.bl s0, Bk.bl s1, z, Bk.bl s3⟩, ?_, by rw [Bk.bl_len]; exact l0, by rw [Bk.bl_len]; exact l1, by rw [Bk.bl_len]; exact l3⟩
  unfold Rc.rgv
  rw [Bk.ofL_bl, Bk.ofL_bl, Bk.ofL_bl]
end
end Go.Proofs.YtnllocghmnhooaaDoor.Door
