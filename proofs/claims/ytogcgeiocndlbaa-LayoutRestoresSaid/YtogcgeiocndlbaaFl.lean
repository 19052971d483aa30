/- How arguments that came in are read: structs of two and of three ints. -/
import Derived.Test.YtogcgeiocndlbaaFo
import Derived.Test.YtogcgeiocndlbaaLc
import Derived.Lib.SmallJoins
namespace Go.Proofs.Ytogcgeiocndlbaa
open Go.ChangeShapes Go.WideShapes Go.ChangeAt Go.RowKit Go.Deep

section
variable {H : Type} {enc : TypeId × Value → H} {P : Program} {W : World} {base : Nat} {t : TypeId} {v : Value} {d : DataW H} {p : List MemPlace}
theorem i64_of (n : Int) (h : (Lit.int .i64 n).wf = true) : Ly.I64 n := by
  have h1 := i64_of_wf h
  rw [show IntKind.i64.min = -9223372036854775808 from rfl, show IntKind.i64.max = 9223372036854775807 from rfl] at h1
  exact h1
theorem open_st2 {f0 f1 : Field} {r : Reach} {b0 : Nat} (hs : P.underlying t = some (.struct #[f0, f1])) (hone : oneCellFields P #[f0, f1] = true) (hC : P.cellsOf t = 2) (u0 : P.underlying f0.type = some (.int .i64)) (u1 : P.underlying f1.type = some (.int .i64))
    (hv : Value.okWide P W r b0 t v) (h : DataW.Trod enc P W base (fun _ => true) true t v d p) : ∃ a b : Int, v = .agg #[.int .i64 a, .int .i64 b] ∧ Ly.I64 a ∧ Ly.I64 b := by
  obtain ⟨v0, v1, y0, y1, n, rfl, _, _, h0, h1⟩ := Joins.open_agg2 hs hone hC hv h
  obtain ⟨a, e1, _, w1⟩ := DataW.trod_int u0 h0
  obtain ⟨b, e2, _, w2⟩ := DataW.trod_int u1 h1
  injection e1 with e1
  injection e2 with e2
  subst e1 e2
  exact ⟨a, b, rfl, i64_of a w1, i64_of b w2⟩
theorem open_st3 {f0 f1 f2 : Field} {r : Reach} {b0 : Nat} (hs : P.underlying t = some (.struct #[f0, f1, f2])) (hone : oneCellFields P #[f0, f1, f2] = true) (hC : P.cellsOf t = 3) (u0 : P.underlying f0.type = some (.int .i64)) (u1 : P.underlying f1.type = some (.int .i64)) (u2 : P.underlying f2.type = some (.int .i64))
    (hv : Value.okWide P W r b0 t v) (h : DataW.Trod enc P W base (fun _ => true) true t v d p) : ∃ a b c : Int, v = .agg #[.int .i64 a, .int .i64 b, .int .i64 c] ∧ Ly.I64 a ∧ Ly.I64 b ∧ Ly.I64 c := by
  obtain ⟨v0, v1, v2, y0, y1, y2, n, rfl, _, _, h0, h1, h2⟩ := Joins.open_agg3 hs hone hC hv h
  obtain ⟨a, e1, _, w1⟩ := DataW.trod_int u0 h0
  obtain ⟨b, e2, _, w2⟩ := DataW.trod_int u1 h1
  obtain ⟨c, e3, _, w3⟩ := DataW.trod_int u2 h2
  injection e1 with e1
  injection e2 with e2
  injection e3 with e3
  subst e1 e2 e3
  exact ⟨a, b, c, rfl, i64_of a w1, i64_of b w2, i64_of c w3⟩
end
end Go.Proofs.Ytogcgeiocndlbaa
