/- Walks of the polynomial functions. -/
import Derived.Test.YtogcgeiocndlbaaBase
import Derived.Test.YtogcgeiocndlbaaGfp
namespace Go.Proofs.Ytogcgeiocndlbaa
open Go.RowKit

theorem info_u8 : (Try.prog.info? 5).map (fun i => (i.zero, i.size, i.bytes)) = some (some (.int .u8 0), 1, 1) := by kernel_rfl

theorem ty_u8 : OneTy Try.prog 57 5 (.int .u8 0) 1 := ⟨Try.underlying57, info_parts info_u8, rfl⟩

/-! the field's contracts on bytes -/
theorem gadd_b (x y : UInt8) (w : World) : Calls Try.prog 53 #[.int .u8 (x.toNat : Int), .int .u8 (y.toNat : Int)] w fun e w' => e = .returned (.int .u8 ((Gf.ga x y).toNat : Int)) ∧ w' = w :=
  (gadd_n _ _ x.toNat_lt y.toNat_lt w).mono fun _ _ ⟨h1, h2⟩ => ⟨by rw [h1, Gf.ga, UInt8.toNat_xor], h2⟩
theorem gmul_b (x y : UInt8) (w : World) : Calls Try.prog 52 #[.int .u8 (x.toNat : Int), .int .u8 (y.toNat : Int)] w fun e w' => e = .returned (.int .u8 ((Gf.gm x y).toNat : Int)) ∧ w' = w :=
  (gmul_n _ _ x.toNat_lt y.toNat_lt w).mono fun _ _ ⟨h1, h2⟩ => ⟨by rw [h1, Gf.gm_toNat], h2⟩
theorem beq_toNat (x : UInt8) : Nat.beq x.toNat 0 = (x == 0) := by
  rw [Bool.eq_iff_iff]
  constructor
  · intro h; exact beq_iff_eq.2 (Gf.ext (Nat.eq_of_beq_eq_true h))
  · intro h; rw [beq_iff_eq.1 h]; rfl
theorem gdiv_b (x y : UInt8) (w : World) : Calls Try.prog 54 #[.int .u8 (x.toNat : Int), .int .u8 (y.toNat : Int)] w fun e w' => e = .returned (.tuple #[.int .u8 ((Gf.gm x (Gf.inv y)).toNat : Int), .bool (!(y == 0))]) ∧ Below w.heap.size w w' :=
  (gdiv_n _ _ x.toNat_lt y.toNat_lt w).mono fun _ _ ⟨h1, h2⟩ => ⟨by rw [h1, Gf.gm_toNat, Gf.inv_toNat, beq_toNat], h2⟩

/-- what a call that hands back a slice of bytes of its own leaves -/
def Gives (w : World) (l : List UInt8) (e : Ending) (w' : World) : Prop := ∃ v, e = .returned v ∧ w'.ownsRow w.heap.size 5 1 v l.length (bv l) ∧ Below w.heap.size w w'

/-- without the zeros at its end -/
def trimTo (l : List UInt8) : Nat → Nat
  | 0 => 0
  | n + 1 => if l.getD n 0 = 0 then trimTo l n else n + 1
def trim (l : List UInt8) : List UInt8 := l.take (trimTo l l.length)
theorem trimTo_le (l : List UInt8) : ∀ n, trimTo l n ≤ n
  | 0 => Nat.le_refl _
  | n + 1 => by
    unfold trimTo
    split
    · exact Nat.le_succ_of_le (trimTo_le l n)
    · exact Nat.le_refl _
theorem trimTo_zero {l : List UInt8} {n : Nat} (hn : n < l.length) {t : Bool} (h : (((l[n]).toNat : Int) == 0) = t) : trimTo l (n + 1) = if t then trimTo l n else n + 1 := by
  have e : l.getD n 0 = l[n] := by simp [List.getD, List.getElem?_eq_getElem hn]
  show (if l.getD n 0 = 0 then trimTo l n else n + 1) = _
  rw [e]
  cases t with
  | true =>
    have h0 : l[n] = 0 := UInt8.toNat_inj.1 (by simpa using h)
    rw [if_pos h0, if_pos rfl]
  | false =>
    have h0 : ¬ l[n] = 0 := fun h1 => by rw [h1] at h; simp at h
    rw [if_neg h0]; simp

end Go.Proofs.Ytogcgeiocndlbaa
