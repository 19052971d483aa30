/- Walks of the polynomial functions. -/
import Derived.Test.YtpljpceldlaphaaBase
import Derived.Test.YtpljpceldlaphaaGfp
namespace Go.Proofs.Ytpljpceldlaphaa
open Go.RowKit

theorem info_u8 : (Try.prog.info? 5).map (fun i => (i.zero, i.size, i.bytes)) = some (some (.int .u8 0), 1, 1) := by kernel_rfl

theorem ty_u8 : OneTy Try.prog 45 5 (.int .u8 0) 1 := ⟨Try.underlying45, info_parts info_u8, rfl⟩

/-! the field's contracts on bytes -/
theorem gadd_b (x y : UInt8) (w : World) : Calls Try.prog 37 #[.int .u8 (x.toNat : Int), .int .u8 (y.toNat : Int)] w fun e w' => e = .returned (.int .u8 ((Gf.ga x y).toNat : Int)) ∧ w' = w :=
  (gadd_n _ _ x.toNat_lt y.toNat_lt w).mono fun _ _ ⟨h1, h2⟩ => ⟨by rw [h1, Gf.ga, UInt8.toNat_xor], h2⟩
theorem gmul_b (x y : UInt8) (w : World) : Calls Try.prog 40 #[.int .u8 (x.toNat : Int), .int .u8 (y.toNat : Int)] w fun e w' => e = .returned (.int .u8 ((Gf.gm x y).toNat : Int)) ∧ w' = w :=
  (gmul_n _ _ x.toNat_lt y.toNat_lt w).mono fun _ _ ⟨h1, h2⟩ => ⟨by rw [h1, Gf.gm_toNat], h2⟩
theorem beq_toNat (x : UInt8) : Nat.beq x.toNat 0 = (x == 0) := by
  rw [Bool.eq_iff_iff]
  constructor
  · intro h; exact beq_iff_eq.2 (Gf.ext (Nat.eq_of_beq_eq_true h))
  · intro h; rw [beq_iff_eq.1 h]; rfl
theorem gdiv_b (x y : UInt8) (w : World) : Calls Try.prog 36 #[.int .u8 (x.toNat : Int), .int .u8 (y.toNat : Int)] w fun e w' => e = .returned (.tuple #[.int .u8 ((Gf.gm x (Gf.inv y)).toNat : Int), .bool (!(y == 0))]) ∧ Below w.heap.size w w' :=
  (gdiv_n _ _ x.toNat_lt y.toNat_lt w).mono fun _ _ ⟨h1, h2⟩ => ⟨by rw [h1, Gf.gm_toNat, Gf.inv_toNat, beq_toNat], h2⟩

/-- what a call that hands back a slice of bytes of its own leaves -/
def Gives (w : World) (l : List UInt8) (e : Ending) (w' : World) : Prop := ∃ v, e = .returned v ∧ w'.ownsRow w.heap.size 5 1 v l.length (bv l) ∧ Below w.heap.size w w'

set_option maxRecDepth 100000 in
/-- slices.Clone -/
theorem clone_b (w : World) (A : Option Addr) (n c : Nat) (l : List UInt8) (h : Byt w A n c l) (hl : l.length ≤ 1048576) :
    Calls Try.prog 57 #[.slice A n c] w (Gives w l) := by
  obtain ⟨i0, hi, hz0, hz1, hz2⟩ := info_parts info_u8
  cases A with
  | none =>
    obtain rfl := h.of_nil
    have hn := h.len
    simp at hn
    subst hn
    have heq := run_eql_nil (P := Try.prog) w 45 5 none 0 c Try.underlying45
    go_enter Try.func57, Try.ntmps57
    go_wp2
    go_ret
    exact ⟨_, rfl, World.ownsRow_nil _ _ _ _, Below.refl _ _⟩
  | some ad =>
    have H := Lib.hid h
    have hn := h.len
    have HN := Lib.hid hn
    have hln : n ≤ 1048576 := by omega
    clear h hn
    have heq := run_eql_nil (P := Try.prog) w 45 5 (some ad) n c Try.underlying45
    go_enter Try.func57, Try.ntmps57
    go_wp2_with (at_builtin; refine wpl_append_sl _ rfl _ _ _ rfl w.heap.size 5 i0 (.int .u8 0) 1 1 Try.underlying45 hi hz0 hz1 hz2 rfl (by decide) _ 0 [] rfl (World.ownsRow_lit w #[] 0 (Nat.le_refl _) (Nat.zero_le _) rfl) (some ad) n c (bv l) rfl (Sl.alloc H.out _) (bv_one l) (by unfold maxLen; omega) (by omega) (by simp) ?_; intro v' w1 hown hgrow _)
    go_ret
    exact ⟨v', rfl, by rw [← HN.out]; simpa using hown, ((Below.refl _ w).alloc (Nat.le_refl _) _).grown hgrow (by simp) (fun k hk => by cases hk; exact Nat.le_refl _)⟩

/-- without the zeros at its end -/
def trimTo (l : List UInt8) : Nat → Nat
  | 0 => 0
  | n + 1 => if l.getD n 0 = 0 then trimTo l n else n + 1
def trim (l : List UInt8) : List UInt8 := l.take (trimTo l l.length)
theorem trimTo_le (l : List UInt8) : ∀ n, trimTo l n ≤ n
  | 0 => Nat.le_refl _
  | n + 1 => by
    unfold trimTo
    split
    · exact Nat.le_succ_of_le (trimTo_le l n)
    · exact Nat.le_refl _
theorem trimTo_zero {l : List UInt8} {n : Nat} (hn : n < l.length) {t : Bool} (h : (((l[n]).toNat : Int) == 0) = t) : trimTo l (n + 1) = if t then trimTo l n else n + 1 := by
  have e : l.getD n 0 = l[n] := by simp [List.getD, List.getElem?_eq_getElem hn]
  show (if l.getD n 0 = 0 then trimTo l n else n + 1) = _
  rw [e]
  cases t with
  | true =>
    have h0 : l[n] = 0 := UInt8.toNat_inj.1 (by simpa using h)
    rw [if_pos h0, if_pos rfl]
  | false =>
    have h0 : ¬ l[n] = 0 := fun h1 => by rw [h1] at h; simp at h
    rw [if_neg h0]; simp

set_option maxRecDepth 100000 in
set_option maxHeartbeats 400000 in
theorem trim_b (w : World) (A : Option Addr) (n c : Nat) (l : List UInt8) (h : Byt w A n c l) (hl : l.length ≤ 1048576) :
    Calls Try.prog 51 #[.slice A n c] w (Gives w (trim l)) := by
  have H := Lib.hid h
  have hn := h.len
  have hlc : n ≤ c := h.1
  have hcm : c ≤ 9223372036854775807 := h.2.1
  have HT := Lib.hid (trimTo_le l)
  have HN := Lib.hid hn
  have hle : n ≤ l.length := by omega
  clear h hn
  go_enter Try.func51, Try.ntmps51
  go_wp2
  go_loop [3] (fun x => ∃ k : Nat, k ≤ n ∧ trimTo l k = trimTo l l.length ∧ x = .int .i64 (k : Int)) (fun x => (intOf x).toNat)
  case atStart => exact ⟨_, Nat.le_refl _, by rw [HN.out], rfl⟩
  case round =>
    obtain ⟨k, hk, ht, rfl⟩ := hrel
    have HK := Lib.hid ht
    clear ht
    have hlk : (l.take k).length ≤ 1048576 := by rw [List.length_take]; omega
    have HB := Lib.hid (H.out.take hk)
    by_cases h0 : 0 < k
    · obtain ⟨j, rfl⟩ : ∃ j, k = j + 1 := ⟨k - 1, by omega⟩
      have hj : j < l.length := by omega
      obtain ⟨ad, rfl, _, hc⟩ := Byt.at_ H.out hj
      cases hz : (((l[j]).toNat : Int) == 0) with
      | true =>
        have hz' := trimTo_zero hj hz
        have HZ := Lib.hid hz'
        clear hz' hlk
        go_wp2
        go_round
        case rel => exact ⟨j, by omega, by rw [← HK.out, HZ.out]; rfl, by go_num⟩
        case measure => simp [intOf]
      | false =>
        have hz' := trimTo_zero hj hz
        have HZ := Lib.hid hz'
        clear hz'
        go_wp2_with (go_at_call 57; refine (clone_b _ _ _ c (l.take (j + 1)) HB.out hlk).mono ?_; rintro e w1 ⟨v, rfl, hown, hb⟩)
        go_ret
        refine ⟨v, rfl, ?_, by assumption⟩
        unfold trim
        rw [← HK.out, HZ.out]
        exact hown
    · obtain rfl : k = 0 := by omega
      go_wp2_with (go_at_call 57; refine (clone_b _ _ 0 c (l.take 0) HB.out hlk).mono ?_; rintro e w1 ⟨v, rfl, hown, hb⟩)
      go_ret
      refine ⟨v, rfl, ?_, by assumption⟩
      unfold trim
      rw [← HK.out]
      exact hown

end Go.Proofs.Ytpljpceldlaphaa
