/- Walks: the values of polynomials, the coefficient, the comparison, the size guard. -/
import Derived.Test.YtpljpceldlaphaaPw
import Derived.Deep.QuietTactic
import Derived.BigQuiet
namespace Go.Proofs.Ytpljpceldlaphaa
open Go.RowKit

/-- Eval after k rounds -/
def evTo (l : List UInt8) (x : UInt8) : Nat → UInt8
  | 0 => 0
  | k + 1 => Gf.ga (Gf.gm (evTo l x k) x) (l.getD (l.length - 1 - k) 0)
theorem evTo_succ {l : List UInt8} {x : UInt8} {k j : Nat} (hj : j < l.length) (hk : l.length - 1 - k = j) : evTo l x (k + 1) = Gf.ga (Gf.gm (evTo l x k) x) l[j] := by
  show Gf.ga _ _ = _
  rw [hk]
  simp [List.getD, List.getElem?_eq_getElem hj]

set_option maxRecDepth 100000 in
set_option maxHeartbeats 400000 in
theorem eval_b (w : World) (A : Option Addr) (n c : Nat) (l : List UInt8) (x : UInt8) (h : Byt w A n c l) :
    Calls Try.prog 25 #[.slice A n c, .int .u8 (x.toNat : Int)] w fun e w' => e = .returned (.int .u8 ((evTo l x l.length).toNat : Int)) ∧ Dr w w' := by
  have H := Lib.hid h
  have hn := h.len
  have hlc : n ≤ c := h.1
  have hcm : c ≤ 9223372036854775807 := h.2.1
  have HN := Lib.hid hn
  have hle : n ≤ l.length := by omega
  have hle2 : l.length ≤ n := by omega
  clear h hn
  go_enter Try.func25, Try.ntmps25
  go_wp2
  go_loopw [5, 9] (fun s i wr => ∃ k : Nat, k ≤ n ∧ Dr w wr ∧ i = .int .i64 (k : Int) ∧ s = .int .u8 ((evTo l x k).toNat : Int)) (fun _ i _ => n - (intOf i).toNat)
  case atStart => exact ⟨0, by omega, Dr.refl w, rfl, rfl⟩
  case round =>
    obtain ⟨k, hk, hd, rfl, rfl⟩ := hrel
    have HD := Lib.hid hd
    by_cases hlt : k < n
    · have hj : n - 1 - k < l.length := by omega
      obtain ⟨ad, rfl, _, hc⟩ := Byt.at_ (H.out.dr hd) hj
      clear hd
      have HE := Lib.hid (evTo_succ (x := x) (k := k) hj (by rw [HN.out]))
      have hi1 : (0 : Int) ≤ (n : Int) - 1 - (k : Int) := by omega
      have hi2 : (n : Int) - 1 - (k : Int) < (n : Int) := by omega
      have hi3 : ((n : Int) - 1 - (k : Int)).toNat = n - 1 - k := by omega
      go_wp2
      go_quiet ((first | (go_at_call 40; exact Calls.quiet_of_same (gmul_b _ _ _)) | (go_at_call 37; exact Calls.quiet_of_same (gadd_b _ _ _))))
      go_wp2
      go_roundw
      case rel => exact ⟨k + 1, by omega, HD.out.drewN _, by go_num, by rw [HE.out]⟩
      case measure => simp [intOf]; omega
    · have hge : n ≤ k := by omega
      have HK := Lib.hid (show k = l.length by omega)
      clear hd
      go_wp2
      go_ret
      exact ⟨by rw [← HK.out]; rfl, HD.out⟩

/-- the reference's Eval after k rounds: the sum and the power -/
def rev (l : List UInt8) (x : UInt8) : Nat → UInt8 × UInt8
  | 0 => (0, 1)
  | k + 1 => (Gf.ga (rev l x k).1 (Gf.gm (l.getD k 0) (rev l x k).2), Gf.gm (rev l x k).2 x)
theorem rev_succ {l : List UInt8} {x : UInt8} {k : Nat} (hj : k < l.length) : rev l x (k + 1) = (Gf.ga (rev l x k).1 (Gf.gm l[k] (rev l x k).2), Gf.gm (rev l x k).2 x) := by
  show (_, _) = _
  simp [List.getD, List.getElem?_eq_getElem hj]

end Go.Proofs.Ytpljpceldlaphaa
