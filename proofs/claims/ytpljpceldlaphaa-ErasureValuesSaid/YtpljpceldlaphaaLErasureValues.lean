/- The law ErasureValues of stelelaw15 returns true for every input, and the argument reads behind the call as it read before. No conditions. -/
import Derived.Test.YtpljpceldlaphaaEj
import Derived.ProofKit
import Derived.OpenShut
import Derived.ShutString
import Derived.ChangeOld
namespace Go.Proofs.Ytpljpceldlaphaa
namespace ErasureValues
open Go.RowKit

set_option maxRecDepth 100000 in
set_option maxHeartbeats 1000000 in
theorem core (w : World) (A : Option Addr) (n c : Nat) (l : List ByteArray) (h : Lst Value.string w A n c l) (hsm : ∀ s ∈ l, s.size ≤ maxLen) (spare : Int) (hs : IntKind.i64.min ≤ spare ∧ spare ≤ IntKind.i64.max) :
    Calls Try.prog 3 #[.slice A n c, .int .i64 spare] w fun e w' => e = .returned (.bool true) ∧ Below w.heap.size w w' := by
  have H := Lib.hid h
  have HS := Lib.hid hs
  obtain ⟨b, hb⟩ : ∃ b, b = shortB l := ⟨_, rfl⟩
  have HBB := Lib.hid hb
  cases b with
  | false =>
    have HC := Lib.hid (short_s w A n c l h false HBB hsm)
    clear h hs hb hsm
    go_enter Try.func3, Try.ntmps3
    go_wp2_with fail
    refine HC.out.mono ?_
    rintro e w' ⟨rfl, rfl⟩
    go_wp2_with fail
    refine (awake_e _).mono ?_
    rintro e w1 ⟨rfl, hb⟩
    go_wp2
    go_ret
    exact ⟨rfl, hb⟩
  | true =>
    have HC := Lib.hid (short_s w A n c l h true HBB hsm)
    have HL := Lib.hid (show ∀ s ∈ l, s.size ≤ 65536 from fun s hs => by
      unfold shortB at hb
      have h1 := (Bool.and_eq_true_iff.1 hb.symm).1
      have h2 := List.all_eq_true.1 h1 s hs
      have h3 := of_decide_eq_true h2
      omega)
    have HNB := Lib.hid (show l.length ≤ 65536 by
      unfold shortB at hb
      have h1 := of_decide_eq_true (Bool.and_eq_true_iff.1 hb.symm).2
      omega)
    obtain ⟨er, her⟩ : ∃ er, er = encE l spare := ⟨_, rfl⟩
    obtain ⟨r, hr⟩ : ∃ r, r = encB l spare := ⟨_, rfl⟩
    have HE := Lib.hid her
    have HR := Lib.hid hr
    clear h hs hb hsm her hr
    go_enter Try.func3, Try.ntmps3
    go_wp2_with fail
    refine HC.out.mono ?_
    rintro e w' ⟨rfl, rfl⟩
    go_wp2_with fail
    refine (encode_f _ A n c l H.out spare HS.out HL.out).mono ?_
    rw [← HE.out, ← HR.out]
    rintro e w1 ⟨v1, rfl, ho1, hb1⟩
    obtain ⟨A1, c1, rfl, hy1, _⟩ := lst_own ho1
    have HY1 := Lib.hid hy1
    have HB1 := Lib.hid hb1
    have H1 := Lib.hid (H.out.below hb1)
    clear ho1 hb1 hy1
    go_wp2_with fail
    refine (rencode_f _ A n c l H1.out spare HS.out HNB.out HL.out).mono ?_
    rw [← HE.out, ← HR.out]
    rintro e w2 ⟨v2, rfl, ho2, hb2⟩
    obtain ⟨A2, c2, rfl, hy2, _⟩ := lst_own ho2
    have HY2 := Lib.hid hy2
    have HB2 := Lib.hid (HB1.out.trans (hb2.mono HB1.out.size))
    have HY12 := Lib.hid (HY1.out.below hb2)
    clear ho2 hb2 hy2
    go_wp2_with fail
    refine (same_s _ A1 _ c1 r A2 _ c2 r HY12.out HY2.out).mono ?_
    rw [decide_eq_true (rfl : r = r)]
    rintro e w3 ⟨rfl, hd3⟩
    have HB3 := Lib.hid (HB2.out.trans (hd3.below _))
    clear hd3
    go_wp2_with fail
    refine (awake_e _).mono ?_
    rintro e w4 ⟨rfl, hb4⟩
    have HB4 := Lib.hid (HB3.out.trans (hb4.mono HB3.out.size))
    clear hb4
    go_wp2
    go_ret
    exact ⟨rfl, HB4.out⟩

end ErasureValues
end Go.Proofs.Ytpljpceldlaphaa
