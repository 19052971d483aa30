/- The reference's step is the step of the plain machine. -/
import Derived.Test.YtfjjdogjihpbnaaRc
import Derived.Test.YtfjjdogjihpbnaaRd
import Derived.Test.YtfjjdogjihpbnaaRe
namespace Go.Proofs.Ytfjjdogjihpbnaa
open Go.RowKit
namespace Mc

section
variable {fix : List (Nat × Obj)} {w0 W : World} {g : Nat} {s : St}
theorem rs_any (h : MR fix w0 W g s) (ok : Ok s) (ho : s.out.length ≤ 1000000000) {c : Int} :
    Calls Try.prog 20 #[.pointer (some ⟨g, 0, none⟩), .int .u32 c] W (RGoes fix w0 g s.out (stp s c)) := by
  unfold stp
  by_cases h1 : isDig c
  · rw [if_pos h1]
    unfold stDig
    cases hd : s.digit with
    | false => exact rs_digp h hd ok.dlen h1
    | true =>
      cases hD : s.data with
      | nil => exact absurd hD (ok.digit hd)
      | cons x l =>
        have := rs_digm h hd ok.dlen hD (ok.data x (by rw [hD]; simp)) h1
        rw [hd] at this
        exact this
  · rw [if_neg h1]
    by_cases h2 : c = 32 ∨ c = 10
    · rw [if_pos h2]; exact rs_space h ok.dlen h2
    · rw [if_neg h2]
      by_cases h3 : isBin c
      · rw [if_pos h3]; exact rs_bin h ok.dlen ok.data h3
      · rw [if_neg h3]
        by_cases h4 : c = 64
        · rw [if_pos h4]; subst h4; exact rs_load h ok.dlen ok.data
        · rw [if_neg h4]
          by_cases h5 : c = 33
          · rw [if_pos h5]; subst h5; exact rs_store h ok.dlen ok.data
          · rw [if_neg h5]
            by_cases h6 : c = 63
            · rw [if_pos h6]; subst h6; exact rs_jump h ok.dlen ok.data
            · rw [if_neg h6]
              by_cases h7 : c = 58
              · rw [if_pos h7]; subst h7; exact rs_call h ok.dlen ok.data ok.clen
              · rw [if_neg h7]
                by_cases h8 : c = 59
                · rw [if_pos h8]; subst h8; exact rs_back h ok.dlen ok.clen
                · rw [if_neg h8]
                  by_cases h9 : c = 44
                  · rw [if_pos h9]; subst h9; exact rs_read h ok.dlen
                  · rw [if_neg h9]
                    by_cases h10 : c = 46
                    · rw [if_pos h10]; subst h10; exact rs_out h ok.dlen ok.data ho
                    · rw [if_neg h10]
                      exact rs_none h ok.dlen h1 h3 (by omega)
end

end Mc
end Go.Proofs.Ytfjjdogjihpbnaa
