/- The machine's execute makes the step of the plain machine, whatever the instruction. -/
import Derived.Test.YtfjjdogjihpbnaaDoorMf
import Derived.Test.YtfjjdogjihpbnaaDoorMh
import Derived.Test.YtfjjdogjihpbnaaDoorMi
namespace Go.Proofs.YtfjjdogjihpbnaaDoor
open Go.RowKit
namespace Mc

section
variable {fix : List (Nat × Obj)} {w0 W : World} {g : Nat} {n : Int} {z : Bool} {bb : Nat} {s : St}
theorem ex_any (h : MP fix w0 W g n z (.map (some bb)) s) (hfx : (bb, .map ents 7) ∈ fix) (ok : Ok s) (ho : s.out.length ≤ 1000000000) {c : Int} (hc : c ≠ 36) :
    Calls Tryd.prog 33 #[.pointer (some ⟨g, 0, none⟩), .int .u32 c] W (Goes fix w0 g n z (.map (some bb)) s.out (stp s c) (.tuple #[])) := by
  unfold stp
  by_cases h1 : isDig c
  · rw [if_pos h1]
    unfold stDig
    cases hd : s.digit with
    | false => exact ex_digp h hd ok.dlen h1
    | true =>
      cases hD : s.data with
      | nil => exact absurd hD (ok.digit hd)
      | cons x l =>
        have := ex_digm h hd ok.dlen hD (ok.data x (by rw [hD]; simp)) h1
        rw [hd] at this
        exact this
  · rw [if_neg h1]
    by_cases h2 : c = 32 ∨ c = 10
    · rw [if_pos h2]; exact ex_space h h2
    · rw [if_neg h2]
      by_cases h3 : isBin c
      · rw [if_pos h3]; exact ex_bin h hfx ok.dlen ok.data h3
      · rw [if_neg h3]
        by_cases h4 : c = 64
        · rw [if_pos h4]; subst h4; exact ex_load h ok.dlen ok.data
        · rw [if_neg h4]
          by_cases h5 : c = 33
          · rw [if_pos h5]; subst h5; exact ex_store h ok.dlen ok.data
          · rw [if_neg h5]
            by_cases h6 : c = 63
            · rw [if_pos h6]; subst h6; exact ex_jump h ok.dlen
            · rw [if_neg h6]
              by_cases h7 : c = 58
              · rw [if_pos h7]; subst h7; exact ex_call h ok.dlen ok.clen
              · rw [if_neg h7]
                by_cases h8 : c = 59
                · rw [if_pos h8]; subst h8; exact ex_back h ok.clen
                · rw [if_neg h8]
                  by_cases h9 : c = 44
                  · rw [if_pos h9]; subst h9; exact ex_read h ok.dlen
                  · rw [if_neg h9]
                    by_cases h10 : c = 46
                    · rw [if_pos h10]; subst h10; exact ex_out h ok.dlen ho
                    · rw [if_neg h10]
                      exact ex_none h hfx h1 h3 (by omega)
end

/-! the next state is well formed -/
theorem psh_some {s t : St} {v : Int} (h : psh s v = some t) : s.data.length < 256 ∧ t = { s with data := v :: s.data } := by
  unfold psh at h
  by_cases hl : s.data.length < 256
  · rw [if_pos hl] at h; injection h with h; exact ⟨hl, h.symm⟩
  · rw [if_neg hl] at h; cases h
/-- all but the flag -/
structure Ok0 (s : St) : Prop where
  mem : ∀ i, W32 (s.mem i)
  pc : W32 s.pc
  data : ∀ x ∈ s.data, W32 x
  dlen : s.data.length ≤ 256
  calls : ∀ x ∈ s.calls, W32 x
  clen : s.calls.length ≤ 64
  input : ∀ x ∈ s.input, W32 x
theorem Ok.to0 {s : St} (h : Ok s) : Ok0 s := ⟨h.mem, h.pc, h.data, h.dlen, h.calls, h.clen, h.input⟩
theorem ok0_push {s t : St} {v : Int} (h : Ok0 s) (hv : W32 v) (e : psh s v = some t) : Ok0 t ∧ t.out = s.out ∧ t.data ≠ [] := by
  obtain ⟨hl, rfl⟩ := psh_some e
  refine ⟨⟨h.mem, h.pc, fun x hx => ?_, by simp; omega, h.calls, h.clen, h.input⟩, rfl, by simp⟩
  rcases List.mem_cons.1 hx with rfl | hx
  · exact hv
  · exact h.data x hx
theorem w32_mk {x : Int} (h0 : 0 ≤ x) (h1 : x ≤ 4294967295) : W32 x := ⟨h0, h1⟩
theorem stp_ok0 {s t : St} (h : Ok0 s) {c : Int} (hc : W32 c) (e : stp s c = some t) : Ok0 t ∧ t.out.length ≤ s.out.length + 1 ∧ (isDig c → t.data ≠ []) := by
  unfold stp at e
  have hc0 := hc.1
  have hc1 := hc.2
  by_cases h1 : isDig c
  · rw [if_pos h1] at e
    unfold isDig at h1
    unfold stDig at e
    cases hd : s.digit with
    | false =>
      rw [hd] at e
      obtain ⟨h2, h3, h4⟩ := ok0_push h (v := c - 48) (w32_mk (by omega) (by omega)) e
      exact ⟨h2, by rw [h3]; omega, fun _ => h4⟩
    | true =>
      rw [hd] at e
      cases hD : s.data with
      | nil => rw [hD] at e; cases e
      | cons x l =>
        rw [hD] at e
        injection e with e
        subst e
        refine ⟨⟨h.mem, h.pc, fun y hy => ?_, by have := h.dlen; rw [hD] at this; simpa using this, h.calls, h.clen, h.input⟩, by simp, fun _ => by simp⟩
        rcases List.mem_cons.1 hy with rfl | hy
        · exact w32_u32 _
        · exact h.data y (by rw [hD]; simp [hy])
  · rw [if_neg h1] at e
    have key : Ok0 t ∧ t.out.length ≤ s.out.length + 1 → Ok0 t ∧ t.out.length ≤ s.out.length + 1 ∧ (isDig c → t.data ≠ []) := fun k => ⟨k.1, k.2, fun q => absurd q h1⟩
    apply key
    have hdl := h.dlen
    by_cases h2 : c = 32 ∨ c = 10
    · rw [if_pos h2] at e; injection e with e; subst e; exact ⟨h, by omega⟩
    · rw [if_neg h2] at e
      by_cases h3 : isBin c
      · rw [if_pos h3] at e
        unfold stBin at e
        match hD : s.data with
        | [] => rw [hD] at e; cases e
        | [b] => rw [hD] at e; cases e
        | b :: a :: l =>
          rw [hD] at e hdl
          simp only at e
          cases hb : bin c a b with
          | none => rw [hb] at e; cases e
          | some v =>
            rw [hb] at e
            injection e with e
            subst e
            have hv := bin_w32 (h.data a (by rw [hD]; simp)) (h.data b (by rw [hD]; simp)) hb
            refine ⟨⟨h.mem, h.pc, fun y hy => ?_, by simp at hdl ⊢; omega, h.calls, h.clen, h.input⟩, by simp⟩
            rcases List.mem_cons.1 hy with rfl | hy
            · exact hv
            · exact h.data y (by rw [hD]; simp [hy])
      · rw [if_neg h3] at e
        by_cases h4 : c = 64
        · rw [if_pos h4] at e
          unfold stLoad at e
          match hD : s.data with
          | [] => rw [hD] at e; cases e
          | a :: l =>
            rw [hD] at e hdl
            simp only at e
            by_cases ha : 262144 ≤ a
            · rw [if_pos ha] at e; cases e
            · rw [if_neg ha] at e
              injection e with e
              subst e
              refine ⟨⟨h.mem, h.pc, fun y hy => ?_, by simpa using hdl, h.calls, h.clen, h.input⟩, by simp⟩
              rcases List.mem_cons.1 hy with rfl | hy
              · exact h.mem _
              · exact h.data y (by rw [hD]; simp [hy])
        · rw [if_neg h4] at e
          by_cases h5 : c = 33
          · rw [if_pos h5] at e
            unfold stStore at e
            match hD : s.data with
            | [] => rw [hD] at e; cases e
            | [a] => rw [hD] at e; cases e
            | a :: v :: l =>
              rw [hD] at e hdl
              simp only at e
              by_cases ha : 262144 ≤ a
              · rw [if_pos ha] at e; cases e
              · rw [if_neg ha] at e
                injection e with e
                subst e
                refine ⟨⟨fun i => ?_, h.pc, fun y hy => h.data y (by rw [hD]; simp [hy]), by simp at hdl ⊢; omega, h.calls, h.clen, h.input⟩, by simp⟩
                show W32 (put s.mem a.toNat v i)
                unfold put
                split
                · exact h.data v (by rw [hD]; simp)
                · exact h.mem i
          · rw [if_neg h5] at e
            by_cases h6 : c = 63
            · rw [if_pos h6] at e
              unfold stJump at e
              match hD : s.data with
              | [] => rw [hD] at e; cases e
              | [a] => rw [hD] at e; cases e
              | t' :: x :: l =>
                rw [hD] at e hdl
                injection e with e
                subst e
                refine ⟨⟨h.mem, ?_, fun y hy => h.data y (by rw [hD]; simp [hy]), by simp at hdl ⊢; omega, h.calls, h.clen, h.input⟩, by simp⟩
                show W32 (if x = 0 then t' else s.pc)
                split
                · exact h.data t' (by rw [hD]; simp)
                · exact h.pc
            · rw [if_neg h6] at e
              by_cases h7 : c = 58
              · rw [if_pos h7] at e
                unfold stCall at e
                match hD : s.data with
                | [] => rw [hD] at e; cases e
                | t' :: l =>
                  rw [hD] at e hdl
                  simp only at e
                  by_cases ha : s.calls.length < 64
                  · rw [if_pos ha] at e
                    injection e with e
                    subst e
                    refine ⟨⟨h.mem, h.data t' (by rw [hD]; simp), fun y hy => h.data y (by rw [hD]; simp [hy]), by simp at hdl ⊢; omega, fun y hy => ?_, by simp; omega, h.input⟩, by simp⟩
                    rcases List.mem_cons.1 hy with rfl | hy
                    · exact h.pc
                    · exact h.calls y hy
                  · rw [if_neg ha] at e; cases e
              · rw [if_neg h7] at e
                by_cases h8 : c = 59
                · rw [if_pos h8] at e
                  unfold stBack at e
                  have hcl := h.clen
                  match hD : s.calls with
                  | [] => rw [hD] at e; cases e
                  | p :: l =>
                    rw [hD] at e hcl
                    injection e with e
                    subst e
                    exact ⟨⟨h.mem, h.calls p (by rw [hD]; simp), h.data, h.dlen, fun y hy => h.calls y (by rw [hD]; simp [hy]), by simp at hcl ⊢; omega, h.input⟩, by simp⟩
                · rw [if_neg h8] at e
                  by_cases h9 : c = 44
                  · rw [if_pos h9] at e
                    unfold stRead at e
                    match hD : s.input with
                    | [] =>
                      rw [hD] at e
                      obtain ⟨q1, q2, _⟩ := ok0_push h (w32_mk (by omega) (by omega)) e
                      exact ⟨q1, by rw [q2]; omega⟩
                    | x :: l =>
                      rw [hD] at e
                      have h' : Ok0 { s with input := l } := ⟨h.mem, h.pc, h.data, h.dlen, h.calls, h.clen, fun y hy => h.input y (by rw [hD]; simp [hy])⟩
                      obtain ⟨q1, q2, _⟩ := ok0_push h' (h.input x (by rw [hD]; simp)) e
                      exact ⟨q1, by rw [q2]; simp⟩
                  · rw [if_neg h9] at e
                    by_cases h10 : c = 46
                    · rw [if_pos h10] at e
                      unfold stOut at e
                      match hD : s.data with
                      | [] => rw [hD] at e; cases e
                      | x :: l =>
                        rw [hD] at e hdl
                        injection e with e
                        subst e
                        exact ⟨⟨h.mem, h.pc, fun y hy => h.data y (by rw [hD]; simp [hy]), by simp at hdl ⊢; omega, h.calls, h.clen, h.input⟩, by simp⟩
                    · rw [if_neg h10] at e; cases e
theorem ok_pc {s : St} (h : Ok s) {p : Int} (hp : W32 p) : Ok { s with pc := p } := ⟨h.mem, hp, h.data, h.dlen, h.calls, h.clen, h.input, h.digit⟩
theorem nxt_ok {s t : St} (h : Ok s) (hp : s.pc < 262144) {c : Int} (hc : W32 c) (e : nxt s c = some t) : Ok t ∧ t.out.length ≤ s.out.length + 1 := by
  unfold nxt at e
  cases h1 : stp { s with pc := s.pc + 1 } c with
  | none => rw [h1] at e; cases e
  | some u =>
    rw [h1] at e
    injection e with e
    subst e
    have hp0 := h.pc.1
    obtain ⟨q, q2, q3⟩ := stp_ok0 (ok_pc h (p := s.pc + 1) (w32_mk (by omega) (by omega))).to0 hc h1
    exact ⟨⟨q.mem, q.pc, q.data, q.dlen, q.calls, q.clen, q.input, fun hd => q3 (of_decide_eq_true hd)⟩, q2⟩

end Mc
end Go.Proofs.YtfjjdogjihpbnaaDoor
