/- A longer run goes on from a shorter one, in plain Lean; walks of Great and of HasPrefix. -/
import Derived.Test.YtfjjdogjihpbnaaMo
namespace Go.Proofs.Ytfjjdogjihpbnaa
open Go.RowKit
set_option linter.unusedVariables false
namespace Mc

theorem psh_out {s t : St} {v : Int} (h : psh s v = some t) : t.out = s.out := by
  obtain ⟨_, rfl⟩ := psh_some h
  rfl
theorem stp_out {s t : St} {c : Int} (h : stp s c = some t) : s.out <+: t.out := by
  have key : t.out = s.out → s.out <+: t.out := fun e => by rw [e]; exact List.prefix_rfl
  unfold stp at h
  split at h
  · unfold stDig at h
    split at h
    · injection h with h; subst h; exact List.prefix_rfl
    · cases h
    · exact key (psh_out h)
  split at h
  · injection h with h; subst h; exact List.prefix_rfl
  split at h
  · unfold stBin at h
    split at h
    · split at h
      · injection h with h; subst h; exact List.prefix_rfl
      · cases h
    · cases h
  split at h
  · unfold stLoad at h
    split at h
    · split at h
      · cases h
      · injection h with h; subst h; exact List.prefix_rfl
    · cases h
  split at h
  · unfold stStore at h
    split at h
    · split at h
      · cases h
      · injection h with h; subst h; exact List.prefix_rfl
    · cases h
  split at h
  · unfold stJump at h
    split at h
    · injection h with h; subst h; exact List.prefix_rfl
    · cases h
  split at h
  · unfold stCall at h
    split at h
    · split at h
      · injection h with h; subst h; exact List.prefix_rfl
      · cases h
    · cases h
  split at h
  · unfold stBack at h
    split at h
    · injection h with h; subst h; exact List.prefix_rfl
    · cases h
  split at h
  · unfold stRead at h
    split at h
    · exact key (psh_out h)
    · have := psh_out h
      exact key this
  split at h
  · unfold stOut at h
    split at h
    · injection h with h; subst h; exact List.prefix_append _ _
    · cases h
  · cases h
theorem nxt_out {s t : St} {c : Int} (h : nxt s c = some t) : s.out <+: t.out := by
  unfold nxt at h
  cases h1 : stp { s with pc := s.pc + 1 } c with
  | none => rw [h1] at h; cases h
  | some u =>
    rw [h1] at h
    injection h with h
    subst h
    have h5 : ({ s with pc := s.pc + 1 } : St).out <+: u.out := stp_out h1
    exact h5
theorem runM_grows : ∀ (b n : Nat) (s : St), s.out <+: (runM b n s).1 ∧ (n : Int) ≤ (runM b n s).2.2
  | 0, n, s => ⟨List.prefix_rfl, Int.le_refl _⟩
  | b + 1, n, s => by
    by_cases h1 : 262144 ≤ s.pc
    · rw [runM_far h1]; exact ⟨List.prefix_rfl, by simp; omega⟩
    · by_cases h2 : s.mem s.pc.toNat = 36
      · rw [runM_halt h1 h2]; exact ⟨List.prefix_rfl, by simp; omega⟩
      · cases h3 : nxt s (s.mem s.pc.toNat) with
        | none => rw [runM_trap h1 h2 h3]; exact ⟨List.prefix_rfl, by simp; omega⟩
        | some t =>
          rw [runM_next h1 h2 h3]
          have h4 := runM_grows b (n + 1) t
          exact ⟨(nxt_out h3).trans h4.1, by have := h4.2; omega⟩
theorem runM_more : ∀ (a b n : Nat) (s : St), (runM a n s).1 <+: (runM (a + b) n s).1 ∧ (runM a n s).2.2 ≤ (runM (a + b) n s).2.2 ∧ ((runM a n s).2.1 = 13 ∨ runM a n s = runM (a + b) n s)
  | 0, b, n, s => by
    rw [Nat.zero_add]
    exact ⟨(runM_grows b n s).1, (runM_grows b n s).2, .inl rfl⟩
  | a + 1, b, n, s => by
    rw [show a + 1 + b = a + b + 1 by omega]
    by_cases h1 : 262144 ≤ s.pc
    · rw [runM_far h1, runM_far h1]; exact ⟨List.prefix_rfl, Int.le_refl _, .inr rfl⟩
    · by_cases h2 : s.mem s.pc.toNat = 36
      · rw [runM_halt h1 h2, runM_halt h1 h2]; exact ⟨List.prefix_rfl, Int.le_refl _, .inr rfl⟩
      · cases h3 : nxt s (s.mem s.pc.toNat) with
        | none => rw [runM_trap h1 h2 h3, runM_trap h1 h2 h3]; exact ⟨List.prefix_rfl, Int.le_refl _, .inr rfl⟩
        | some t => rw [runM_next h1 h2 h3, runM_next h1 h2 h3]; exact runM_more a b (n + 1) t
theorem runT_more (ts : List Txt) (at_ : Int) (input : List Int) {few many : Int} (h : few ≤ many) (hm : many ≤ 100000000) :
    (runT ts at_ input few).1 <+: (runT ts at_ input many).1 ∧ (runT ts at_ input few).2.2 ≤ (runT ts at_ input many).2.2 ∧ ((runT ts at_ input few).2.1 = 13 ∨ runT ts at_ input few = runT ts at_ input many) := by
  unfold runT
  by_cases hb : at_ < 0 ∨ 262144 ≤ at_ ∨ ts.any badT = true
  · rw [if_pos hb, if_pos hb]; exact ⟨List.prefix_rfl, Int.le_refl _, .inr rfl⟩
  · rw [if_neg hb, if_neg hb, if_neg (by omega), if_neg (by omega)]
    have := runM_more few.toNat (many.toNat - few.toNat) 0 (start ts at_ input)
    rwa [show few.toNat + (many.toNat - few.toNat) = many.toNat by omega] at this

/-! walks -/
/-- some number, 0 or 1 -/
def GreatPost (w : World) (e : Ending) (w' : World) : Prop := ∃ r : Int, (r = 0 ∨ r = 1) ∧ e = .returned (.int .i64 r) ∧ Below w.heap.size w w'

set_option maxRecDepth 100000 in
set_option maxHeartbeats 1000000 in
theorem great_f (w : World) (A : Option Addr) (n c : Nat) (ts : List Txt) (h : Txs w A n c ts) (hts : ∀ t ∈ ts, (IntKind.i64.min ≤ t.1 ∧ t.1 ≤ IntKind.i64.max) ∧ t.2.size ≤ maxLen) (Ai : Option Addr) (ni ci : Nat) (hni : ni ≤ maxLen) (steps : Int) :
    Calls Try.prog 9 #[.slice A n c, .slice Ai ni ci, .int .i64 steps] w (GreatPost w) := by
  have hn := h.len
  have hlc : n ≤ c := h.1
  have hcm : c ≤ 9223372036854775807 := h.2.1
  unfold maxLen at hni
  have HT := Lib.hid h
  have HTS := Lib.hid hts
  have HN := Lib.hid hn
  clear h hts hn
  go_enter Try.func9, Try.ntmps9
  go_wp2_with fail
  go_loopw [7, 14] (fun f i W => ∃ (k : Nat) (z : Int), k ≤ n ∧ i = .int .i64 (k : Int) ∧ f = .int .i64 z ∧ Below w.heap.size w W) (fun _ i _ => n - (intOf i).toNat)
  case atStart => exact ⟨0, _, by omega, rfl, rfl, Below.refl _ _⟩
  case round =>
    obtain ⟨k, z, hk, rfl, rfl, hb⟩ := hrel
    have HB := Lib.hid hb
    by_cases hkn : k < n
    · have hkl : k < ts.length := by rw [← HN.out]; exact hkn
      obtain ⟨ad, rfl, _, hx0, hx1⟩ := (HT.out.below hb).at_ hkl
      obtain ⟨x, hx⟩ : ∃ x, x = ts[k] := ⟨_, rfl⟩
      rw [← hx] at hx0 hx1
      clear hb hx
      go_wp2_with fail
      go_roundw
      case rel => exact ⟨k + 1, _, by omega, by go_num, rfl, HB.out.alloc HB.out.size _⟩
      case measure => simp [intOf]; omega
    · clear hb
      by_cases h1 : 3000 < z
      · go_wp2_with fail
        go_ret
        exact ⟨1, .inr rfl, rfl, HB.out⟩
      · by_cases h2 : 20000 < steps
        · by_cases h3 : steps ≤ 100000000
          · have hd : decide (steps ≤ 100000000) = true := by simpa using h3
            go_wp2_with fail
            go_ret
            exact ⟨1, .inr rfl, rfl, HB.out⟩
          · have hd : decide (steps ≤ 100000000) = false := by simpa using h3
            go_wp2_with fail
            go_ret
            exact ⟨0, .inl rfl, rfl, HB.out⟩
        · have hd : decide (20000 < steps) = false := by simpa using h2
          go_wp2_with fail
          go_ret
          exact ⟨0, .inl rfl, rfl, HB.out⟩

theorem hp_in (w : World) (s p : ByteArray) (hs : s.size ≤ 9223372036854775807) (h : bl p <+: bl s) :
    Calls Try.prog 21 #[.string s, .string p] w fun e w' => e = .returned (.bool true) ∧ w = w' := by
  have hl : p.size ≤ s.size := by have := h.length_le; simpa [bl] using this
  have hx : s.extract 0 p.size = p := by
    have h1 : bl (s.extract 0 p.size) = bl p := by
      have h2 := List.prefix_iff_eq_take.1 h
      rw [h2]
      simp [bl, ByteArray.data_extract]
    have := congrArg ofL h1
    rwa [ofL_bl, ofL_bl] at this
  have HX := Lib.hid hx
  clear hx h
  go_enter Try.func21, Try.ntmps21
  go_wp2
  go_ret
  refine ⟨?_, rfl⟩
  show Ending.returned (.bool ((s.extract 0 p.size).toList == p.toList)) = _
  rw [HX.out]
  simp
theorem hp_yes (w : World) (s p : ByteArray) (hs : s.size ≤ 9223372036854775807) (h : bl p <+: bl s) :
    Calls Try.prog 12 #[.string s, .string p] w fun e w' => e = .returned (.bool true) ∧ w = w' := by
  have HC := Lib.hid (hp_in w s p hs h)
  clear h
  go_enter Try.func12, Try.ntmps12
  go_wp2_with fail
  refine HC.out.mono ?_
  rintro e w' ⟨rfl, rfl⟩
  go_wp2_with fail
  go_ret
  exact ⟨rfl, rfl⟩

end Mc
end Go.Proofs.Ytfjjdogjihpbnaa
