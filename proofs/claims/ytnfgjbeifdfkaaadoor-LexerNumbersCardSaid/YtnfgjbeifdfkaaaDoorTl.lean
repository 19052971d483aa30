/- Tokens in memory: parts of a row of tokens; any answer of Tokens. -/
import Derived.Test.YtnfgjbeifdfkaaaDoorTk
namespace Go.Proofs.YtnfgjbeifdfkaaaDoor
open Go.RowKit
set_option linter.unusedVariables false
namespace Lx

theorem Tks.take {W : World} {A : Option Addr} {c : Nat} {l m : List Tk} (h : Tks W A c (l ++ m)) : Tks W A c l := by
  refine ⟨by have := h.le; rw [List.length_append] at this; omega, h.max, fun h0 => ?_⟩
  obtain ⟨g, o, e, hlt, hk⟩ := h.mem (by rw [List.length_append]; omega)
  refine ⟨g, o, e, hlt, fun k hkl => ?_⟩
  have := hk k (by rw [List.length_append]; omega)
  rw [List.getElem_append_left hkl] at this
  exact this
theorem Tks.drop {W : World} {g : Nat} {c : Nat} {l m : List Tk} (h : Tks W (some ⟨g, 0, none⟩) c (l ++ m)) : Tks W (some ⟨g, l.length * 3, none⟩) (c - l.length) m := by
  have hle := h.le
  rw [List.length_append] at hle
  refine ⟨by omega, Nat.le_trans (Nat.sub_le _ _) h.max, fun h0 => ?_⟩
  obtain ⟨g', o, e, hlt, hk⟩ := h.mem (by rw [List.length_append]; omega)
  injection e with e
  injection e with e1 e2 _
  subst e1
  subst e2
  refine ⟨g, l.length * 3, rfl, hlt, fun k hkl => ?_⟩
  have := hk (l.length + k) (by rw [List.length_append]; omega)
  rw [List.getElem_append_right (by omega)] at this
  simp only [Nat.add_sub_cancel_left, Nat.zero_add, Nat.add_mul] at this
  exact this
theorem Tks.nil_ (W : World) (A : Option Addr) {c : Nat} (hc : c ≤ maxLen) : Tks W A c [] := ⟨Nat.zero_le _, hc, fun h => absurd h (by simp)⟩
/-- what Tokens hands back, with the form of the slice -/
def OkF (w : World) (l : List Tk) (e : Ending) (w' : World) : Prop := ∃ A c, e = .returned (.tuple #[.slice A l.length c, .int .i64 0, .int .i64 0]) ∧ ((A = none ∧ c = 0 ∧ l = []) ∨ ∃ g, A = some ⟨g, 0, none⟩) ∧ Tks w' A c l ∧ Below w.heap.size w w'
theorem tokens_form (s : ByteArray) (hs : s.size ≤ 60000) (w : World) (ht : Tab w) {l : List Tk} (h : lex (bl s) 1 = .ok l) : Calls Tryd.prog 9 #[.string s] w (OkF w l) :=
  (tokens_f s hs w ht).mono fun e w' hp => by
    rw [h] at hp
    obtain ⟨v, rfl, h2, h3⟩ := hp
    obtain ⟨A, c, rfl, h4⟩ := tks_own h2
    refine ⟨A, c, rfl, ?_, h4, h3⟩
    rcases h2.2 with ⟨e1, e2⟩ | ⟨g, cap, cur, e1, _⟩
    · injection e1 with e3 _ e5
      exact .inl ⟨e3, e5, List.eq_nil_of_length_eq_zero e2⟩
    · injection e1 with e3 _ _
      exact .inr ⟨g, e3⟩
/-- any answer of Tokens -/
def AnyT (w : World) (e : Ending) (w' : World) : Prop := ∃ (A : Option Addr) (m c n x : Nat), e = .returned (.tuple #[.slice A m c, .int .i64 (n : Int), .int .i64 (x : Int)]) ∧ Below w.heap.size w w'
theorem tokens_any (s : ByteArray) (hs : s.size ≤ 60000) (w : World) (ht : Tab w) : Calls Tryd.prog 9 #[.string s] w (AnyT w) :=
  (tokens_f s hs w ht).mono fun e w' hp => by
    cases h : lex (bl s) 1 with
    | ok l =>
      rw [h] at hp
      obtain ⟨v, rfl, h2, h3⟩ := hp
      obtain ⟨A, c, rfl, h4⟩ := tks_own h2
      exact ⟨A, _, c, 0, 0, rfl, h3⟩
    | err n x =>
      rw [h] at hp
      obtain ⟨rfl, h3⟩ := hp
      exact ⟨none, 0, 0, n, x, rfl, h3⟩
theorem lex_join (a b : Bs) : lex (a ++ 10 :: b) 1 = (lex a 1).join ((lex b 1).sh (nls a + 1)) := by
  rw [lex_app b a.length a 1 (Nat.le_refl _), ← lex_sh (nls a + 1) b.length b 1 (Nat.le_refl _)]
  congr 2
theorem sh_zero (l : List Tk) : l.map (Tk.sh 0) = l := by
  have : (Tk.sh 0) = id := by funext t; rfl
  rw [this, List.map_id]
theorem asc_all {n : Nat} {l : List Tk} (h : ∀ t ∈ l, t.line ≤ n) : ∀ t ∈ l, t.line ≤ n := h
theorem lex_lines : ∀ (m : Nat) (a : Bs) (line : Nat), a.length ≤ m → ∀ l, lex a line = .ok l → ∀ t ∈ l, t.line ≤ line + nls a := by
  intro m
  induction m with
  | zero =>
    intro a line ha l h
    obtain rfl : a = [] := List.eq_nil_of_length_eq_zero (by omega)
    rw [lex_nil] at h
    injection h with h
    subst h
    exact fun t ht => by cases ht
  | succ m ih =>
    intro a line ha l h
    by_cases hs : a = []
    · subst hs
      rw [lex_nil] at h
      injection h with h
      subst h
      exact fun t ht => by cases ht
    by_cases hn : skp a = 0
    · cases ht : token a with
      | err e => rw [lex_err hs hn ht] at h; cases h
      | ok k t n =>
        have hz := token_size hs ht
        have hna : nls a = nls (a.take n) + nls (a.drop n) := by rw [← nls_append, List.take_append_drop]
        rw [lex_tok hs hn ht] at h
        cases hr : lex (a.drop n) (line + nls (a.take n)) with
        | err n' e' => rw [hr] at h; cases h
        | ok l' =>
          rw [hr] at h
          injection h with h
          subst h
          intro u hu
          rcases List.mem_cons.1 hu with rfl | hu
          · show line ≤ _; omega
          · have := ih _ _ (by rw [List.length_drop]; omega) l' hr u hu
            omega
    · have hsl := skp_le a
      have hna : nls a = nls (a.take (skp a)) + nls (a.drop (skp a)) := by rw [← nls_append, List.take_append_drop]
      rw [lex_skip hn] at h
      intro u hu
      have := ih _ _ (by rw [List.length_drop]; omega) l h u hu
      omega
theorem nls_le (a : Bs) : nls a ≤ a.length := List.count_le_length
/-- any answer of Tokens, at any source text -/
theorem tokens_any' (s : ByteArray) (w : World) (ht : Tab w) : Calls Tryd.prog 9 #[.string s] w (AnyT w) := by
  by_cases hs : s.size ≤ 60000
  · exact tokens_any s hs w ht
  · exact (tokens_big s (by omega) w).mono fun e w' ⟨h1, h2⟩ => ⟨none, 0, 0, 0, 6, h1, by rw [h2]; exact Below.refl _ _⟩
theorem good_len {k : Nat} {t : Bs} (h : Good k t) : t.length ≤ 24 := by
  rcases h with ⟨_, v, hv, rfl⟩ | ⟨_, _, _, _, h4, _⟩ | ⟨_, hk⟩ | ⟨_, hs⟩
  · have := dd_size (u := v) (by omega)
    rw [ofL_size] at this
    omega
  · exact h4
  · exact (kws_props t hk).2.2.2
  · have := (sgs_pos t hs).2
    omega
theorem glue_app (a b : List Tk) : glue (a ++ b) = glue a ++ glue b := by simp [glue]
theorem glue_len : ∀ {l : List Tk}, (∀ t ∈ l, Good t.kind t.text) → (glue l).length ≤ 25 * l.length
  | [], _ => Nat.le_refl _
  | t :: l, h => by
    have h1 := good_len (h t (by simp))
    have h2 := glue_len (l := l) (fun t ht => h t (by simp [ht]))
    have e : glue (t :: l) = (t.text ++ [32]) ++ glue l := by simp [glue]
    rw [e, List.length_append, List.length_append, List.length_cons]
    simp only [List.length_cons, List.length_nil]
    omega
end Lx
end Go.Proofs.YtnfgjbeifdfkaaaDoor
