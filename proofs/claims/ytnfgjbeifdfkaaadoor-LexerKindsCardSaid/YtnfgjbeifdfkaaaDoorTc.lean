/- The lexer in plain Lean: what tokens look like; their texts with spaces between them; numbers. -/
import Derived.Test.YtnfgjbeifdfkaaaDoorTb
namespace Go.Proofs.YtnfgjbeifdfkaaaDoor
set_option linter.unusedVariables false
namespace Lx

def Good (k : Nat) (t : Bs) : Prop :=
  (k = 1 ∧ ∃ v, v ≤ 4294967295 ∧ t = Lib.decDigits v) ∨ (k = 2 ∧ (∀ c ∈ t, inn c = true) ∧ ltr (t.headD 0) = true ∧ t ≠ [] ∧ t.length ≤ 24 ∧ t ∉ kws) ∨ (k = 3 ∧ t ∈ kws) ∨ (k = 4 ∧ t ∈ sgs)
theorem token_good {s : Bs} (hs : s ≠ []) {k : Nat} {t : Bs} {n : Nat} (h : token s = .ok k t n) : Good k t := by
  unfold token at h
  split at h
  · unfold number at h
    simp only at h
    split at h
    · cases h
    · split at h
      · cases h
      · injection h with h1 h2 _
        subst h1
        subst h2
        exact .inl ⟨rfl, _, by omega, rfl⟩
  · split at h
    · rename_i hl
      unfold name at h
      simp only at h
      split at h
      · cases h
      · rename_i h24
        injection h with h1 h2 _
        subst h2
        have hp : 1 ≤ (s.takeWhile inn).length := tw_pos (by unfold inn; rw [hl]; rfl) hs
        by_cases hk : s.takeWhile inn ∈ kws
        · rw [if_pos hk] at h1
          exact .inr (.inr (.inl ⟨h1.symm, hk⟩))
        · rw [if_neg hk] at h1
          refine .inr (.inl ⟨h1.symm, fun c hc => mem_tw hc, ?_, fun e => by rw [e] at hp; simp at hp, by omega, hk⟩)
          cases s with
          | nil => exact absurd rfl hs
          | cons a s =>
            simp at hl
            have : inn a = true := by unfold inn; rw [hl]; rfl
            simp [this, hl]
    · split at h
      · unfold literal at h
        split at h
        · rename_i hq
          injection h with h1 h2 _
          subst h1
          subst h2
          unfold litOk at hq
          simp at hq
          exact .inl ⟨rfl, _, by simp; omega, rfl⟩
        · cases h
      · unfold sign at h
        split at h
        · rename_i x hx
          injection h with h1 h2 _
          subst h1
          subst h2
          exact .inr (.inr (.inr ⟨rfl, List.mem_of_find?_eq_some hx⟩))
        · cases h
def asc : Nat → List Tk → Prop
  | _, [] => True
  | n, t :: l => n ≤ t.line ∧ asc t.line l
theorem asc_mono {n m : Nat} (h : m ≤ n) : ∀ {l : List Tk}, asc n l → asc m l
  | [], _ => trivial
  | t :: l, k => ⟨Nat.le_trans h k.1, k.2⟩
theorem lex_props : ∀ (m : Nat) (a : Bs) (line : Nat), a.length ≤ m → (∀ l, lex a line = .ok l → (∀ t ∈ l, Good t.kind t.text) ∧ asc line l ∧ l.length ≤ a.length) ∧ (∀ n e, lex a line = .err n e → line ≤ n ∧ n ≤ line + nls a ∧ (e = 2 ∨ e = 3 ∨ e = 7)) := by
  intro m
  induction m with
  | zero =>
    intro a line ha
    obtain rfl : a = [] := List.eq_nil_of_length_eq_zero (by omega)
    rw [lex_nil]
    exact ⟨fun l h => (by injection h with h; subst h; exact ⟨fun t ht => (by cases ht), trivial, by simp⟩), fun n e h => by cases h⟩
  | succ m ih =>
    intro a line ha
    by_cases hs : a = []
    · subst hs
      rw [lex_nil]
      exact ⟨fun l h => (by injection h with h; subst h; exact ⟨fun t ht => (by cases ht), trivial, by simp⟩), fun n e h => by cases h⟩
    by_cases hn : skp a = 0
    · cases ht : token a with
      | err e =>
        rw [lex_err hs hn ht]
        refine ⟨fun l h => (by cases h), fun n e' h => ?_⟩
        injection h with h1 h2
        subst h1
        subst h2
        refine ⟨Nat.le_refl _, by omega, ?_⟩
        unfold token at ht
        split at ht
        · unfold number at ht
          simp only at ht
          split at ht
          · injection ht with ht; omega
          · split at ht
            · injection ht with ht; omega
            · cases ht
        · split at ht
          · unfold name at ht
            simp only at ht
            split at ht
            · injection ht with ht; omega
            · cases ht
          · split at ht
            · unfold literal at ht
              split at ht
              · cases ht
              · injection ht with ht; omega
            · unfold sign at ht
              split at ht
              · cases ht
              · injection ht with ht; omega
      | ok k t n =>
        have hz := token_size hs ht
        have hg := token_good hs ht
        have hi := ih (a.drop n) (line + nls (a.take n)) (by rw [List.length_drop]; omega)
        have hna : nls a = nls (a.take n) + nls (a.drop n) := by rw [← nls_append, List.take_append_drop]
        rw [lex_tok hs hn ht]
        cases hr : lex (a.drop n) (line + nls (a.take n)) with
        | ok l' =>
          refine ⟨fun l h => ?_, fun n e h => by cases h⟩
          injection h with h
          subst h
          obtain ⟨h1, h2, h3⟩ := hi.1 l' hr
          rw [List.length_drop] at h3
          refine ⟨fun t ht => ?_, ⟨Nat.le_refl _, asc_mono (Nat.le_add_right _ _) h2⟩, by simp; omega⟩
          rcases List.mem_cons.1 ht with rfl | ht
          · exact hg
          · exact h1 t ht
        | err n' e' =>
          refine ⟨fun l h => (by cases h), fun n2 e h => ?_⟩
          injection h with h1 h2
          subst h1
          subst h2
          obtain ⟨h3, h4, h5⟩ := hi.2 n' e' hr
          exact ⟨by omega, by omega, h5⟩
    · have hsl := skp_le a
      have hi := ih (a.drop (skp a)) (line + nls (a.take (skp a))) (by rw [List.length_drop]; omega)
      have hna : nls a = nls (a.take (skp a)) + nls (a.drop (skp a)) := by rw [← nls_append, List.take_append_drop]
      rw [lex_skip hn]
      refine ⟨fun l h => ?_, fun n e h => ?_⟩
      · obtain ⟨h1, h2, h3⟩ := hi.1 l h
        rw [List.length_drop] at h3
        exact ⟨h1, asc_mono (Nat.le_add_right _ _) h2, by omega⟩
      · obtain ⟨h3, h4, h5⟩ := hi.2 n e h
        exact ⟨by omega, by omega, h5⟩

/-! digits -/
theorem dig_nat {n : Nat} (h : n < 10) : (UInt8.ofNat (48 + n)).toNat = 48 + n := by
  rw [UInt8.toNat_ofNat', Nat.mod_eq_of_lt (by omega)]
theorem dd_small {v : Nat} (h : v < 10) : Lib.decDigits v = [UInt8.ofNat (48 + v)] := by rw [Lib.decDigits, dif_pos h]
theorem dd_big {v : Nat} (h : ¬ v < 10) : Lib.decDigits v = Lib.decDigits (v / 10) ++ [UInt8.ofNat (48 + v % 10)] := by rw [Lib.decDigits, dif_neg h]
theorem val_app (a : Bs) (c : UInt8) : val (a ++ [c]) = 10 * val a + (c.toNat - 48) := by simp [val, List.foldl_append]
theorem dd_props (v : Nat) : (∀ c ∈ Lib.decDigits v, dgt c = true) ∧ val (Lib.decDigits v) = v ∧ Lib.decDigits v ≠ [] ∧ (1 ≤ v → (Lib.decDigits v).headD 0 ≠ 48) := by
  induction v using Nat.strongRecOn with
  | _ v ih =>
    by_cases h : v < 10
    · have hd := dig_nat h
      rw [dd_small h]
      refine ⟨fun c hc => ?_, ?_, by simp, fun h1 e => ?_⟩
      · rw [List.mem_singleton] at hc
        subst hc
        unfold dgt
        rw [hd]
        simp; omega
      · simp [val]; omega
      · have e1 := congrArg UInt8.toNat e
        simp only [List.headD_cons] at e1
        rw [hd] at e1
        have : (48 : UInt8).toNat = 48 := rfl
        omega
    · obtain ⟨h1, h2, h3, h4⟩ := ih (v / 10) (by omega)
      have hd := dig_nat (n := v % 10) (Nat.mod_lt _ (by omega))
      rw [dd_big h]
      refine ⟨fun c hc => ?_, ?_, by simp, fun _ => ?_⟩
      · rcases List.mem_append.1 hc with hc | hc
        · exact h1 c hc
        · rw [List.mem_singleton] at hc
          subst hc
          unfold dgt
          rw [hd]
          simp; omega
      · rw [val_app, h2, hd]
        omega
      · rw [head_app h3]
        exact h4 (by omega)
theorem dd_head_dgt (v : Nat) : dgt ((Lib.decDigits v).headD 0) = true := by
  obtain ⟨h1, _, h3, _⟩ := dd_props v
  cases h : Lib.decDigits v with
  | nil => exact absurd h h3
  | cons c t =>
    rw [h] at h1
    exact h1 c (by simp)
/-- a text of digits ahead of something else -/
theorem number_dig {d : Bs} (hd : ∀ c ∈ d, dgt c = true) {c : UInt8} {r : Bs} (hc : dgt c = false) : number (d ++ c :: r) = if ltr c || c == 95 then .err 3 else if 4294967295 < val d then .err 2 else .ok 1 (Lib.decDigits (val d)) d.length := by
  unfold number
  simp only
  rw [tw_app hc, tw_all hd, List.drop_left]
  rfl
theorem dgt_wsp {c : UInt8} (h : dgt c = true) : wsp c = false ∧ c ≠ 47 ∧ c ≠ 39 ∧ ltr c = false := by
  unfold dgt at h
  simp at h
  refine ⟨?_, ?_, ?_, ?_⟩
  · unfold wsp
    simp
    refine ⟨⟨?_, ?_⟩, ?_⟩ <;> rintro rfl <;> simp at h
  · rintro rfl; simp at h
  · rintro rfl; simp at h
  · unfold ltr
    simp; omega
theorem ltr_wsp {c : UInt8} (h : ltr c = true) : wsp c = false ∧ c ≠ 47 ∧ c ≠ 39 ∧ dgt c = false := by
  unfold ltr at h
  simp at h
  refine ⟨?_, ?_, ?_, ?_⟩
  · unfold wsp
    simp
    refine ⟨⟨?_, ?_⟩, ?_⟩ <;> rintro rfl <;> simp at h
  · rintro rfl; simp at h
  · rintro rfl; simp at h
  · unfold dgt
    simp; omega
theorem skp_zero {s : Bs} (hs : s ≠ []) (h1 : wsp (s.headD 0) = false) (h2 : pre [47, 47] s = false) : skp s = 0 := by
  unfold skp
  rw [if_neg (by rw [h2]; decide)]
  cases s with
  | nil => rfl
  | cons a s =>
    simp at h1
    simp [h1]
theorem pre_ne {s : Bs} (h : s.headD 0 ≠ 47) : pre [47, 47] s = false := by
  cases s with
  | nil => decide
  | cons a s => exact pre_head h
theorem kws_props : ∀ t ∈ kws, (∀ c ∈ t, inn c = true) ∧ ltr (t.headD 0) = true ∧ t ≠ [] ∧ t.length ≤ 24 := by decide
theorem sgs_props : ∀ t ∈ sgs, wsp (t.headD 0) = false ∧ pre [47, 47] t = false ∧ t ≠ [] ∧ dgt (t.headD 0) = false ∧ ltr (t.headD 0) = false ∧ (t.headD 0 == 39) = false ∧ sgs.find? (fun x => pre x t) = some t ∧ t ∉ kws := by decide
theorem token_text {k : Nat} {t : Bs} (h : Good k t) (r : Bs) : token (t ++ 32 :: r) = .ok k t t.length ∧ skp (t ++ 32 :: r) = 0 ∧ nls t = 0 := by
  have hname : ∀ t : Bs, (∀ c ∈ t, inn c = true) → ltr (t.headD 0) = true → t ≠ [] → t.length ≤ 24 → token (t ++ 32 :: r) = .ok (if t ∈ kws then 3 else 2) t t.length ∧ skp (t ++ 32 :: r) = 0 ∧ nls t = 0 := by
    intro t h1 h2 h3 h4
    have hw := ltr_wsp h2
    refine ⟨?_, ?_, ?_⟩
    · unfold token
      rw [head_app h3, hw.2.2.2, h2]
      unfold name
      simp only
      rw [tw_app (by decide), tw_all h1]
      simp only [Bool.false_eq_true, if_false, if_true]
      rw [if_neg (by omega)]
    · refine skp_zero (by simp) ?_ ?_
      · rw [head_app h3]; exact hw.1
      · rw [pre_app (by decide)]; exact pre_ne hw.2.1
    · unfold nls
      rw [List.count_eq_zero]
      intro h
      exact absurd (h1 _ h) (by decide)
  rcases h with ⟨rfl, v, hv, rfl⟩ | ⟨rfl, h1, h2, h3, h4, h5⟩ | ⟨rfl, hk⟩ | ⟨rfl, hs⟩
  · obtain ⟨h1, h2, h3, h4⟩ := dd_props v
    have hh := dd_head_dgt v
    have hw := dgt_wsp hh
    refine ⟨?_, ?_, ?_⟩
    · unfold token
      rw [head_app h3, hh, number_dig h1 (by decide), h2]
      simp only [if_true]
      rw [if_neg (by decide), if_neg (by omega)]
    · refine skp_zero (by simp) ?_ ?_
      · rw [head_app h3]; exact hw.1
      · rw [pre_app (by decide)]; exact pre_ne hw.2.1
    · unfold nls
      rw [List.count_eq_zero]
      intro h
      exact absurd (h1 _ h) (by decide)
  · have := hname t h1 h2 h3 h4
    rw [if_neg h5] at this
    exact this
  · obtain ⟨h1, h2, h3, h4⟩ := kws_props t hk
    have := hname t h1 h2 h3 h4
    rw [if_pos hk] at this
    exact this
  · obtain ⟨h1, h2, h3, h4, h5, h6, h7, _⟩ := sgs_props t hs
    refine ⟨?_, ?_, ?_⟩
    · unfold token
      rw [head_app h3, h4, h5, h6]
      simp only [Bool.false_eq_true, if_false]
      unfold sign
      rw [find_congr sgs (fun x hx => pre_app (sgs_no x hx).2 t r), h7]
    · refine skp_zero (by simp) ?_ ?_
      · rw [head_app h3]; exact h1
      · rw [pre_app (by decide)]; exact h2
    · unfold nls
      rw [List.count_eq_zero]
      exact (sgs_no t hs).1
/-- the texts of tokens, a space behind each -/
def glue (l : List Tk) : Bs := l.flatMap fun t => t.text ++ [32]
def flat (t : Tk) : Tk := ⟨t.kind, t.text, 1⟩
theorem lex_glue : ∀ (l : List Tk), (∀ t ∈ l, Good t.kind t.text) → lex (glue l) 1 = .ok (l.map flat)
  | [], _ => lex_nil 1
  | t :: l, h => by
    obtain ⟨h1, h2, h3⟩ := token_text (h t (by simp)) (glue l)
    have e : glue (t :: l) = t.text ++ 32 :: glue l := by simp [glue]
    rw [e, lex_tok (by simp) h2 h1, List.drop_left, List.take_left, h3, lex_ws (by decide)]
    show O.cons ⟨t.kind, t.text, 1⟩ (lex (glue l) 1) = _
    rw [lex_glue l (fun t ht => h t (by simp [ht]))]
    rfl
/-- what the law on kinds asks of a token -/
theorem good_kinds {k : Nat} {t : Bs} (h : Good k t) : t ≠ [] ∧ (t ∈ kws ↔ k = 3) ∧ (k = 2 → t.length ≤ 24) ∧ (k = 1 ↔ dgt (t.headD 0) = true) ∧ ((k = 2 ∨ k = 3) ↔ ltr (t.headD 0) = true) ∧ (k = 1 → t.headD 0 = 48 → t.length ≤ 1) ∧ 1 ≤ k ∧ k ≤ 4 := by
  rcases h with ⟨rfl, v, hv, rfl⟩ | ⟨rfl, h1, h2, h3, h4, h5⟩ | ⟨rfl, hk⟩ | ⟨rfl, hs⟩
  · obtain ⟨h1, h2, h3, h4⟩ := dd_props v
    have hh := dd_head_dgt v
    have hw := dgt_wsp hh
    refine ⟨h3, ⟨fun e => ?_, fun e => by omega⟩, fun e => by omega, ⟨fun _ => hh, fun _ => rfl⟩, ⟨fun e => by omega, fun e => ?_⟩, fun _ e => ?_, by omega, by omega⟩
    · have := (kws_props _ e).2.1
      rw [hw.2.2.2] at this
      cases this
    · rw [hw.2.2.2] at e
      cases e
    · rcases Nat.eq_zero_or_pos v with h0 | h0
      · subst h0
        rw [dd_small (by omega)]
        simp
      · exact absurd e (h4 h0)
  · have hw := ltr_wsp h2
    refine ⟨h3, ⟨fun e => absurd e h5, fun e => by omega⟩, fun _ => h4, ⟨fun e => by omega, fun e => ?_⟩, ⟨fun _ => h2, fun _ => .inl rfl⟩, fun e => by omega, by omega, by omega⟩
    rw [hw.2.2.2] at e
    cases e
  · obtain ⟨h1, h2, h3, h4⟩ := kws_props t hk
    have hw := ltr_wsp h2
    refine ⟨h3, ⟨fun _ => rfl, fun _ => hk⟩, fun e => by omega, ⟨fun e => by omega, fun e => ?_⟩, ⟨fun _ => h2, fun _ => .inr rfl⟩, fun e => by omega, by omega, by omega⟩
    rw [hw.2.2.2] at e
    cases e
  · obtain ⟨h1, h2, h3, h4, h5, h6, h7, h8⟩ := sgs_props t hs
    refine ⟨h3, ⟨fun e => absurd e h8, fun e => by omega⟩, fun e => by omega, ⟨fun e => by omega, fun e => ?_⟩, ⟨fun e => by omega, fun e => ?_⟩, fun e => by omega, by omega, by omega⟩
    · rw [h4] at e; cases e
    · rw [h5] at e; cases e
theorem val_zeros (z : Nat) (d : Bs) : val (List.replicate z 48 ++ d) = val d := by
  induction z with
  | zero => rfl
  | succ z ih => rw [List.replicate_succ, List.cons_append, ← ih]; rfl
theorem zeros_dgt (z : Nat) {d : Bs} (h : ∀ c ∈ d, dgt c = true) : ∀ c ∈ List.replicate z 48 ++ d, dgt c = true := by
  intro c hc
  rcases List.mem_append.1 hc with hc | hc
  · rw [List.eq_of_mem_replicate hc]; decide
  · exact h c hc
theorem dig_lex {d : Bs} (hd : ∀ c ∈ d, dgt c = true) (hn : d ≠ []) {c : UInt8} (r : Bs) (hc : dgt c = false) (hs : (47 : UInt8) ≠ c) : dgt ((d ++ c :: r).headD 0) = true ∧ skp (d ++ c :: r) = 0 ∧ nls d = 0 := by
  have hh : dgt (d.headD 0) = true := by
    cases d with
    | nil => exact absurd rfl hn
    | cons a d => exact hd a (by simp)
  have hw := dgt_wsp hh
  refine ⟨by rw [head_app hn]; exact hh, skp_zero (by simp) (by rw [head_app hn]; exact hw.1) (pre_ne (by rw [head_app hn]; exact hw.2.1)), ?_⟩
  unfold nls
  rw [List.count_eq_zero]
  intro h
  exact absurd (hd _ h) (by decide)
theorem lex_num_letter {d : Bs} (hd : ∀ c ∈ d, dgt c = true) (hn : d ≠ []) : lex (d ++ [95]) 1 = .err 1 3 := by
  obtain ⟨h1, h2, h3⟩ := dig_lex hd hn (c := 95) [] (by decide) (by decide)
  refine lex_err (by simp) h2 ?_ 1
  unfold token
  rw [h1, number_dig hd (by decide)]
  rfl
theorem lex_num_semi {d : Bs} (hd : ∀ c ∈ d, dgt c = true) (hn : d ≠ []) : lex (10 :: (d ++ [59])) 1 = if 4294967295 < val d then .err 2 2 else .ok [⟨1, Lib.decDigits (val d), 2⟩, ⟨4, [59], 2⟩] := by
  obtain ⟨h1, h2, h3⟩ := dig_lex hd hn (c := 59) [] (by decide) (by decide)
  rw [lex_ws (by decide)]
  have ht : token (d ++ [59]) = if 4294967295 < val d then .err 2 else .ok 1 (Lib.decDigits (val d)) d.length := by
    unfold token
    rw [h1, number_dig hd (by decide)]
    rfl
  by_cases hv : 4294967295 < val d
  · rw [if_pos hv] at ht ⊢
    exact lex_err (by simp) h2 ht 2
  · rw [if_neg hv] at ht ⊢
    have e : lex ([59] : Bs) 2 = .ok [⟨4, [59], 2⟩] := by
      rw [lex_tok (k := 4) (t := [59]) (n := 1) (by simp) (by decide) (by rfl)]
      show O.cons _ (lex [] _) = _
      rw [lex_nil]; rfl
    show lex (d ++ [59]) 2 = _
    rw [lex_tok (by simp) h2 ht, List.drop_left, List.take_left, h3, e]
    rfl
theorem lex_blanks : ∀ (n line : Nat), lex (List.replicate n 32) line = .ok []
  | 0, line => lex_nil line
  | n + 1, line => by
    rw [List.replicate_succ, lex_ws (by decide)]
    exact lex_blanks n line

end Lx
end Go.Proofs.YtnfgjbeifdfkaaaDoor
