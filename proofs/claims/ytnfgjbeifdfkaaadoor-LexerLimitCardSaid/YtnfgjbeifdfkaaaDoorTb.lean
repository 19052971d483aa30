/- The lexer in plain Lean: white space, comments, concatenation, the shift of lines. -/
import Derived.Test.YtnfgjbeifdfkaaaDoorTa
namespace Go.Proofs.YtnfgjbeifdfkaaaDoor
set_option linter.unusedVariables false
namespace Lx

theorem mem_tw {p : UInt8 → Bool} {c : UInt8} : ∀ {s : Bs}, c ∈ s.takeWhile p → p c = true
  | [], h => by cases h
  | a :: s, h => by
    by_cases ha : p a = true
    · simp [ha] at h
      rcases h with rfl | h
      · exact ha
      · exact mem_tw h
    · simp [ha] at h
theorem nnl47 : nnl 47 = true := by decide
theorem nls_append (a b : Bs) : nls (a ++ b) = nls a + nls b := by simp [nls, List.count_append]
theorem nls_cons (c : UInt8) (s : Bs) : nls (c :: s) = nls s + (if c = 10 then 1 else 0) := by
  unfold nls
  rw [List.count_cons]
  by_cases h : c = 10 <;> simp [h]
theorem wsp_ne {c : UInt8} (h : wsp c = true) : c ≠ 47 := by
  rintro rfl
  exact absurd h (by decide)
theorem pre_head {c : UInt8} {x s : Bs} {d : UInt8} (h : c ≠ d) : pre (d :: x) (c :: s) = false := by
  unfold pre
  simp [h]
theorem skp_ws {c : UInt8} (h : wsp c = true) (s : Bs) : skp (c :: s) = (s.takeWhile wsp).length + 1 := by
  unfold skp
  rw [if_neg (by rw [pre_head (wsp_ne h)]; decide)]
  simp [h]
theorem lex_ws {c : UInt8} (h : wsp c = true) (s : Bs) (line : Nat) : lex (c :: s) line = lex s (line + if c = 10 then 1 else 0) := by
  have hk := skp_ws h s
  rw [lex_skip (by omega), hk]
  simp only [List.drop_succ_cons, List.take_succ_cons, nls_cons]
  cases s with
  | nil => simp [lex_nil]
  | cons d t =>
    by_cases hd : wsp d = true
    · have h2 := skp_ws hd t
      have h3 : ((d :: t).takeWhile wsp).length = (t.takeWhile wsp).length + 1 := by simp [hd]
      rw [lex_skip (s := d :: t) (by omega), h2, h3]
      congr 1
      omega
    · have h3 : ((d :: t).takeWhile wsp).length = 0 := by simp [hd]
      rw [h3]
      simp [nls]
theorem tw_nls (s : Bs) : nls (s.takeWhile nnl) = 0 := by
  unfold nls
  rw [List.count_eq_zero]
  intro h
  have := mem_tw h
  simp [nnl] at this
theorem tw_take {p : UInt8 → Bool} (s : Bs) : s.take (s.takeWhile p).length = s.takeWhile p := by
  induction s with
  | nil => rfl
  | cons a s ih =>
    by_cases h : p a = true
    · simp [h]; exact ih
    · simp [h]
theorem lex_comment {s : Bs} (h : pre [47, 47] s = true) (line : Nat) : lex s line = lex (s.drop (s.takeWhile nnl).length) line := by
  have hk : skp s = (s.takeWhile nnl).length := by unfold skp; rw [if_pos h]
  have h1 : skp s ≠ 0 := by
    rw [hk]
    cases s with
    | nil => exact absurd h (by decide)
    | cons a s =>
      have : a = 47 := by
        unfold pre at h
        simp at h
        exact h.1
      subst this
      simp [nnl47]
  rw [lex_skip h1, hk, tw_take, tw_nls, Nat.add_zero]
theorem tw_app {p : UInt8 → Bool} {c : UInt8} (h : p c = false) (s t : Bs) : (s ++ c :: t).takeWhile p = s.takeWhile p := by
  induction s with
  | nil => simp [h]
  | cons a s ih =>
    by_cases ha : p a = true
    · simp [ha, ih]
    · simp [ha]
theorem tw_app2 {p : UInt8 → Bool} (s t : Bs) (h : (s.takeWhile p).length < s.length) : (s ++ t).takeWhile p = s.takeWhile p := by
  induction s with
  | nil => simp at h
  | cons a s ih =>
    by_cases ha : p a = true
    · simp only [List.takeWhile_cons, ha, if_true, List.length_cons] at h
      simp [ha, ih (by omega)]
    · simp [ha]
theorem tw_all {p : UInt8 → Bool} {s : Bs} (h : ∀ c ∈ s, p c = true) : s.takeWhile p = s := by
  induction s with
  | nil => rfl
  | cons a s ih => simp [h a (by simp), ih (fun c hc => h c (by simp [hc]))]
theorem tw_full {p : UInt8 → Bool} {s : Bs} (h : ¬ (s.takeWhile p).length < s.length) : ∀ c ∈ s, p c = true := by
  have h1 := tw_le p s
  have h2 := tw_take (p := p) s
  rw [List.take_of_length_le (by omega)] at h2
  intro c hc
  rw [h2] at hc
  exact mem_tw hc
/-- what may stand behind a token without changing it -/
def Sep (e : Bs) : Prop := ∃ c t, e = c :: t ∧ (c = 10 ∨ c = 32 ∧ t.headD 0 ≠ 39)
theorem Sep.inn {c : UInt8} {t : Bs} (h : c = 10 ∨ c = 32 ∧ t.headD 0 ≠ 39) : inn c = false ∧ dgt c = false ∧ ltr c = false ∧ c ≠ 95 ∧ c ≠ 39 ∧ c ≠ 47 := by
  rcases h with rfl | ⟨rfl, _⟩ <;> decide
theorem pre_app {c : UInt8} {x : Bs} (hx : c ∉ x) (s t : Bs) : pre x (s ++ c :: t) = pre x s := by
  unfold pre
  by_cases h : x.length ≤ s.length
  · rw [List.take_append_of_le_length h]
  · have e1 : (s.take x.length == x) = false := by
      rw [beq_eq_false_iff_ne]
      intro e
      have := congrArg List.length e
      rw [List.length_take] at this
      omega
    rw [e1, beq_eq_false_iff_ne]
    intro e
    apply hx
    rw [← e, List.mem_take_iff_getElem]
    exact ⟨s.length, by simp; omega, by simp⟩
theorem head_app {s : Bs} (hs : s ≠ []) (e : Bs) : (s ++ e).headD 0 = s.headD 0 := by
  cases s with
  | nil => exact absurd rfl hs
  | cons a s => rfl
theorem find_congr {p q : Bs → Bool} : ∀ (l : List Bs), (∀ x ∈ l, p x = q x) → l.find? p = l.find? q
  | [], _ => rfl
  | a :: l, h => by
    simp only [List.find?_cons]
    rw [h a (by simp), find_congr l (fun x hx => h x (by simp [hx]))]
theorem sgs_no : ∀ x ∈ sgs, (10 : UInt8) ∉ x ∧ (32 : UInt8) ∉ x := by decide
theorem skp_app {c : UInt8} {t : Bs} (h : c = 10 ∨ c = 32 ∧ t.headD 0 ≠ 39) {s : Bs} (hs : s ≠ []) (h0 : skp s = 0) : skp (s ++ c :: t) = 0 := by
  have hi := Sep.inn h
  have hp : pre [47, 47] (s ++ c :: t) = pre [47, 47] s := pre_app (by simp; exact hi.2.2.2.2.2) s t
  unfold skp at h0 ⊢
  rw [hp]
  by_cases hc : pre [47, 47] s = true
  · rw [if_pos hc] at h0
    cases s with
    | nil => exact absurd rfl hs
    | cons a s =>
      have : a = 47 := by
        unfold pre at hc
        simp at hc
        exact hc.1
      subst this
      simp [nnl47] at h0
  · rw [if_neg hc] at h0 ⊢
    cases s with
    | nil => exact absurd rfl hs
    | cons a s =>
      by_cases ha : wsp a = true
      · simp [ha] at h0
      · simp [ha]
theorem token_app {c : UInt8} {t : Bs} (h : c = 10 ∨ c = 32 ∧ t.headD 0 ≠ 39) {s : Bs} (hs : s ≠ []) : token (s ++ c :: t) = token s := by
  obtain ⟨hi, hd, hl, h95, h39, h47⟩ := Sep.inn h
  unfold token
  rw [head_app hs]
  have e1 : number (s ++ c :: t) = number s := by
    unfold number
    simp only
    rw [tw_app hd]
    have e : ((s ++ c :: t).drop (s.takeWhile dgt).length).headD 0 = (s.drop (s.takeWhile dgt).length).headD 0 ∨ (s.drop (s.takeWhile dgt).length = [] ∧ ((s ++ c :: t).drop (s.takeWhile dgt).length).headD 0 = c) := by
      have hle := tw_le dgt s
      rw [List.drop_append_of_le_length hle]
      by_cases hn : s.drop (s.takeWhile dgt).length = []
      · right
        exact ⟨hn, by rw [hn]; rfl⟩
      · left
        exact head_app hn _
    rcases e with e | ⟨e, e'⟩
    · rw [e]
    · have : (c == 95) = false := beq_eq_false_iff_ne.2 h95
      rw [e', e, hl, this]
      rfl
  have e2 : name (s ++ c :: t) = name s := by
    unfold name
    simp only
    rw [tw_app hi]
  have e3 : s.headD 0 = 39 → literal (s ++ c :: t) = literal s := by
    intro hq
    unfold literal
    have e : litOk (s ++ c :: t) = litOk s ∧ (litOk s = true → (s ++ c :: t).getD 1 0 = s.getD 1 0) := by
      unfold litOk
      match s, hs with
      | [a], _ =>
        simp only [List.headD_cons] at hq
        subst hq
        rcases h with rfl | ⟨rfl, h2⟩
        · refine ⟨?_, fun h => ?_⟩
          · simp
          · simp at h
        · refine ⟨?_, fun h => ?_⟩
          · cases t with
            | nil => simp
            | cons d t =>
              have h3 : (d == 39) = false := beq_eq_false_iff_ne.2 (by simpa using h2)
              simp at h3
              simp [h3]
          · simp at h
      | [a, b], _ =>
        have h3 : (c == 39) = false := beq_eq_false_iff_ne.2 h39
        simp at h3
        refine ⟨?_, fun h => ?_⟩
        · simp [h3]
        · simp at h
      | a :: b :: d :: s, _ =>
        refine ⟨?_, fun _ => rfl⟩
        simp
    rw [e.1]
    by_cases hk : litOk s = true
    · rw [if_pos hk, if_pos hk, e.2 hk]
    · rw [if_neg hk, if_neg hk]
  have e4 : sign (s ++ c :: t) = sign s := by
    unfold sign
    rw [find_congr sgs (fun x hx => pre_app (by
      rcases h with rfl | ⟨rfl, _⟩
      · exact (sgs_no x hx).1
      · exact (sgs_no x hx).2) s t)]
  rw [e1, e2, e4]
  by_cases hq : s.headD 0 = 39
  · rw [e3 hq]
  · have : (s.headD 0 == 39) = false := beq_eq_false_iff_ne.2 hq
    rw [this]
    rfl

def O.pre (l : List Tk) : O → O
  | .ok m => .ok (l ++ m)
  | .err n e => .err n e
theorem O.pre_nil (o : O) : o.pre [] = o := by cases o <;> rfl
theorem O.pre_cons (t : Tk) (l : List Tk) (o : O) : o.pre (t :: l) = (o.pre l).cons t := by cases o <;> rfl
/-- the tokens of two texts with a line feed between them -/
def O.join (a : O) (b : O) : O := match a with
  | .ok l => b.pre l
  | .err n e => .err n e
theorem O.join_cons (t : Tk) (a b : O) : (a.cons t).join b = (a.join b).cons t := by
  cases a with
  | ok l => exact O.pre_cons t l b
  | err n e => rfl
theorem lex_app (b : Bs) : ∀ (m : Nat) (a : Bs) (line : Nat), a.length ≤ m → lex (a ++ 10 :: b) line = (lex a line).join (lex b (line + nls a + 1)) := by
  have h10 : wsp 10 = true := by decide
  have sep : ((10 : UInt8) = 10 ∨ (10 : UInt8) = 32 ∧ b.headD 0 ≠ 39) := .inl rfl
  intro m
  induction m with
  | zero =>
    intro a line ha
    obtain rfl : a = [] := List.eq_nil_of_length_eq_zero (by omega)
    rw [lex_nil]
    show lex (10 :: b) line = (lex b _).pre []
    rw [lex_ws h10, O.pre_nil]
    rfl
  | succ m ih =>
    intro a line ha
    by_cases hs : a = []
    · subst hs
      rw [lex_nil]
      show lex (10 :: b) line = (lex b _).pre []
      rw [lex_ws h10, O.pre_nil]
      rfl
    by_cases hn : skp a = 0
    · have hn2 := skp_app sep hs hn
      have ht2 := token_app sep hs
      have hs2 : a ++ 10 :: b ≠ [] := by simp
      cases ht : token a with
      | err e =>
        rw [lex_err hs hn ht, lex_err hs2 hn2 (ht2.trans ht)]
        rfl
      | ok k t n =>
        have hz := token_size hs ht
        rw [lex_tok hs hn ht, lex_tok hs2 hn2 (ht2.trans ht), List.drop_append_of_le_length hz.2, List.take_append_of_le_length hz.2, O.join_cons, ih _ _ (by rw [List.length_drop]; omega)]
        congr 3
        have : nls a = nls (a.take n) + nls (a.drop n) := by rw [← nls_append, List.take_append_drop]
        omega
    · cases a with
      | nil => exact absurd rfl hs
      | cons c a =>
        by_cases hw : wsp c = true
        · rw [List.cons_append, lex_ws hw, lex_ws hw, ih a _ (by simpa using ha), nls_cons]
          congr 2
          omega
        · have hc : pre [47, 47] (c :: a) = true := by
            unfold skp at hn
            by_cases h : pre [47, 47] (c :: a) = true
            · exact h
            · rw [if_neg h] at hn
              simp [hw] at hn
          have hc2 : pre [47, 47] ((c :: a) ++ 10 :: b) = true := by rw [pre_app (by decide)]; exact hc
          have hp : 1 ≤ ((c :: a).takeWhile nnl).length := by
            have : skp (c :: a) = ((c :: a).takeWhile nnl).length := by unfold skp; rw [if_pos hc]
            omega
          have hle := tw_le nnl (c :: a)
          rw [lex_comment hc, lex_comment hc2, tw_app (by decide), List.drop_append_of_le_length hle, ih _ _ (by rw [List.length_drop]; omega)]
          congr 3
          have : nls (c :: a) = nls ((c :: a).take ((c :: a).takeWhile nnl).length) + nls ((c :: a).drop ((c :: a).takeWhile nnl).length) := by rw [← nls_append, List.take_append_drop]
          rw [tw_take, tw_nls] at this
          omega
/-- a comment at the end changes nothing -/
theorem lex_end (u : Bs) (hu : ∀ c ∈ u, nnl c = true) : ∀ (m : Nat) (a : Bs) (line : Nat), a.length ≤ m → lex (a ++ 32 :: 47 :: 47 :: u) line = lex a line := by
  have h32 : wsp 32 = true := by decide
  have sep : ((32 : UInt8) = 10 ∨ (32 : UInt8) = 32 ∧ (47 :: 47 :: u : Bs).headD 0 ≠ 39) := .inr ⟨rfl, by simp⟩
  have hend : ∀ line, lex (32 :: 47 :: 47 :: u) line = lex [] line := by
    intro line
    rw [lex_ws h32, lex_comment (s := 47 :: 47 :: u) (by unfold pre; simp), tw_all (s := 47 :: 47 :: u) (fun c hc => by
      simp at hc
      rcases hc with rfl | hc
      · decide
      · exact hu c hc), List.drop_length, lex_nil, lex_nil]
  intro m
  induction m with
  | zero =>
    intro a line ha
    obtain rfl : a = [] := List.eq_nil_of_length_eq_zero (by omega)
    exact hend line
  | succ m ih =>
    intro a line ha
    by_cases hs : a = []
    · subst hs
      exact hend line
    by_cases hn : skp a = 0
    · have hn2 := skp_app sep hs hn
      have ht2 := token_app sep hs
      have hs2 : a ++ 32 :: 47 :: 47 :: u ≠ [] := by simp
      cases ht : token a with
      | err e => rw [lex_err hs hn ht, lex_err hs2 hn2 (ht2.trans ht)]
      | ok k t n =>
        have hz := token_size hs ht
        rw [lex_tok hs hn ht, lex_tok hs2 hn2 (ht2.trans ht), List.drop_append_of_le_length hz.2, List.take_append_of_le_length hz.2, ih _ _ (by rw [List.length_drop]; omega)]
    · cases a with
      | nil => exact absurd rfl hs
      | cons c a =>
        by_cases hw : wsp c = true
        · rw [List.cons_append, lex_ws hw, lex_ws hw, ih a _ (by simpa using ha)]
        · have hc : pre [47, 47] (c :: a) = true := by
            unfold skp at hn
            by_cases h : pre [47, 47] (c :: a) = true
            · exact h
            · rw [if_neg h] at hn
              simp [hw] at hn
          have hc2 : pre [47, 47] ((c :: a) ++ 32 :: 47 :: 47 :: u) = true := by rw [pre_app (by decide)]; exact hc
          have hp : 1 ≤ ((c :: a).takeWhile nnl).length := by
            have : skp (c :: a) = ((c :: a).takeWhile nnl).length := by unfold skp; rw [if_pos hc]
            omega
          have hle := tw_le nnl (c :: a)
          by_cases hf : ((c :: a).takeWhile nnl).length < (c :: a).length
          · rw [lex_comment hc, lex_comment hc2, tw_app2 _ _ hf, List.drop_append_of_le_length hle, ih _ _ (by rw [List.length_drop]; omega)]
          · have hall := tw_full hf
            rw [lex_comment hc, lex_comment hc2, tw_all hall, tw_all (s := (c :: a) ++ 32 :: 47 :: 47 :: u) (fun d hd => by
              rcases List.mem_append.1 hd with hd | hd
              · exact hall d hd
              · simp at hd
                rcases hd with rfl | rfl | hd
                · decide
                · decide
                · exact hu d hd), List.drop_length, List.drop_length]
def Tk.sh (k : Nat) (t : Tk) : Tk := ⟨t.kind, t.text, t.line + k⟩
def O.sh (k : Nat) : O → O
  | .ok l => .ok (l.map (Tk.sh k))
  | .err n e => .err (n + k) e
theorem O.sh_cons (k : Nat) (t : Tk) (o : O) : (o.cons t).sh k = (o.sh k).cons (t.sh k) := by cases o <;> rfl
theorem lex_sh (k : Nat) : ∀ (m : Nat) (a : Bs) (line : Nat), a.length ≤ m → lex a (line + k) = (lex a line).sh k := by
  intro m
  induction m with
  | zero =>
    intro a line ha
    obtain rfl : a = [] := List.eq_nil_of_length_eq_zero (by omega)
    rw [lex_nil, lex_nil]; rfl
  | succ m ih =>
    intro a line ha
    by_cases hs : a = []
    · subst hs
      rw [lex_nil, lex_nil]; rfl
    by_cases hn : skp a = 0
    · cases ht : token a with
      | err e => rw [lex_err hs hn ht, lex_err hs hn ht]; rfl
      | ok k' t n =>
        have hz := token_size hs ht
        rw [lex_tok hs hn ht, lex_tok hs hn ht, O.sh_cons, ← ih _ _ (by rw [List.length_drop]; omega)]
        congr 2
        omega
    · have := skp_le a
      rw [lex_skip hn, lex_skip hn, ← ih _ _ (by rw [List.length_drop]; omega)]
      congr 1
      omega

end Lx
end Go.Proofs.YtnfgjbeifdfkaaaDoor
