/- The lexer in plain Lean: what a token is, and the tokens of a list of bytes. -/
import Derived.Lib.ItoaNum
namespace Go.Proofs.YtnfgjbeifdfkaaaDoor
set_option linter.unusedVariables false
namespace Lx
abbrev Bs := List UInt8

def dgt (c : UInt8) : Bool := decide (48 ≤ c.toNat ∧ c.toNat ≤ 57)
def ltr (c : UInt8) : Bool := decide (97 ≤ c.toNat ∧ c.toNat ≤ 122)
def inn (c : UInt8) : Bool := ltr c || dgt c || c == 95
def wsp (c : UInt8) : Bool := c == 32 || c == 9 || c == 10
def nnl (c : UInt8) : Bool := c != 10
def kws : List Bs := [[97, 114, 114, 97, 121], [101, 108, 115, 101], [102, 117, 110, 99], [104, 97, 108, 116], [105, 102], [114, 101, 116, 117, 114, 110], [118, 97, 114], [119, 104, 105, 108, 101]]
def sgs : List Bs := [[38, 38], [124, 124], [61, 61], [33, 61], [60, 61], [62, 61], [60], [62], [94], [43], [45], [42], [47], [37], [33], [61], [40], [41], [123], [125], [91], [93], [44], [59]]
/-- does x stand at the head of s -/
def pre (x s : Bs) : Bool := s.take x.length == x
def skp (s : Bs) : Nat := if pre [47, 47] s then (s.takeWhile nnl).length else (s.takeWhile wsp).length
/-- the value of digits -/
def val (d : Bs) : Nat := d.foldl (fun n c => 10 * n + (c.toNat - 48)) 0
/-- a token without its line, and its length; or an error -/
inductive R where
  | ok (kind : Nat) (text : Bs) (size : Nat)
  | err (e : Nat)
def number (s : Bs) : R :=
  let d := s.takeWhile dgt
  if ltr ((s.drop d.length).headD 0) || (s.drop d.length).headD 0 == 95 then .err 3
  else if 4294967295 < val d then .err 2
  else .ok 1 (Lib.decDigits (val d)) d.length
def name (s : Bs) : R :=
  let w := s.takeWhile inn
  if 24 < w.length then .err 7 else .ok (if w ∈ kws then 3 else 2) w w.length
def litOk (s : Bs) : Bool := decide (3 ≤ s.length) && (s.getD 2 0 == 39 && decide (32 ≤ (s.getD 1 0).toNat) && decide ((s.getD 1 0).toNat ≤ 126) && s.getD 1 0 != 39 && s.getD 1 0 != 92)
def literal (s : Bs) : R := if litOk s then .ok 1 (Lib.decDigits (s.getD 1 0).toNat) 3 else .err 3
def sign (s : Bs) : R := match sgs.find? (fun x => pre x s) with
  | some x => .ok 4 x x.length
  | none => .err 3
def token (s : Bs) : R :=
  if dgt (s.headD 0) then number s else if ltr (s.headD 0) then name s else if s.headD 0 == 39 then literal s else sign s
structure Tk where
  kind : Nat
  text : Bs
  line : Nat
/-- tokens, or a line and an error -/
inductive O where
  | ok (l : List Tk)
  | err (line e : Nat)
def O.cons (t : Tk) : O → O
  | .ok l => .ok (t :: l)
  | .err n e => .err n e
def nls (s : Bs) : Nat := s.count 10

theorem tw_le (p : UInt8 → Bool) (s : Bs) : (s.takeWhile p).length ≤ s.length := by
  induction s with
  | nil => simp
  | cons a s ih =>
    by_cases h : p a
    · simp [h]; exact ih
    · simp [h]
theorem sgs_pos : ∀ x ∈ sgs, 1 ≤ x.length ∧ x.length ≤ 2 := by decide
theorem pre_le {x s : Bs} (h : pre x s = true) : x.length ≤ s.length := by
  unfold pre at h
  have h1 := congrArg List.length (beq_iff_eq.1 h)
  rw [List.length_take] at h1
  omega
theorem tw_pos {p : UInt8 → Bool} {s : Bs} (h : p (s.headD 0) = true) (hs : s ≠ []) : 1 ≤ (s.takeWhile p).length := by
  cases s with
  | nil => exact absurd rfl hs
  | cons a s =>
    simp at h
    simp [h]
theorem token_size {s : Bs} (hs : s ≠ []) {k : Nat} {t : Bs} {n : Nat} (h : token s = .ok k t n) : 1 ≤ n ∧ n ≤ s.length := by
  unfold token at h
  split at h
  · rename_i hd
    unfold number at h
    simp only at h
    split at h
    · cases h
    · split at h
      · cases h
      · injection h with _ _ h
        subst h
        exact ⟨tw_pos hd hs, tw_le _ _⟩
  · split at h
    · rename_i hl
      unfold name at h
      simp only at h
      split at h
      · cases h
      · injection h with _ _ h
        subst h
        refine ⟨tw_pos ?_ hs, tw_le _ _⟩
        unfold inn
        rw [hl]; rfl
    · split at h
      · unfold literal at h
        split at h
        · rename_i hq
          injection h with _ _ h
          subst h
          unfold litOk at hq
          simp at hq
          omega
        · cases h
      · unfold sign at h
        split at h
        · rename_i x hx
          injection h with _ _ h
          subst h
          exact ⟨(sgs_pos x (List.mem_of_find?_eq_some hx)).1, pre_le (List.find?_some (p := fun x => pre x s) hx)⟩
        · cases h
theorem skp_le (s : Bs) : skp s ≤ s.length := by
  unfold skp
  split
  · exact tw_le _ _
  · exact tw_le _ _
/-- the tokens of s, its first line being the given one -/
def lex (s : Bs) (line : Nat) : O :=
  if hs : s = [] then .ok []
  else if hn : skp s = 0 then
    match ht : token s with
    | .err e => .err line e
    | .ok k t n => O.cons ⟨k, t, line⟩ (lex (s.drop n) (line + nls (s.take n)))
  else lex (s.drop (skp s)) (line + nls (s.take (skp s)))
termination_by s.length
decreasing_by
  · have := token_size hs ht
    rw [List.length_drop]; omega
  · have h1 : s.length ≠ 0 := fun h => hs (List.eq_nil_of_length_eq_zero h)
    rw [List.length_drop]; omega
theorem lex_nil (line : Nat) : lex [] line = .ok [] := by rw [lex, dif_pos rfl]
theorem lex_skip {s : Bs} (hn : skp s ≠ 0) (line : Nat) : lex s line = lex (s.drop (skp s)) (line + nls (s.take (skp s))) := by
  have hs : s ≠ [] := fun h => by subst h; exact hn rfl
  rw [lex, dif_neg hs, dif_neg hn]
theorem lex_err {s : Bs} (hs : s ≠ []) (hn : skp s = 0) {e : Nat} (ht : token s = .err e) (line : Nat) : lex s line = .err line e := by
  rw [lex, dif_neg hs, dif_pos hn]
  split
  · rename_i h
    rw [ht] at h
    injection h with h
    rw [h]
  · rename_i h
    rw [ht] at h
    cases h
theorem lex_tok {s : Bs} (hs : s ≠ []) (hn : skp s = 0) {k : Nat} {t : Bs} {n : Nat} (ht : token s = .ok k t n) (line : Nat) : lex s line = O.cons ⟨k, t, line⟩ (lex (s.drop n) (line + nls (s.take n))) := by
  rw [lex, dif_neg hs, dif_pos hn]
  split
  · rename_i h
    rw [ht] at h
    cases h
  · rename_i h
    rw [ht] at h
    injection h with h1 h2 h3
    rw [h1, h2, h3]

end Lx
end Go.Proofs.YtnfgjbeifdfkaaaDoor
