/- What the laws on the lexer share: tokens in memory; awake; the reference's Lines, Same, Decimal. -/
import Derived.Test.YtnfgjbeifdfkaaaDoorTi
import Derived.Deep.QuietTactic
import Derived.BigQuiet
namespace Go.Proofs.YtnfgjbeifdfkaaaDoor
open Go.RowKit
set_option linter.unusedVariables false
namespace Lx

/-- the tokens l lie in block g from offset o on -/
def TkAt (W : World) (g o : Nat) (l : List Tk) : Prop := g < W.heap.size ∧ ∀ k, (h : k < l.length) → W.cell? ⟨g, o + k * 3, none⟩ = some (.int .i64 (l[k].kind : Int)) ∧ W.cell? ⟨g, o + k * 3 + 1, none⟩ = some (.string (ofL l[k].text)) ∧ W.cell? ⟨g, o + k * 3 + 2, none⟩ = some (.int .i64 (l[k].line : Int))
structure Tks (W : World) (A : Option Addr) (c : Nat) (l : List Tk) : Prop where
  le : l.length ≤ c
  max : c ≤ maxLen
  mem : 0 < l.length → ∃ g o, A = some ⟨g, o, none⟩ ∧ TkAt W g o l
theorem TkAt.below {W W' : World} {g o : Nat} {l : List Tk} (h : TkAt W g o l) (hb : Below W.heap.size W W') : TkAt W' g o l :=
  ⟨Nat.lt_of_lt_of_le h.1 hb.size, fun k hk => by
    obtain ⟨h1, h2, h3⟩ := h.2 k hk
    exact ⟨(hb.cell (p := ⟨g, _, none⟩) h.1).trans h1, (hb.cell (p := ⟨g, _, none⟩) h.1).trans h2, (hb.cell (p := ⟨g, _, none⟩) h.1).trans h3⟩⟩
theorem Tks.below {W W' : World} {A : Option Addr} {c : Nat} {l : List Tk} (h : Tks W A c l) (hb : Below W.heap.size W W') : Tks W' A c l :=
  ⟨h.le, h.max, fun h0 => by
    obtain ⟨g, o, e, k⟩ := h.mem h0
    exact ⟨g, o, e, k.below hb⟩⟩
theorem Tks.drewN {W : World} {A : Option Addr} {c : Nat} {l : List Tk} (h : Tks W A c l) (n : Nat) : Tks (W.drewN n) A c l := h.below (below_drewN (Below.refl _ _) n)
theorem tv_get (l : List Tk) (k : Nat) (h : k < l.length) : (tv l)[k * 3]? = some (.int .i64 (l[k].kind : Int)) ∧ (tv l)[k * 3 + 1]? = some (.string (ofL l[k].text)) ∧ (tv l)[k * 3 + 2]? = some (.int .i64 (l[k].line : Int)) := by
  induction l generalizing k with
  | nil => exact absurd h (by simp)
  | cons t l ih =>
    cases k with
    | zero => exact ⟨rfl, rfl, rfl⟩
    | succ k =>
      have h' : k < l.length := by simpa using h
      obtain ⟨h1, h2, h3⟩ := ih k h'
      have e : tv (t :: l) = .int .i64 (t.kind : Int) :: .string (ofL t.text) :: .int .i64 (t.line : Int) :: tv l := rfl
      rw [e, show (k + 1) * 3 = k * 3 + 3 by omega]
      exact ⟨h1, h2, h3⟩
theorem tks_own {W : World} {base : Nat} {v : Value} {l : List Tk} (h : W.ownsRow base 33 3 v l.length (tv l)) : ∃ A c, v = .slice A l.length c ∧ Tks W A c l := by
  obtain ⟨A, c, rfl, hsl, _⟩ := own_form h
  refine ⟨A, c, rfl, hsl.1, hsl.2.1, fun h0 => ?_⟩
  obtain ⟨g, cap, e, _, hlt⟩ := h.form h0
  injection e with e1 _ _
  subst e1
  obtain ⟨ad, e1, _, hc⟩ := hsl.2.2.2 h0
  injection e1 with e1
  subst e1
  refine ⟨g, 0, rfl, hlt, fun k hk => ?_⟩
  obtain ⟨h1, h2, h3⟩ := tv_get l k hk
  have c1 := hc _ _ h1
  have c2 := hc _ _ h2
  have c3 := hc _ _ h3
  rw [add_own] at c1 c2 c3
  rw [Nat.zero_add]
  exact ⟨c1, c2, c3⟩
/-- what Tokens hands back where there are tokens; where there is an error -/
def OkT (w : World) (l : List Tk) (e : Ending) (w' : World) : Prop := ∃ A c, e = .returned (.tuple #[.slice A l.length c, .int .i64 0, .int .i64 0]) ∧ Tks w' A c l ∧ Below w.heap.size w w'
def ErrT (w : World) (n x : Nat) (e : Ending) (w' : World) : Prop := e = .returned (.tuple #[.slice none 0 0, .int .i64 (n : Int), .int .i64 (x : Int)]) ∧ Below w.heap.size w w'
theorem tokens_ok (s : ByteArray) (hs : s.size ≤ 60000) (w : World) (ht : Tab w) {l : List Tk} (h : lex (bl s) 1 = .ok l) : Calls Tryd.prog 9 #[.string s] w (OkT w l) :=
  (tokens_f s hs w ht).mono fun e w' hp => by
    rw [h] at hp
    obtain ⟨v, rfl, h2, h3⟩ := hp
    obtain ⟨A, c, rfl, h4⟩ := tks_own h2
    exact ⟨A, c, rfl, h4, h3⟩
theorem tokens_err (s : ByteArray) (hs : s.size ≤ 60000) (w : World) (ht : Tab w) {n x : Nat} (h : lex (bl s) 1 = .err n x) : Calls Tryd.prog 9 #[.string s] w (ErrT w n x) :=
  (tokens_f s hs w ht).mono fun e w' hp => by
    rw [h] at hp
    exact hp
theorem ex1 : lex (bl ⟨#[120, 32, 61, 32, 39, 65, 39, 59, 32, 47, 47, 32, 121]⟩) 1 = .ok [⟨2, [120], 1⟩, ⟨4, [61], 1⟩, ⟨1, [54, 53], 1⟩, ⟨4, [59], 1⟩] := by
  have d65 : Lib.decDigits 65 = [54, 53] := by
    rw [dd_big (by omega), dd_small (by omega)]
    rfl
  show lex [120, 32, 61, 32, 39, 65, 39, 59, 32, 47, 47, 32, 121] 1 = _
  rw [lex_tok (k := 2) (t := [120]) (n := 1) (by simp) (by decide) (by rfl)]
  show O.cons _ (lex [32, 61, 32, 39, 65, 39, 59, 32, 47, 47, 32, 121] 1) = _
  rw [lex_ws (by decide)]
  show O.cons _ (lex [61, 32, 39, 65, 39, 59, 32, 47, 47, 32, 121] 1) = _
  rw [lex_tok (k := 4) (t := [61]) (n := 1) (by simp) (by decide) (by rfl)]
  show O.cons _ (O.cons _ (lex [32, 39, 65, 39, 59, 32, 47, 47, 32, 121] 1)) = _
  rw [lex_ws (by decide)]
  show O.cons _ (O.cons _ (lex [39, 65, 39, 59, 32, 47, 47, 32, 121] 1)) = _
  rw [lex_tok (k := 1) (t := [54, 53]) (n := 3) (by simp) (by decide) (by
    show R.ok 1 (Lib.decDigits 65) 3 = _
    rw [d65])]
  show O.cons _ (O.cons _ (O.cons _ (lex [59, 32, 47, 47, 32, 121] 1))) = _
  rw [lex_tok (k := 4) (t := [59]) (n := 1) (by simp) (by decide) (by rfl)]
  show O.cons _ (O.cons _ (O.cons _ (O.cons _ (lex [32, 47, 47, 32, 121] 1)))) = _
  rw [lex_ws (by decide)]
  show O.cons _ (O.cons _ (O.cons _ (O.cons _ (lex [47, 47, 32, 121] 1)))) = _
  rw [lex_comment (by decide)]
  show O.cons _ (O.cons _ (O.cons _ (O.cons _ (lex [] 1)))) = _
  rw [lex_nil]
  rfl
theorem ex2 : lex (bl ⟨#[49, 97]⟩) 1 = .err 1 3 := lex_err (s := [49, 97]) (by simp) (by decide) (by rfl) 1
theorem ex3 : lex (bl ⟨#[52, 50, 57, 52, 57, 54, 55, 50, 57, 54]⟩) 1 = .err 1 2 := lex_err (s := [52, 50, 57, 52, 57, 54, 55, 50, 57, 54]) (by simp) (by decide) (by
  show number [52, 50, 57, 52, 57, 54, 55, 50, 57, 54] = _
  unfold number
  simp only
  rw [show ([52, 50, 57, 52, 57, 54, 55, 50, 57, 54] : Bs).takeWhile dgt = [52, 50, 57, 52, 57, 54, 55, 50, 57, 54] from by decide, if_neg (by decide), if_pos (by decide)]) 1
set_option maxRecDepth 100000 in
set_option maxHeartbeats 1000000 in
theorem awake_f (w : World) (ht : Tab w) : Calls Tryd.prog 10 #[] w fun e w' => e = .returned (.bool true) ∧ Below w.heap.size w w' := by
  have HT := Lib.hid ht
  clear ht
  go_enter Tryd.func10, Tryd.ntmps10
  go_wp2_with fail
  refine (tokens_ok _ (by decide) w HT.out ex1).mono ?_
  rintro e w1 ⟨A, c, rfl, hk, hb1⟩
  have HB1 := Lib.hid hb1
  have HK1 := Lib.hid hk
  clear hk hb1
  go_wp2_with fail
  refine (tokens_err _ (by decide) w1 (HT.out.bel HB1.out) ex2).mono ?_
  rintro e w2 ⟨rfl, hb2⟩
  have HB2 := Lib.hid (HB1.out.trans (hb2.mono HB1.out.size))
  have HK2 := Lib.hid (HK1.out.below hb2)
  clear hb2
  go_wp2_with fail
  refine (tokens_err _ (by decide) w2 (HT.out.bel HB2.out) ex3).mono ?_
  rintro e w3 ⟨rfl, hb3⟩
  have HB3 := Lib.hid (HB2.out.trans (hb3.mono HB2.out.size))
  have HK3 := Lib.hid (HK2.out.below hb3)
  clear hb3
  obtain ⟨g, o, rfl, hat⟩ := HK3.out.mem (by simp)
  obtain ⟨k1, k2, _⟩ := hat.2 2 (by simp)
  have hc9 : c ≤ 9223372036854775807 := HK3.out.max
  have hc4 : 4 ≤ c := HK3.out.le
  have h65 : (ofL [54, 53]).toList = [54, 53] := by rw [toList_bl, bl_ofL]
  clear hat
  go_wp2_with fail
  go_ret
  exact ⟨rfl, HB3.out⟩
set_option maxRecDepth 100000 in
theorem lines_f (s : ByteArray) (hs : s.size ≤ 100000) (w : World) : Calls Tryd.prog 12 #[.string s] w fun e w' => e = .returned (.int .i64 (nls (bl s) : Int)) ∧ w' = w := by
  go_enter Tryd.func12, Tryd.ntmps12
  go_wp2_with fail
  go_loop [3, 4] (fun y x => ∃ k : Nat, k ≤ s.size ∧ x = .int .i64 (k : Int) ∧ y = .int .i64 (nls ((bl s).take k) : Int)) (fun _ x => s.size - (intOf x).toNat)
  case atStart => exact ⟨0, by omega, rfl, rfl⟩
  case round =>
    obtain ⟨k, hk, rfl, rfl⟩ := hrel
    by_cases hlt : k < s.size
    · have hn : nls ((bl s).take k) ≤ k := by
        have : nls ((bl s).take k) ≤ ((bl s).take k).length := List.count_le_length
        rw [List.length_take] at this
        omega
      have HN := Lib.hid (show nls ((bl s).take (k + 1)) = nls ((bl s).take k) + (if s[k] = 10 then 1 else 0) by
        have h2 : k < (bl s).length := by rw [bl_len]; exact hlt
        rw [List.take_succ_eq_append_getElem h2, nls_append, nls_cons]
        show _ + (0 + _) = _
        rw [Nat.zero_add]
        rfl)
      obtain ⟨m, hm⟩ : ∃ m, m = nls ((bl s).take k) := ⟨_, rfl⟩
      rw [← hm] at hn HN ⊢
      obtain ⟨c, hc⟩ : ∃ c, s[k] = c := ⟨_, rfl⟩
      rw [hc] at HN
      clear hm
      by_cases h10 : c = 10
      · rw [if_pos h10] at HN
        have h' : ((c.toNat : Int) == 10) = true := by rw [h10]; rfl
        clear h10
        go_wp2_with fail
        go_round
        case rel => exact ⟨k + 1, by omega, by go_num, by rw [HN.out]; go_num⟩
        case measure => simp [intOf]; omega
      · rw [if_neg h10] at HN
        have h' : ((c.toNat : Int) == 10) = false := by
          rw [beq_eq_false_iff_ne]
          intro e
          exact h10 (UInt8.toNat_inj.1 (by have : (10 : UInt8).toNat = 10 := rfl; omega))
        clear h10
        go_wp2_with fail
        go_round
        case rel => exact ⟨k + 1, by omega, by go_num, by rw [HN.out]; go_num⟩
        case measure => simp [intOf]; omega
    · have HT := Lib.hid (show (bl s).take k = bl s from List.take_of_length_le (by rw [bl_len]; omega))
      rw [HT.out]
      go_wp2_with fail
      go_ret
      exact ⟨rfl, rfl⟩
set_option maxRecDepth 100000 in
set_option maxHeartbeats 1000000 in
theorem same_f (w : World) (A A' : Option Addr) (c c' : Nat) (l : List Tk) (d : Nat) (h : Tks w A c l) (h' : Tks w A' c' (l.map (Tk.sh d))) (hl : l.length ≤ 60000) (hb : ∀ t ∈ l, t.line + d ≤ 1000000) :
    Calls Tryd.prog 13 #[.slice A l.length c, .slice A' l.length c', .int .i64 (d : Int)] w fun e w' => e = .returned (.bool true) ∧ Below w.heap.size w w' := by
  have H := Lib.hid h
  have H' := Lib.hid h'
  have HB := Lib.hid hb
  clear h h' hb
  obtain ⟨n, hn⟩ : ∃ n, n = l.length := ⟨_, rfl⟩
  rw [← hn] at hl ⊢
  have HN := Lib.hid hn
  clear hn
  go_enter Tryd.func13, Tryd.ntmps13
  go_wp2_with fail
  go_loopw [7] (fun x W => ∃ k : Nat, k ≤ n ∧ x = .int .i64 (k : Int) ∧ Hid (Dr w W)) (fun x _ => n - (intOf x).toNat)
  case atStart => exact ⟨0, by omega, rfl, Lib.hid (Dr.refl _)⟩
  case round =>
    obtain ⟨k, hk, rfl, HD⟩ := hrel
    by_cases hkn : k < n
    · have hkl : k < l.length := by rw [← HN.out]; exact hkn
      obtain ⟨D, hD⟩ := HD.out
      obtain ⟨g, o, rfl, hat⟩ := (H.out.drewN D).mem (by omega)
      obtain ⟨g', o', rfl, hat'⟩ := (H'.out.drewN D).mem (by simp; omega)
      obtain ⟨q1, q2, q3⟩ := hat.2 k hkl
      obtain ⟨r1, r2, r3⟩ := hat'.2 k (by simpa using hkl)
      rw [← hD] at q1 q2 q3 r1 r2 r3
      rw [List.getElem_map] at r1 r2 r3
      have hbd := HB.out l[k] (List.getElem_mem hkl)
      obtain ⟨t, ht⟩ : ∃ t, l[k] = t := ⟨_, rfl⟩
      rw [ht] at q1 q2 q3 r1 r2 r3 hbd
      obtain ⟨L2, hL2⟩ : ∃ L, L = t.line + d := ⟨_, rfl⟩
      replace r1 : wr.cell? ⟨g', o' + k * 3, none⟩ = some (.int .i64 (t.kind : Int)) := r1
      replace r2 : wr.cell? ⟨g', o' + k * 3 + 1, none⟩ = some (.string (ofL t.text)) := r2
      replace r3 : wr.cell? ⟨g', o' + k * 3 + 2, none⟩ = some (.int .i64 ((t.line + d : Nat) : Int)) := r3
      rw [← hL2] at r3 hbd
      obtain ⟨L1, hL1⟩ : ∃ L, L = t.line := ⟨_, rfl⟩
      rw [← hL1] at q3
      have v1 : IntKind.i64.wrap ((L1 : Int) + (d : Int)) = (L2 : Int) := by simp [IntKind.wrap, IntKind.bits, IntKind.signed]; omega
      obtain ⟨kd, hkd⟩ : ∃ x, x = t.kind := ⟨_, rfl⟩
      obtain ⟨tx, htx⟩ : ∃ x, x = ofL t.text := ⟨_, rfl⟩
      rw [← hkd] at q1 r1
      rw [← htx] at q2 r2
      have e1 : ((kd : Int) != (kd : Int)) = false := by simp
      have e2 : (tx.toList != tx.toList) = false := by simp
      have e3 : ((L2 : Int) != (L2 : Int)) = false := by simp
      clear hat hat' ht hL2 hL1 hkd htx hD
      go_wp2_with fail
      go_quiet (fail)
      go_wp2_with fail
      go_roundw
      case rel => exact ⟨k + 1, by omega, by go_num, Lib.hid (HD.out.drewN _)⟩
      case measure => simp [intOf]; omega
    · go_wp2_with fail
      go_ret
      exact ⟨rfl, HD.out.below _⟩
end Lx
end Go.Proofs.YtnfgjbeifdfkaaaDoor
