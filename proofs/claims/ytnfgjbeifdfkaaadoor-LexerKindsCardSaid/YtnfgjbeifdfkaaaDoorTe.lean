/- The lexer's walks: bytes, runs, white space. -/
import Derived.Test.YtnfgjbeifdfkaaaDoorTd
namespace Go.Proofs.YtnfgjbeifdfkaaaDoor
open Go.RowKit
set_option linter.unusedVariables false
namespace Lx

set_option maxRecDepth 100000 in
theorem digit_f (c : UInt8) (w : World) : Calls Tryd.prog 22 #[.int .u8 (c.toNat : Int)] w fun e w' => e = .returned (.bool (dgt c)) ∧ w' = w := by
  have hd : dgt c = decide (48 ≤ c.toNat ∧ c.toNat ≤ 57) := rfl
  have HD := Lib.hid hd
  clear hd
  go_enter Tryd.func22, Tryd.ntmps22
  by_cases h1 : 48 ≤ c.toNat
  · by_cases h2 : c.toNat ≤ 57
    · have h1' : (48 : Int) ≤ (c.toNat : Int) := by omega
      have h2' : (c.toNat : Int) ≤ 57 := by omega
      go_wp2_with fail
      go_ret
      exact ⟨by rw [HD.out, decide_eq_true (And.intro h1 h2)]; simp, rfl⟩
    · have h1' : (48 : Int) ≤ (c.toNat : Int) := by omega
      have h2' : ¬ (c.toNat : Int) ≤ 57 := by omega
      go_wp2_with fail
      go_ret
      exact ⟨by rw [HD.out, decide_eq_false (fun h => h2 h.2)]; simp, rfl⟩
  · have h1' : ¬ (48 : Int) ≤ (c.toNat : Int) := by omega
    go_wp2_with fail
    go_ret
    exact ⟨by rw [HD.out, decide_eq_false (fun h => h1 h.1)]; simp, rfl⟩
set_option maxRecDepth 100000 in
theorem letter_f (c : UInt8) (w : World) : Calls Tryd.prog 24 #[.int .u8 (c.toNat : Int)] w fun e w' => e = .returned (.bool (ltr c)) ∧ w' = w := by
  have hd : ltr c = decide (97 ≤ c.toNat ∧ c.toNat ≤ 122) := rfl
  have HD := Lib.hid hd
  clear hd
  go_enter Tryd.func24, Tryd.ntmps24
  by_cases h1 : 97 ≤ c.toNat
  · by_cases h2 : c.toNat ≤ 122
    · have h1' : (97 : Int) ≤ (c.toNat : Int) := by omega
      have h2' : (c.toNat : Int) ≤ 122 := by omega
      go_wp2_with fail
      go_ret
      exact ⟨by rw [HD.out, decide_eq_true (And.intro h1 h2)]; simp, rfl⟩
    · have h1' : (97 : Int) ≤ (c.toNat : Int) := by omega
      have h2' : ¬ (c.toNat : Int) ≤ 122 := by omega
      go_wp2_with fail
      go_ret
      exact ⟨by rw [HD.out, decide_eq_false (fun h => h2 h.2)]; simp, rfl⟩
  · have h1' : ¬ (97 : Int) ≤ (c.toNat : Int) := by omega
    go_wp2_with fail
    go_ret
    exact ⟨by rw [HD.out, decide_eq_false (fun h => h1 h.1)]; simp, rfl⟩
theorem eq_nat (c : UInt8) (n : Nat) (h : n < 256) : (c == UInt8.ofNat n) = decide (c.toNat = n) := by
  have hn : (UInt8.ofNat n).toNat = n := by rw [UInt8.toNat_ofNat', Nat.mod_eq_of_lt (by omega)]
  rw [Bool.eq_iff_iff, beq_iff_eq, decide_eq_true_iff]
  constructor
  · rintro rfl; exact hn
  · intro e
    rw [← hn] at e
    exact UInt8.toNat_inj.1 e
set_option maxRecDepth 100000 in
theorem inner_f (c : UInt8) (w : World) : Calls Tryd.prog 34 #[.int .u8 (c.toNat : Int)] w fun e w' => e = .returned (.bool (inn c)) ∧ w' = w := by
  have h95 : (c == 95) = decide (c.toNat = 95) := eq_nat c 95 (by omega)
  have hd : inn c = (ltr c || dgt c || (c == 95)) := rfl
  rw [h95] at hd
  have HL := Lib.hid (fun w => letter_f c w)
  have HG := Lib.hid (fun w => digit_f c w)
  obtain ⟨l, hl⟩ : ∃ l, l = ltr c := ⟨_, rfl⟩
  obtain ⟨d, hdd⟩ : ∃ d, d = dgt c := ⟨_, rfl⟩
  rw [← hl] at hd HL
  rw [← hdd] at hd HG
  have HD := Lib.hid hd
  clear hd hl hdd h95
  go_enter Tryd.func34, Tryd.ntmps34
  go_wp2_with fail
  refine (HL.out _).mono ?_
  rintro e w' ⟨rfl, rfl⟩
  cases l with
  | true =>
    go_wp2_with fail
    go_ret
    exact ⟨by rw [HD.out]; simp, rfl⟩
  | false =>
    go_wp2_with fail
    refine (HG.out _).mono ?_
    rintro e w' ⟨rfl, rfl⟩
    cases d with
    | true =>
      go_wp2_with fail
      go_ret
      exact ⟨by rw [HD.out]; simp, rfl⟩
    | false =>
      by_cases h : c.toNat = 95
      · have h' : ((c.toNat : Int) == 95) = true := by simp; omega
        go_wp2_with fail
        go_ret
        exact ⟨by rw [HD.out, decide_eq_true h]; simp, rfl⟩
      · have h' : ((c.toNat : Int) == 95) = false := by simp; omega
        go_wp2_with fail
        go_ret
        exact ⟨by rw [HD.out, decide_eq_false h]; simp, rfl⟩
set_option maxRecDepth 100000 in
theorem noline_f (c : UInt8) (w : World) : Calls Tryd.prog 20 #[.int .u8 (c.toNat : Int)] w fun e w' => e = .returned (.bool (nnl c)) ∧ w' = w := by
  have h10 : (c == 10) = decide (c.toNat = 10) := eq_nat c 10 (by omega)
  have hd : nnl c = !(c == 10) := rfl
  rw [h10] at hd
  have HD := Lib.hid hd
  clear hd h10
  go_enter Tryd.func20, Tryd.ntmps20
  by_cases h : c.toNat = 10
  · have h' : ((c.toNat : Int) != 10) = false := by simp; omega
    go_wp2_with fail
    go_ret
    exact ⟨by rw [HD.out, decide_eq_true h]; rfl, rfl⟩
  · have h' : ((c.toNat : Int) != 10) = true := by simp; omega
    go_wp2_with fail
    go_ret
    exact ⟨by rw [HD.out, decide_eq_false h]; rfl, rfl⟩
set_option maxRecDepth 100000 in
theorem blank_f (c : UInt8) (w : World) : Calls Tryd.prog 21 #[.int .u8 (c.toNat : Int)] w fun e w' => e = .returned (.bool (wsp c)) ∧ w' = w := by
  have h10 : (c == 10) = decide (c.toNat = 10) := eq_nat c 10 (by omega)
  have h9 : (c == 9) = decide (c.toNat = 9) := eq_nat c 9 (by omega)
  have h32 : (c == 32) = decide (c.toNat = 32) := eq_nat c 32 (by omega)
  have hd : wsp c = ((c == 32) || (c == 9) || (c == 10)) := rfl
  rw [h10, h9, h32] at hd
  have HD := Lib.hid hd
  clear hd h10 h9 h32
  go_enter Tryd.func21, Tryd.ntmps21
  by_cases h : c.toNat = 32
  · have h' : ((c.toNat : Int) == 32) = true := by simp; omega
    go_wp2_with fail
    go_ret
    exact ⟨by rw [HD.out, decide_eq_true h]; simp, rfl⟩
  · have h' : ((c.toNat : Int) == 32) = false := by simp; omega
    by_cases k : c.toNat = 9
    · have k' : ((c.toNat : Int) == 9) = true := by simp; omega
      go_wp2_with fail
      go_ret
      exact ⟨by rw [HD.out, decide_eq_true k]; simp, rfl⟩
    · have k' : ((c.toNat : Int) == 9) = false := by simp; omega
      by_cases m : c.toNat = 10
      · have m' : ((c.toNat : Int) == 10) = true := by simp; omega
        go_wp2_with fail
        go_ret
        exact ⟨by rw [HD.out, decide_eq_true m]; simp, rfl⟩
      · have m' : ((c.toNat : Int) == 10) = false := by simp; omega
        go_wp2_with fail
        go_ret
        exact ⟨by rw [HD.out, decide_eq_false m, decide_eq_false k, decide_eq_false h]; simp, rfl⟩
theorem tw_at {p : UInt8 → Bool} : ∀ {s : Bs} {n : Nat}, n ≤ (s.takeWhile p).length → (hn : n < s.length) → (p s[n] = true → n + 1 ≤ (s.takeWhile p).length) ∧ (p s[n] = false → n = (s.takeWhile p).length)
  | [], n, _, hn => absurd hn (by simp)
  | a :: s, 0, _, _ => by
    by_cases ha : p a = true
    · simp [ha]
    · simp [ha]
  | a :: s, n + 1, h, hn => by
    by_cases ha : p a = true
    · have hc : ((a :: s).takeWhile p).length = (s.takeWhile p).length + 1 := by simp [ha]
      rw [hc] at h ⊢
      obtain ⟨h1, h2⟩ := tw_at (p := p) (s := s) (n := n) (by omega) (by simpa using hn)
      exact ⟨fun e => by have := h1 e; omega, fun e => by have := h2 e; omega⟩
    · simp [ha] at h
set_option maxRecDepth 100000 in
set_option maxHeartbeats 1000000 in
theorem run_n (s : ByteArray) (hs : s.size ≤ 100000) (w : World) :
    Calls Tryd.prog 19 #[.string s, .func (.func 20) #[] #[]] w fun e w' => e = .returned (.string (ofL ((bl s).takeWhile nnl))) ∧ w' = w := by
  have HF := Lib.hid (fun c w => noline_f c w)
  have HLE := Lib.hid (tw_le nnl (bl s))
  go_enter Tryd.func19, Tryd.ntmps19
  go_wp2_with fail
  go_loop [5] (fun x => ∃ n : Nat, n ≤ ((bl s).takeWhile nnl).length ∧ x = .int .i64 (n : Int)) (fun x => s.size + 1 - (intOf x).toNat)
  case atStart => exact ⟨0, by omega, rfl⟩
  case round =>
    obtain ⟨n, hn, rfl⟩ := hrel
    have hns : n ≤ s.size := by have := HLE.out; rw [bl_len] at this; omega
    have hcut := cut_to s n
    by_cases hlt : n < s.size
    · have hgd : (bl s)[n]'(by rw [bl_len]; exact hlt) = s[n] := rfl
      obtain ⟨h1, h2⟩ := tw_at (p := nnl) (s := bl s) hn (by rw [bl_len]; exact hlt)
      rw [hgd] at h1 h2
      obtain ⟨c, hc⟩ : ∃ c, s[n] = c := ⟨_, rfl⟩
      rw [hc] at h1 h2
      have HC := Lib.hid (fun w => HF.out c w)
      clear hgd
      cases hp : nnl c with
      | true =>
        have h3 := h1 hp
        rw [hp] at HC
        clear h1 h2 hp hcut
        go_wp2_with fail
        refine (HC.out _).mono ?_
        rintro e w' ⟨rfl, rfl⟩
        go_wp2_with fail
        go_round
        case rel => exact ⟨n + 1, h3, by go_num⟩
        case measure => simp [intOf]; omega
      | false =>
        have h3 := Lib.hid (h2 hp)
        rw [hp] at HC
        have HCU := Lib.hid hcut
        clear h1 h2 hp hcut
        go_wp2_with fail
        refine (HC.out _).mono ?_
        rintro e w' ⟨rfl, rfl⟩
        go_wp2_with fail
        go_ret
        exact ⟨by
          show Ending.returned (.string (s.extract 0 n)) = _
          rw [HCU.out, h3.out, tw_take], rfl⟩
    · have HCU := Lib.hid hcut
      have HE := Lib.hid (show n = ((bl s).takeWhile nnl).length by have := HLE.out; rw [bl_len] at this; omega)
      clear hcut
      go_wp2_with fail
      go_ret
      exact ⟨by
        show Ending.returned (.string (s.extract 0 n)) = _
        rw [HCU.out, HE.out, tw_take], rfl⟩
set_option maxRecDepth 100000 in
set_option maxHeartbeats 1000000 in
theorem run_b (s : ByteArray) (hs : s.size ≤ 100000) (w : World) :
    Calls Tryd.prog 19 #[.string s, .func (.func 21) #[] #[]] w fun e w' => e = .returned (.string (ofL ((bl s).takeWhile wsp))) ∧ w' = w := by
  have HF := Lib.hid (fun c w => blank_f c w)
  have HLE := Lib.hid (tw_le wsp (bl s))
  go_enter Tryd.func19, Tryd.ntmps19
  go_wp2_with fail
  go_loop [5] (fun x => ∃ n : Nat, n ≤ ((bl s).takeWhile wsp).length ∧ x = .int .i64 (n : Int)) (fun x => s.size + 1 - (intOf x).toNat)
  case atStart => exact ⟨0, by omega, rfl⟩
  case round =>
    obtain ⟨n, hn, rfl⟩ := hrel
    have hns : n ≤ s.size := by have := HLE.out; rw [bl_len] at this; omega
    have hcut := cut_to s n
    by_cases hlt : n < s.size
    · have hgd : (bl s)[n]'(by rw [bl_len]; exact hlt) = s[n] := rfl
      obtain ⟨h1, h2⟩ := tw_at (p := wsp) (s := bl s) hn (by rw [bl_len]; exact hlt)
      rw [hgd] at h1 h2
      obtain ⟨c, hc⟩ : ∃ c, s[n] = c := ⟨_, rfl⟩
      rw [hc] at h1 h2
      have HC := Lib.hid (fun w => HF.out c w)
      clear hgd
      cases hp : wsp c with
      | true =>
        have h3 := h1 hp
        rw [hp] at HC
        clear h1 h2 hp hcut
        go_wp2_with fail
        refine (HC.out _).mono ?_
        rintro e w' ⟨rfl, rfl⟩
        go_wp2_with fail
        go_round
        case rel => exact ⟨n + 1, h3, by go_num⟩
        case measure => simp [intOf]; omega
      | false =>
        have h3 := Lib.hid (h2 hp)
        rw [hp] at HC
        have HCU := Lib.hid hcut
        clear h1 h2 hp hcut
        go_wp2_with fail
        refine (HC.out _).mono ?_
        rintro e w' ⟨rfl, rfl⟩
        go_wp2_with fail
        go_ret
        exact ⟨by
          show Ending.returned (.string (s.extract 0 n)) = _
          rw [HCU.out, h3.out, tw_take], rfl⟩
    · have HCU := Lib.hid hcut
      have HE := Lib.hid (show n = ((bl s).takeWhile wsp).length by have := HLE.out; rw [bl_len] at this; omega)
      clear hcut
      go_wp2_with fail
      go_ret
      exact ⟨by
        show Ending.returned (.string (s.extract 0 n)) = _
        rw [HCU.out, HE.out, tw_take], rfl⟩
set_option maxRecDepth 100000 in
set_option maxHeartbeats 1000000 in
theorem run_d (s : ByteArray) (hs : s.size ≤ 100000) (w : World) :
    Calls Tryd.prog 19 #[.string s, .func (.func 22) #[] #[]] w fun e w' => e = .returned (.string (ofL ((bl s).takeWhile dgt))) ∧ w' = w := by
  have HF := Lib.hid (fun c w => digit_f c w)
  have HLE := Lib.hid (tw_le dgt (bl s))
  go_enter Tryd.func19, Tryd.ntmps19
  go_wp2_with fail
  go_loop [5] (fun x => ∃ n : Nat, n ≤ ((bl s).takeWhile dgt).length ∧ x = .int .i64 (n : Int)) (fun x => s.size + 1 - (intOf x).toNat)
  case atStart => exact ⟨0, by omega, rfl⟩
  case round =>
    obtain ⟨n, hn, rfl⟩ := hrel
    have hns : n ≤ s.size := by have := HLE.out; rw [bl_len] at this; omega
    have hcut := cut_to s n
    by_cases hlt : n < s.size
    · have hgd : (bl s)[n]'(by rw [bl_len]; exact hlt) = s[n] := rfl
      obtain ⟨h1, h2⟩ := tw_at (p := dgt) (s := bl s) hn (by rw [bl_len]; exact hlt)
      rw [hgd] at h1 h2
      obtain ⟨c, hc⟩ : ∃ c, s[n] = c := ⟨_, rfl⟩
      rw [hc] at h1 h2
      have HC := Lib.hid (fun w => HF.out c w)
      clear hgd
      cases hp : dgt c with
      | true =>
        have h3 := h1 hp
        rw [hp] at HC
        clear h1 h2 hp hcut
        go_wp2_with fail
        refine (HC.out _).mono ?_
        rintro e w' ⟨rfl, rfl⟩
        go_wp2_with fail
        go_round
        case rel => exact ⟨n + 1, h3, by go_num⟩
        case measure => simp [intOf]; omega
      | false =>
        have h3 := Lib.hid (h2 hp)
        rw [hp] at HC
        have HCU := Lib.hid hcut
        clear h1 h2 hp hcut
        go_wp2_with fail
        refine (HC.out _).mono ?_
        rintro e w' ⟨rfl, rfl⟩
        go_wp2_with fail
        go_ret
        exact ⟨by
          show Ending.returned (.string (s.extract 0 n)) = _
          rw [HCU.out, h3.out, tw_take], rfl⟩
    · have HCU := Lib.hid hcut
      have HE := Lib.hid (show n = ((bl s).takeWhile dgt).length by have := HLE.out; rw [bl_len] at this; omega)
      clear hcut
      go_wp2_with fail
      go_ret
      exact ⟨by
        show Ending.returned (.string (s.extract 0 n)) = _
        rw [HCU.out, HE.out, tw_take], rfl⟩
set_option maxRecDepth 100000 in
set_option maxHeartbeats 1000000 in
theorem run_i (s : ByteArray) (hs : s.size ≤ 100000) (w : World) :
    Calls Tryd.prog 19 #[.string s, .func (.func 34) #[] #[]] w fun e w' => e = .returned (.string (ofL ((bl s).takeWhile inn))) ∧ w' = w := by
  have HF := Lib.hid (fun c w => inner_f c w)
  have HLE := Lib.hid (tw_le inn (bl s))
  go_enter Tryd.func19, Tryd.ntmps19
  go_wp2_with fail
  go_loop [5] (fun x => ∃ n : Nat, n ≤ ((bl s).takeWhile inn).length ∧ x = .int .i64 (n : Int)) (fun x => s.size + 1 - (intOf x).toNat)
  case atStart => exact ⟨0, by omega, rfl⟩
  case round =>
    obtain ⟨n, hn, rfl⟩ := hrel
    have hns : n ≤ s.size := by have := HLE.out; rw [bl_len] at this; omega
    have hcut := cut_to s n
    by_cases hlt : n < s.size
    · have hgd : (bl s)[n]'(by rw [bl_len]; exact hlt) = s[n] := rfl
      obtain ⟨h1, h2⟩ := tw_at (p := inn) (s := bl s) hn (by rw [bl_len]; exact hlt)
      rw [hgd] at h1 h2
      obtain ⟨c, hc⟩ : ∃ c, s[n] = c := ⟨_, rfl⟩
      rw [hc] at h1 h2
      have HC := Lib.hid (fun w => HF.out c w)
      clear hgd
      cases hp : inn c with
      | true =>
        have h3 := h1 hp
        rw [hp] at HC
        clear h1 h2 hp hcut
        go_wp2_with fail
        refine (HC.out _).mono ?_
        rintro e w' ⟨rfl, rfl⟩
        go_wp2_with fail
        go_round
        case rel => exact ⟨n + 1, h3, by go_num⟩
        case measure => simp [intOf]; omega
      | false =>
        have h3 := Lib.hid (h2 hp)
        rw [hp] at HC
        have HCU := Lib.hid hcut
        clear h1 h2 hp hcut
        go_wp2_with fail
        refine (HC.out _).mono ?_
        rintro e w' ⟨rfl, rfl⟩
        go_wp2_with fail
        go_ret
        exact ⟨by
          show Ending.returned (.string (s.extract 0 n)) = _
          rw [HCU.out, h3.out, tw_take], rfl⟩
    · have HCU := Lib.hid hcut
      have HE := Lib.hid (show n = ((bl s).takeWhile inn).length by have := HLE.out; rw [bl_len] at this; omega)
      clear hcut
      go_wp2_with fail
      go_ret
      exact ⟨by
        show Ending.returned (.string (s.extract 0 n)) = _
        rw [HCU.out, HE.out, tw_take], rfl⟩
set_option maxRecDepth 100000 in
theorem skip_f (s : ByteArray) (hs : s.size ≤ 100000) (w : World) :
    Calls Tryd.prog 15 #[.string s] w fun e w' => e = .returned (.int .i64 (skp (bl s) : Int)) ∧ w' = w := by
  have HH := Lib.hid (show ∀ w, Calls Tryd.prog 18 #[.string s, .string ⟨#[47, 47]⟩] w (fun e w' => e = .returned (.bool (pre [47, 47] (bl s))) ∧ w' = w) from fun w => has_f s ⟨#[47, 47]⟩ w)
  have HN := Lib.hid (fun w => run_n s hs w)
  have HB := Lib.hid (fun w => run_b s hs w)
  have z1 : (ofL ((bl s).takeWhile nnl)).size ≤ 100000 := by rw [ofL_size]; have := tw_le nnl (bl s); rw [bl_len] at this; omega
  have z2 : (ofL ((bl s).takeWhile wsp)).size ≤ 100000 := by rw [ofL_size]; have := tw_le wsp (bl s); rw [bl_len] at this; omega
  have HS := Lib.hid (show skp (bl s) = if pre [47, 47] (bl s) = true then (ofL ((bl s).takeWhile nnl)).size else (ofL ((bl s).takeWhile wsp)).size by rw [ofL_size, ofL_size]; rfl)
  obtain ⟨a, ha⟩ : ∃ a, a = ofL ((bl s).takeWhile nnl) := ⟨_, rfl⟩
  obtain ⟨b, hb⟩ : ∃ a, a = ofL ((bl s).takeWhile wsp) := ⟨_, rfl⟩
  obtain ⟨q, hq⟩ : ∃ q, q = pre [47, 47] (bl s) := ⟨_, rfl⟩
  rw [← ha] at z1 HS HN
  rw [← hb] at z2 HS HB
  rw [← hq] at HS HH
  clear ha hb hq
  go_enter Tryd.func15, Tryd.ntmps15
  go_wp2_with fail
  refine (HH.out _).mono ?_
  rintro e w' ⟨rfl, rfl⟩
  cases q with
  | true =>
    go_wp2_with fail
    refine (HN.out _).mono ?_
    rintro e w' ⟨rfl, rfl⟩
    go_wp2_with fail
    go_ret
    exact ⟨by rw [HS.out, if_pos trivial]; rfl, rfl⟩
  | false =>
    go_wp2_with fail
    refine (HB.out _).mono ?_
    rintro e w' ⟨rfl, rfl⟩
    go_wp2_with fail
    go_ret
    exact ⟨by rw [HS.out, if_neg (by decide)]; rfl, rfl⟩

end Lx
end Go.Proofs.YtnfgjbeifdfkaaaDoor
