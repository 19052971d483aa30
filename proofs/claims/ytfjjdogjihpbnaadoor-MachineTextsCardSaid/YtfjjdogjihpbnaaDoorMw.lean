/- Check of both (the first byte of a text that is none of the machine's), and the reference's Literal. -/
import Derived.Test.YtfjjdogjihpbnaaDoorFu
import Derived.Test.YtfjjdogjihpbnaaDoorMv
import Derived.Test.YtfjjdogjihpbnaaDoorOc
import Derived.Lib.IndexAny
namespace Go.Proofs.YtfjjdogjihpbnaaDoor
open Go.RowKit
set_option linter.unusedVariables false
namespace Mc

/-- the machine's bytes -/
def alpha : List UInt8 := [43, 45, 42, 47, 37, 94, 60, 64, 33, 63, 58, 59, 44, 46, 36, 48, 49, 50, 51, 52, 53, 54, 55, 56, 57, 32, 10]
def chkL : List UInt8 → Nat → Int × Int
  | [], _ => (0, 0)
  | x :: l, i => if x ∈ alpha then chkL l (i + 1) else ((i : Int), 3)
theorem drop_bl (s : ByteArray) (k : Nat) (h : k < s.size) : (bl s).drop k = s[k] :: (bl s).drop (k + 1) := by
  have h' : k < (bl s).length := by simpa [bl] using h
  rw [List.drop_eq_getElem_cons h']
  rfl
theorem chk_yes {s : ByteArray} {k : Nat} (h : k < s.size) (hx : s[k] ∈ alpha) : chkL ((bl s).drop k) k = chkL ((bl s).drop (k + 1)) (k + 1) := by
  rw [drop_bl s k h]
  exact if_pos hx
theorem chk_no {s : ByteArray} {k : Nat} (h : k < s.size) (hx : ¬ s[k] ∈ alpha) : chkL ((bl s).drop k) k = ((k : Int), 3) := by
  rw [drop_bl s k h]
  exact if_neg hx
theorem chk_end {s : ByteArray} : chkL ((bl s).drop s.size) s.size = (0, 0) := by
  rw [List.drop_eq_nil_of_le (by simp [bl])]
  rfl
theorem cut_one (s : ByteArray) (k : Nat) (h : k < s.size) : s.extract k (k + 1) = ⟨#[s[k]]⟩ := by
  apply ByteArray.ext
  apply Array.ext
  · simp [ByteArray.data_extract]; omega
  · intro i h1 h2
    simp at h2
    subst h2
    simp [ByteArray.data_extract]
    rfl
theorem has_onw (V : World) (s : ByteArray) (c : UInt8) {r : Bool} (hr : (bl s).contains c = r) :
    Calls Tryd.prog 17 #[.string s, .string ⟨#[c]⟩] V fun e V' => e = .returned (.bool r) ∧ V = V' :=
  (Tryd.strings_Contains_one s c V).mono fun e V' ⟨h1, h2⟩ => ⟨by rw [h1, ← hr, Lib.contains_iff_indexByte]; rfl, h2.symm⟩

def ChkPost (w : World) (s : ByteArray) (e : Ending) (w' : World) : Prop := e = .returned (.tuple #[.int .i64 (chkL (bl s) 0).1, .int .i64 (chkL (bl s) 0).2]) ∧ w = w'

set_option maxRecDepth 100000 in
set_option maxHeartbeats 1000000 in
theorem mcheck_f (w : World) (s : ByteArray) (hs : s.size ≤ 100000) : Calls Tryd.prog 9 #[.string s] w (ChkPost w s) := by
  unfold ChkPost
  obtain ⟨R, hR⟩ : ∃ R, R = chkL (bl s) 0 := ⟨_, rfl⟩
  rw [← hR]
  have HR := Lib.hid (show chkL ((bl s).drop 0) 0 = R by rw [hR]; rfl)
  clear hR
  obtain ⟨r1, r2⟩ := R
  go_enter Tryd.func9, Tryd.ntmps9
  go_wp2_with fail
  go_loop [7] (fun x => ∃ k : Nat, k ≤ s.size ∧ x = .int .i64 (k : Int) ∧ Hid (chkL ((bl s).drop k) k = (r1, r2))) (fun x => s.size - (intOf x).toNat)
  case atStart => exact ⟨0, by omega, rfl, HR⟩
  case round =>
    obtain ⟨k, hk, rfl, HK⟩ := hrel
    clear HR
    by_cases hkl : k < s.size
    · have HC := Lib.hid (cut_one s k hkl)
      by_cases hin : s[k] ∈ alpha
      · go_wp2_with fail
        rw [HC.out]
        refine (has_onw _ ⟨#[43, 45, 42, 47, 37, 94, 60, 64, 33, 63, 58, 59, 44, 46, 36, 48, 49, 50, 51, 52, 53, 54, 55, 56, 57, 32, 10]⟩ s[k] (r := true) (by show alpha.contains s[k] = true; simpa using hin)).mono ?_
        rintro e w' ⟨rfl, rfl⟩
        go_wp2_with fail
        go_round
        case rel => exact ⟨k + 1, by omega, by go_num, Lib.hid (by rw [← chk_yes hkl hin]; exact HK.out)⟩
        case measure => simp [intOf]; omega
      · go_wp2_with fail
        rw [HC.out]
        refine (has_onw _ ⟨#[43, 45, 42, 47, 37, 94, 60, 64, 33, 63, 58, 59, 44, 46, 36, 48, 49, 50, 51, 52, 53, 54, 55, 56, 57, 32, 10]⟩ s[k] (r := false) (by show alpha.contains s[k] = false; simpa using hin)).mono ?_
        rintro e w' ⟨rfl, rfl⟩
        go_wp2_with fail
        go_ret2
        have h1 := HK.out
        rw [chk_no hkl hin] at h1
        obtain ⟨rfl, rfl⟩ := Prod.mk.inj h1
        exact ⟨rfl, rfl⟩
    · obtain rfl : k = s.size := by omega
      go_wp2_with fail
      go_ret2
      have h1 := HK.out
      rw [chk_end] at h1
      obtain ⟨rfl, rfl⟩ := Prod.mk.inj h1
      exact ⟨rfl, rfl⟩

/-- the signs, as the reference's loop goes over them -/
def sgs : List UInt8 := [43, 45, 42, 47, 37, 94, 60, 64, 33, 63, 58, 59, 44, 46, 36]
def okw (c : UInt8) : Bool := (decide (48 ≤ (c.toNat : Int)) && decide ((c.toNat : Int) ≤ 57)) || decide ((c.toNat : Int) = 32) || decide ((c.toNat : Int) = 10)
def okn (c : UInt8) (k : Nat) : Bool := okw c || (sgs.take k).contains c
theorem okn_all' : ∀ n : Nat, n < 256 → okn (UInt8.ofNat n) 15 = decide (UInt8.ofNat n ∈ alpha) := by decide +kernel
theorem okn_all (c : UInt8) : okn c 15 = decide (c ∈ alpha) := by
  have h := okn_all' c.toNat c.toNat_lt
  rwa [show UInt8.ofNat c.toNat = c from UInt8.toNat_inj.1 (by rw [UInt8.toNat_ofNat', Nat.mod_eq_of_lt c.toNat_lt])] at h
theorem okn_succ (c : UInt8) {k : Nat} (h : k < sgs.length) : okn c (k + 1) = (okn c k || sgs[k] == c) := by
  unfold okn
  rw [List.take_succ_eq_append_getElem h, Bool.or_assoc]
  congr 1
  rw [Bool.eq_iff_iff]
  simp only [List.contains_iff_mem, List.mem_append, List.mem_singleton, Bool.or_eq_true, beq_iff_eq]
  exact or_congr_right eq_comm
theorem okw_t {c : UInt8} (h : (48 ≤ (c.toNat : Int) ∧ (c.toNat : Int) ≤ 57) ∨ (c.toNat : Int) = 32 ∨ (c.toNat : Int) = 10) : okw c = true := by
  unfold okw
  simp only [Bool.or_eq_true, Bool.and_eq_true, decide_eq_true_eq]
  omega
theorem sg_eq {i : Nat} (hi : i < 15) (x : UInt8) {y : Int} (hy : y = (x.toNat : Int)) : ((((⟨#[43, 45, 42, 47, 37, 94, 60, 64, 33, 63, 58, 59, 44, 46, 36]⟩ : ByteArray)[i]'hi).toNat : Int) == y) = (sgs[i]'hi == x) := by
  subst hy
  rw [Bool.eq_iff_iff, beq_iff_eq, beq_iff_eq]
  show ((sgs[i]'hi).toNat : Int) = _ ↔ _
  constructor
  · intro h; exact UInt8.toNat_inj.1 (by omega)
  · intro h; rw [h]
theorem okn_zero (c : UInt8) : okn c 0 = okw c := by unfold okn; simp

set_option maxRecDepth 100000 in
set_option maxHeartbeats 1000000 in
theorem rcheck_f (w : World) (s : ByteArray) (hs : s.size ≤ 100000) : Calls Tryd.prog 10 #[.string s] w (ChkPost w s) := by
  unfold ChkPost
  obtain ⟨R, hR⟩ : ∃ R, R = chkL (bl s) 0 := ⟨_, rfl⟩
  rw [← hR]
  have HR := Lib.hid (show chkL ((bl s).drop 0) 0 = R by rw [hR]; rfl)
  clear hR
  obtain ⟨r1, r2⟩ := R
  go_enter Tryd.func10, Tryd.ntmps10
  go_wp2_with fail
  go_loop [4] (fun x => ∃ k : Nat, k ≤ s.size ∧ x = .int .i64 (k : Int) ∧ Hid (chkL ((bl s).drop k) k = (r1, r2))) (fun x => s.size - (intOf x).toNat)
  case atStart => exact ⟨0, by omega, rfl, HR⟩
  case round =>
    obtain ⟨k, hk, rfl, HK⟩ := hrel
    clear HR
    by_cases hkl : k < s.size
    · have HS := Lib.hid (fun (h : s[k] ∈ alpha) => chk_yes hkl h)
      have HN := Lib.hid (fun (h : ¬ s[k] ∈ alpha) => chk_no hkl h)
      obtain ⟨c, hc⟩ : ∃ c, c = s[k] := ⟨_, rfl⟩
      rw [← hc] at HS HN
      have HC := Lib.hid hc
      clear hc
      go_wp2_with fail
      all_goals
        go_loop [6, 7] (fun x y => ∃ i : Nat, i ≤ 15 ∧ x = .bool (okn c i) ∧ y = .int .i64 (i : Int)) (fun _ y => 15 - (intOf y).toNat)
        case atStart => exact ⟨0, by omega, congrArg Value.bool (by rw [okn_zero, HC.out]; first | exact (okw_t (by omega)).symm | (unfold okw; rw [Bool.eq_iff_iff]; simp only [Bool.or_eq_true, Bool.and_eq_true, decide_eq_true_eq, beq_iff_eq]; omega)), rfl⟩
        case round =>
          obtain ⟨i, hi, rfl, rfl⟩ := hrel
          by_cases hi15 : i < 15
          · cases ho : okn c i with
            | true =>
              have ho' := Lib.hid ho
              clear ho
              go_wp2_with fail
              go_round
              case rel => exact ⟨i + 1, by omega, congrArg Value.bool (by rw [okn_succ c hi15, ho'.out]; rfl), by go_num⟩
              case measure => simp [intOf]; omega
            | false =>
              have ho' := Lib.hid ho
              clear ho
              go_wp2_with fail
              go_round
              case rel => exact ⟨i + 1, by omega, congrArg Value.bool (by rw [okn_succ c hi15, ho'.out, Bool.false_or, HC.out]; exact sg_eq hi15 _ (by omega)), by go_num⟩
              case measure => simp [intOf]; omega
          · obtain rfl : i = 15 := by omega
            have HA := Lib.hid (okn_all c)
            by_cases hin : c ∈ alpha
            · have ho : okn c 15 = true := by rw [HA.out]; exact decide_eq_true hin
              rw [ho]
              have HN' := Lib.hid (HS.out hin)
              clear ho
              go_wp2_with fail
              go_round
              case rel => exact ⟨k + 1, by omega, by go_num, Lib.hid (by rw [← HN'.out]; exact HK.out)⟩
              case measure => simp [intOf]; omega
            · have ho : okn c 15 = false := by rw [HA.out]; exact decide_eq_false hin
              rw [ho]
              have h1 := Lib.hid ((HN.out hin).symm.trans HK.out)
              clear ho
              go_wp2_with fail
              go_ret2
              obtain ⟨rfl, rfl⟩ := Prod.mk.inj h1.out
              exact ⟨rfl, rfl⟩
    · obtain rfl : k = s.size := by omega
      go_wp2_with fail
      go_ret2
      have h1 := HK.out
      rw [chk_end] at h1
      obtain ⟨rfl, rfl⟩ := Prod.mk.inj h1
      exact ⟨rfl, rfl⟩

theorem conv1 (W : World) (g : Nat) (hg : g = W.heap.size) (x : Int) (h : 0 ≤ x ∧ x < 256) :
    (convert 33 9 (.slice (some ⟨g, 0, none⟩) 1 1)).run Tryd.prog (W.alloc (.cells #[.int .u8 x] 5)) = .ok (.string ⟨#[UInt8.ofNat x.toNat]⟩) (W.alloc (.cells #[.int .u8 x] 5)) := by
  subst hg
  have hb : ((UInt8.ofNat x.toNat).toNat : Int) = x := by
    rw [UInt8.toNat_ofNat', Nat.mod_eq_of_lt (by omega)]
    omega
  exact run_convert_bytes_back (P := Tryd.prog) (W.alloc (.cells #[.int .u8 x] 5)) 33 9 5 ⟨W.heap.size, 0, none⟩ 1 [UInt8.ofNat x.toNat] Tryd.underlying33 Tryd.underlying5 Tryd.underlying9 (fun j hj => by
    rw [Lib.add_plain, World.cell?_alloc_new]
    match j, hj with
    | 0, _ => exact congrArg (fun z => some (Value.int .u8 z)) hb.symm)
theorem dec_step {n : Nat} (h : 10 ≤ n) : Lib.decDigits n = Lib.decDigits (n / 10) ++ [UInt8.ofNat (48 + n % 10)] := by
  rw [Lib.decDigits, dif_neg (by omega)]

set_option maxRecDepth 100000 in
set_option maxHeartbeats 1000000 in
theorem rlit_f (u : Nat) (hu : u < 4294967296) (w : World) :
    Calls Tryd.prog 12 #[.int .u32 (u : Int)] w fun e w' => e = .returned (.string ⟨(Lib.decDigits u).toArray⟩) ∧ Below w.heap.size w w' := by
  obtain ⟨R, hR⟩ : ∃ R, R = Lib.decDigits u := ⟨_, rfl⟩
  rw [← hR]
  have HR := Lib.hid hR
  clear hR
  go_enter Tryd.func12, Tryd.ntmps12
  go_wp2_with fail
  go_loopw [0, 3] (fun x y W => ∃ (n : Nat) (l : List UInt8), n < 4294967296 ∧ x = .int .u32 (n : Int) ∧ y = .string ⟨l.toArray⟩ ∧ Hid (R = Lib.decDigits n ++ l) ∧ Hid (Below w.heap.size w W)) (fun x _ _ => (intOf x).toNat)
  case atStart => exact ⟨u, [], by omega, rfl, rfl, Lib.hid (by rw [HR.out]; simp), Lib.hid (Below.refl _ _)⟩
  case round =>
    obtain ⟨n, l, hn, rfl, rfl, HL, HB⟩ := hrel
    have hll : l.length ≤ 10 := by
      have h1 := dec_len 10 u (by omega) (by omega)
      rw [← HR.out, HL.out, List.length_append] at h1
      omega
    clear HR
    by_cases h10 : 10 ≤ n
    · have HD := Lib.hid (dec_step h10)
      obtain ⟨c, hc⟩ : ∃ c, c = UInt8.ofNat (48 + (n : Int) % 10).toNat := ⟨_, rfl⟩
      have HC := Lib.hid hc
      clear hc
      go_wp2_with fail
      rw [conv1 _ _ rfl _ (by omega), ← HC.out]
      simp only [Result.andThen_ok]
      go_wp2_with fail
      go_roundw
      case rel => exact ⟨n / 10, c :: l, by omega, by go_num, congrArg Value.string (ByteArray.ext (by simp [ByteArray.data_append])), Lib.hid (by rw [HL.out, HD.out, HC.out, show (48 + (n : Int) % 10).toNat = 48 + n % 10 by omega, List.append_assoc]; rfl), Lib.hid (HB.out.alloc HB.out.size _)⟩
      case measure => simp [intOf]; omega
    · obtain ⟨c, hc⟩ : ∃ c, c = UInt8.ofNat (48 + (n : Int)).toNat := ⟨_, rfl⟩
      have HD := Lib.hid (show R = c :: l by
        rw [HL.out, Lib.decDigits_one (by omega), hc, show (48 + (n : Int)).toNat = 48 + n by omega]; rfl)
      have HC := Lib.hid hc
      clear hc
      go_wp2_with fail
      rw [conv1 _ _ rfl _ (by omega), ← HC.out]
      simp only [Result.andThen_ok]
      go_wp2_with fail
      go_ret
      exact ⟨congrArg (fun z => Ending.returned (Value.string z)) (by rw [HD.out]; exact ByteArray.ext (by simp [ByteArray.data_append])), HB.out.alloc HB.out.size _⟩

end Mc
end Go.Proofs.YtfjjdogjihpbnaaDoor
