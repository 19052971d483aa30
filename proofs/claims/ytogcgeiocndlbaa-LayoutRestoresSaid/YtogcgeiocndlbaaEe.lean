/- Walks: slices.ContainsFunc on strings and on shares, at a function value that answers a plain predicate; slices.Contains on bytes. -/
import Derived.Test.YtogcgeiocndlbaaEd
namespace Go.Proofs.Ytogcgeiocndlbaa
open Go.RowKit

/-- function g, bound to lb, answers p at x in every world that has grown out of w, and only makes memory -/
def Answers (g : Nat) (lb : Array Value) (v : Value) (b : Bool) (w : World) : Prop :=
  ∀ W : World, Below w.heap.size w W → Calls Try.prog g (#[v] ++ lb) W fun e w' => e = .returned (.bool b) ∧ Below W.heap.size W w'
def GivesI (b : Bool) (w : World) (e : Ending) (w' : World) : Prop := ∃ r : Int, e = .returned (.int .i64 r) ∧ decide (0 ≤ r) = b ∧ Below w.heap.size w w'
theorem any_hit {α : Type} {l : List α} {p : α → Bool} {k : Nat} (hk : k < l.length) (h : p l[k] = true) : l.any p = true := List.any_eq_true.2 ⟨_, List.getElem_mem hk, h⟩
theorem any_miss {α : Type} {l : List α} {p : α → Bool} (h : ∀ j, (hj : j < l.length) → p l[j] = false) : l.any p = false := by
  rw [List.any_eq_false]
  intro x hx
  obtain ⟨j, hj, rfl⟩ := List.mem_iff_getElem.1 hx
  simp [h j hj]

set_option maxRecDepth 100000 in
set_option maxHeartbeats 1000000 in
theorem idxf_s (g : Nat) (lb : Array Value) (eg : ∀ args w, (callFunc g args).run Try.prog w = .ok (.enter g args) w) (w : World) (A : Option Addr) (n c : Nat) (l : List ByteArray) (h : Lst Value.string w A n c l) (p : ByteArray → Bool)
    (hp : ∀ k, (hk : k < l.length) → Answers g lb (.string l[k]) (p l[k]) w) :
    Calls Try.prog 51 #[.slice A n c, .func (.func g) #[] lb] w (GivesI (l.any p) w) := by
  have hn := h.len
  have hlc : n ≤ c := h.1
  have hcm : c ≤ 9223372036854775807 := h.2.1
  have H := Lib.hid h
  have HP := Lib.hid hp
  have HN := Lib.hid hn
  clear h hn hp
  go_enter Try.func51, Try.ntmps51
  go_wp2
  go_loopw [8] (fun i wr => ∃ k : Nat, k ≤ n ∧ i = .int .i64 (k : Int) ∧ Hid (∀ j, j < k → (hj : j < l.length) → p l[j] = false) ∧ Below w.heap.size w wr) (fun i _ => n - (intOf i).toNat)
  case atStart => exact ⟨0, by omega, rfl, Lib.hid fun j hj => absurd hj (by omega), Below.refl _ w⟩
  case round =>
    obtain ⟨k, hk, rfl, HF, hb⟩ := hrel
    have HB := Lib.hid hb
    by_cases hlt : k < n
    · have hkl : k < l.length := by rw [← HN.out]; exact hlt
      obtain ⟨ad, rfl, _, hc⟩ := (H.out.below hb).at_ hkl
      have hcall := HP.out k hkl wr hb
      clear hb
      cases hq : p l[k] with
      | true =>
        have HQ := Lib.hid hq
        rw [hq] at hcall
        have HC := Lib.hid hcall
        clear hcall hq
        go_wp2_with (go_at_fn g; refine HC.out.mono ?_; rintro e w' ⟨rfl, hb'⟩)
        go_ret
        exact ⟨_, rfl, by rw [any_hit hkl HQ.out]; simp, HB.out.trans (hb'.mono HB.out.size)⟩
      | false =>
        have HQ := Lib.hid hq
        rw [hq] at hcall
        have HC := Lib.hid hcall
        clear hcall hq
        go_wp2_with (go_at_fn g; refine HC.out.mono ?_; rintro e w' ⟨rfl, hb'⟩)
        go_roundw
        case rel => exact ⟨k + 1, by omega, by go_num, Lib.hid fun j hj hjl => by
          by_cases e : j = k
          · subst e; exact HQ.out
          · exact HF.out j (by omega) hjl, HB.out.trans (hb'.mono HB.out.size)⟩
        case measure => simp [intOf]; omega
    · clear hb
      go_wp2
      go_ret
      exact ⟨_, rfl, by rw [any_miss fun j hj => HF.out j (by rw [← HN.out] at hj; omega) hj]; rfl, HB.out⟩

set_option maxRecDepth 100000 in
theorem contf_s (g : Nat) (lb : Array Value) (eg : ∀ args w, (callFunc g args).run Try.prog w = .ok (.enter g args) w) (w : World) (A : Option Addr) (n c : Nat) (l : List ByteArray) (h : Lst Value.string w A n c l) (p : ByteArray → Bool)
    (hp : ∀ k, (hk : k < l.length) → Answers g lb (.string l[k]) (p l[k]) w) :
    Calls Try.prog 36 #[.slice A n c, .func (.func g) #[] lb] w fun e w' => e = .returned (.bool (l.any p)) ∧ Below w.heap.size w w' := by
  have H := Lib.hid (idxf_s g lb eg w A n c l h p hp)
  clear h hp
  go_enter Try.func36, Try.ntmps36
  go_wp2_with fail
  refine H.out.mono ?_
  rintro e w' ⟨r, rfl, hr, hb⟩
  have HR := Lib.hid hr
  have HB := Lib.hid hb
  clear hr hb
  go_wp2
  go_ret
  exact ⟨by rw [← HR.out]; rfl, HB.out⟩

/-! slices of shares: two cells to an element -/
def shc (x : Int × ByteArray) : List Value := [.int .i64 x.1, .string x.2]
def Shs (w : World) (A : Option Addr) (n c : Nat) (hv : List (Int × ByteArray)) : Prop := Sl w 2 A n c (hv.flatMap shc)
theorem flat2_len {α : Type} (f : α → List Value) (hf : ∀ x, (f x).length = 2) : ∀ l : List α, (l.flatMap f).length = l.length * 2
  | [] => rfl
  | a :: l => by rw [List.flatMap_cons, List.length_append, hf, flat2_len f hf l, List.length_cons]; omega
theorem flat2_at {α : Type} (f : α → List Value) (hf : ∀ x, (f x).length = 2) : ∀ (l : List α) (k : Nat) (hk : k < l.length) (i : Nat), i < 2 → (l.flatMap f)[k * 2 + i]? = (f l[k])[i]?
  | a :: l, 0, _, i, hi => by
    rw [List.flatMap_cons, List.getElem?_append_left (by rw [hf]; omega)]; simp
  | a :: l, k + 1, hk, i, hi => by
    rw [List.flatMap_cons, List.getElem?_append_right (by rw [hf]; omega), hf, show (k + 1) * 2 + i - 2 = k * 2 + i by omega, flat2_at f hf l k (by simpa using hk) i hi]; simp
section
variable {w w' : World} {A : Option Addr} {n c : Nat} {hv : List (Int × ByteArray)}
theorem Shs.len (h : Shs w A n c hv) : n = hv.length := by have := h.2.2.1; rw [flat2_len shc (fun _ => rfl)] at this; omega
theorem Shs.below (h : Shs w A n c hv) (hb : Below w.heap.size w w') : Shs w' A n c hv := Sl.below h hb
theorem Shs.alloc (h : Shs w A n c hv) (o : Obj) : Shs (w.alloc o) A n c hv := Sl.alloc h o
theorem Shs.at_ (h : Shs w A n c hv) {k : Nat} (hk : k < hv.length) : ∃ ad, A = some ad ∧ ad.block < w.heap.size ∧ w.cell? (ad.add (k * 2)) = some (.int .i64 hv[k].1) ∧ w.cell? ⟨(ad.add (k * 2)).block, (ad.add (k * 2)).off + 1, none⟩ = some (.string hv[k].2) := by
  obtain ⟨ad, e, hb, hc⟩ := h.2.2.2 (by rw [h.len]; omega)
  refine ⟨ad, e, hb, hc _ _ ?_, (congrArg w.cell? (show (⟨(ad.add (k * 2)).block, (ad.add (k * 2)).off + 1, none⟩ : Addr) = ad.add (k * 2 + 1) from (show (ad.add (k * 2)).add 1 = _ from add_plus _ _ _))).trans (hc _ _ ?_)⟩
  · exact (flat2_at shc (fun _ => rfl) hv k hk 0 (by omega)).trans rfl
  · exact (flat2_at shc (fun _ => rfl) hv k hk 1 (by omega)).trans rfl
end
def shv (x : Int × ByteArray) : Value := .agg #[.int .i64 x.1, .string x.2]

set_option maxRecDepth 100000 in
set_option maxHeartbeats 1000000 in
theorem idxf_h (g : Nat) (lb : Array Value) (eg : ∀ args w, (callFunc g args).run Try.prog w = .ok (.enter g args) w) (w : World) (A : Option Addr) (n c : Nat) (l : List (Int × ByteArray)) (h : Shs w A n c l) (p : Int × ByteArray → Bool)
    (hp : ∀ k, (hk : k < l.length) → Answers g lb (shv l[k]) (p l[k]) w) :
    Calls Try.prog 58 #[.slice A n c, .func (.func g) #[] lb] w (GivesI (l.any p) w) := by
  have hn := h.len
  have hlc : n ≤ c := h.1
  have hcm : c ≤ 9223372036854775807 := h.2.1
  have H := Lib.hid h
  have HP := Lib.hid hp
  have HN := Lib.hid hn
  clear h hn hp
  go_enter Try.func58, Try.ntmps58
  go_wp2
  go_loopw [8] (fun i wr => ∃ k : Nat, k ≤ n ∧ i = .int .i64 (k : Int) ∧ Hid (∀ j, j < k → (hj : j < l.length) → p l[j] = false) ∧ Below w.heap.size w wr) (fun i _ => n - (intOf i).toNat)
  case atStart => exact ⟨0, by omega, rfl, Lib.hid fun j hj => absurd hj (by omega), Below.refl _ w⟩
  case round =>
    obtain ⟨k, hk, rfl, HF, hb⟩ := hrel
    have HB := Lib.hid hb
    by_cases hlt : k < n
    · have hkl : k < l.length := by rw [← HN.out]; exact hlt
      obtain ⟨ad, rfl, _, hc, hc2⟩ := (H.out.below hb).at_ hkl
      have hcall := HP.out k hkl wr hb
      clear hb
      cases hq : p l[k] with
      | true =>
        have HQ := Lib.hid hq
        rw [hq] at hcall
        have HC := Lib.hid hcall
        clear hcall hq
        go_wp2_with (go_at_fn g; refine HC.out.mono ?_; rintro e w' ⟨rfl, hb'⟩)
        go_ret
        exact ⟨_, rfl, by rw [any_hit hkl HQ.out]; simp, HB.out.trans (hb'.mono HB.out.size)⟩
      | false =>
        have HQ := Lib.hid hq
        rw [hq] at hcall
        have HC := Lib.hid hcall
        clear hcall hq
        go_wp2_with (go_at_fn g; refine HC.out.mono ?_; rintro e w' ⟨rfl, hb'⟩)
        go_roundw
        case rel => exact ⟨k + 1, by omega, by go_num, Lib.hid fun j hj hjl => by
          by_cases e : j = k
          · subst e; exact HQ.out
          · exact HF.out j (by omega) hjl, HB.out.trans (hb'.mono HB.out.size)⟩
        case measure => simp [intOf]; omega
    · clear hb
      go_wp2
      go_ret
      exact ⟨_, rfl, by rw [any_miss fun j hj => HF.out j (by rw [← HN.out] at hj; omega) hj]; rfl, HB.out⟩

set_option maxRecDepth 100000 in
theorem contf_h (g : Nat) (lb : Array Value) (eg : ∀ args w, (callFunc g args).run Try.prog w = .ok (.enter g args) w) (w : World) (A : Option Addr) (n c : Nat) (l : List (Int × ByteArray)) (h : Shs w A n c l) (p : Int × ByteArray → Bool)
    (hp : ∀ k, (hk : k < l.length) → Answers g lb (shv l[k]) (p l[k]) w) :
    Calls Try.prog 41 #[.slice A n c, .func (.func g) #[] lb] w fun e w' => e = .returned (.bool (l.any p)) ∧ Below w.heap.size w w' := by
  have H := Lib.hid (idxf_h g lb eg w A n c l h p hp)
  clear h hp
  go_enter Try.func41, Try.ntmps41
  go_wp2_with fail
  refine H.out.mono ?_
  rintro e w' ⟨r, rfl, hr, hb⟩
  have HR := Lib.hid hr
  have HB := Lib.hid hb
  clear hr hb
  go_wp2
  go_ret
  exact ⟨by rw [← HR.out]; rfl, HB.out⟩

set_option maxRecDepth 100000 in
set_option maxHeartbeats 1000000 in
/-- slices.Contains on bytes -/
theorem idx_b (w : World) (A : Option Addr) (n c : Nat) (l : List UInt8) (h : Byt w A n c l) (x : UInt8) :
    Calls Try.prog 59 #[.slice A n c, .int .u8 (x.toNat : Int)] w fun e w' => (∃ r : Int, e = .returned (.int .i64 r) ∧ decide (0 ≤ r) = decide (x ∈ l)) ∧ w = w' := by
  have hn := h.len
  have hlc : n ≤ c := h.1
  have hcm : c ≤ 9223372036854775807 := h.2.1
  have H := Lib.hid h
  have HN := Lib.hid hn
  clear h hn
  go_enter Try.func59, Try.ntmps59
  go_wp2
  go_loop [8] (fun i => ∃ k : Nat, k ≤ n ∧ i = .int .i64 (k : Int) ∧ Hid (x ∉ l.take k)) (fun i => n - (intOf i).toNat)
  case atStart => exact ⟨0, by omega, rfl, Lib.hid (by simp)⟩
  case round =>
    obtain ⟨k, hk, rfl, HF⟩ := hrel
    by_cases hlt : k < n
    · have hkl : k < l.length := by rw [← HN.out]; exact hlt
      obtain ⟨ad, rfl, _, hc⟩ := H.out.at_ hkl
      cases hq : ((x.toNat : Int) == (l[k].toNat : Int)) with
      | true =>
        have HQ := Lib.hid (show x = l[k] from UInt8.toNat_inj.1 (by have := eq_of_beq hq; omega))
        go_wp2
        go_ret
        exact ⟨⟨_, rfl, by rw [HQ.out]; simp⟩, rfl⟩
      | false =>
        have HQ := Lib.hid (show x ≠ l[k] from fun e => by rw [e] at hq; simp at hq)
        go_wp2
        go_round
        case rel => exact ⟨k + 1, by omega, by go_num, Lib.hid (by rw [List.take_succ_eq_append_getElem hkl]; exact fun hm => (List.mem_append.1 hm).elim HF.out fun h1 => HQ.out (List.mem_singleton.1 h1))⟩
        case measure => simp [intOf]; omega
    · have hkn : n ≤ k := by omega
      go_wp2
      go_ret
      refine ⟨⟨_, rfl, ?_⟩, rfl⟩
      have h7 := HF.out
      rw [List.take_of_length_le (by rw [← HN.out]; exact hkn)] at h7
      simp [h7]

set_option maxRecDepth 100000 in
theorem cont_b (w : World) (A : Option Addr) (n c : Nat) (l : List UInt8) (h : Byt w A n c l) (x : UInt8) :
    Calls Try.prog 44 #[.slice A n c, .int .u8 (x.toNat : Int)] w fun e w' => e = .returned (.bool (decide (x ∈ l))) ∧ w' = w := by
  have H := Lib.hid (idx_b w A n c l h x)
  clear h
  go_enter Try.func44, Try.ntmps44
  go_wp2_with fail
  refine H.out.mono ?_
  rintro e w' ⟨⟨r, rfl, hr⟩, rfl⟩
  have HR := Lib.hid hr
  clear hr
  go_wp2
  go_ret
  exact ⟨by rw [← HR.out]; rfl, rfl⟩

end Go.Proofs.Ytogcgeiocndlbaa
