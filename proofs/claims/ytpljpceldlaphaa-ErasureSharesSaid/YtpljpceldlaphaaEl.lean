/- Walks: the exclusive or of two strings; all blocks of a stripe as shares; the shares that a bit set selects. -/
import Derived.Test.YtpljpceldlaphaaEk
namespace Go.Proofs.Ytpljpceldlaphaa
open Go.RowKit

def xorL (a b : List UInt8) : List UInt8 := List.zipWith Gf.ga a b
theorem xorL_succ {a b : List UInt8} {k : Nat} (h : k < a.length) (h' : k < b.length) : (xorL a b).take (k + 1) = (xorL a b).take k ++ [Gf.ga a[k] b[k]] := by
  have hk : k < (xorL a b).length := by unfold xorL; rw [List.length_zipWith]; omega
  rw [List.take_succ_eq_append_getElem hk, show (xorL a b)[k] = Gf.ga a[k] b[k] from List.getElem_zipWith]

set_option maxRecDepth 100000 in
set_option maxHeartbeats 1000000 in
theorem rxor_b (s t : ByteArray) (w : World) (hs : s.size ≤ 65536) (ht : t.size ≤ 65536) : Calls Try.prog 17 #[.string s, .string t] w fun e w' => e = .returned (.string (ofL (xorL (bl s) (bl t)))) ∧ Below w.heap.size w w' := by
  have hxl : (xorL (bl s) (bl t)).length = min s.size t.size := by unfold xorL; rw [List.length_zipWith, bl_length, bl_length]
  have HL := Lib.hid hxl
  clear hxl
  go_enter Try.func17, Try.ntmps17
  go_wp2
  go_loopw [5, 6] (fun vo i wr => ∃ k : Nat, k ≤ s.size ∧ k ≤ t.size ∧ i = .int .i64 (k : Int) ∧ wr.ownsRow w.heap.size 5 1 vo k (bv ((xorL (bl s) (bl t)).take k)) ∧ Below w.heap.size w wr) (fun _ i _ => s.size - (intOf i).toNat)
  case atStart => exact ⟨0, by omega, by omega, rfl, World.ownsRow_lit w #[] 0 (Nat.le_refl _) (Nat.zero_le _) rfl, (Below.refl _ w).alloc (Nat.le_refl _) _⟩
  case round =>
    obtain ⟨k, hk, hk', rfl, hown, hb⟩ := hrel
    have HO := Lib.hid hown
    have HB := Lib.hid hb
    have hbs := hb.size
    clear hown hb
    by_cases h1 : k < s.size
    · by_cases h2 : k < t.size
      · have hx1 := xor_b s[k] t[k]
        have hk1 : k + 1 ≤ maxLen := by unfold maxLen; omega
        have hk2 : (k + 1) * 1 ≤ 140737488355328 := by omega
        have HS := Lib.hid (show (xorL (bl s) (bl t)).take (k + 1) = (xorL (bl s) (bl t)).take k ++ [Gf.ga s[k] t[k]] from xorL_succ (a := bl s) (b := bl t) (by rw [bl_length]; exact h1) (by rw [bl_length]; exact h2))
        go_wp2
        go_region_held3 (fun _ => True) (exact trivial) ((refine step_push ty_u8 (by rfl) _ _ (by rfl) w.heap.size u5 k (bv ((xorL (bl s) (bl t)).take k)) (by rfl) (own_alloc (show wr.drew.ownsRow _ _ _ _ _ _ from HO.out) _) _ (B (Gf.ga s[k] t[k])) (by rfl) (Blk.new _ _ _) rfl (Nat.le_trans hbs (Below.alloc (Below.refl _ wr.drew) (Nat.le_refl _) _).size) hk1 hk2 ?_; intro v' w8 hown8 hgrow _))
        all_goals
          go_wp2
          go_roundw
          case rel => exact ⟨k + 1, by omega, by omega, by go_num, by rw [HS.out, bv_append]; exact hown8, push_below HB.out.drew hbs (show wr.drew.ownsRow _ _ _ _ _ _ from HO.out) hgrow⟩
          case measure => simp [intOf]; omega
      · have hge : t.size ≤ k := by omega
        obtain ⟨A, c, rfl, hy, _⟩ : ∃ A c, u5 = .slice A k c ∧ Byt wr A k c ((xorL (bl s) (bl t)).take k) ∧ True := by
          obtain ⟨A, c, h3, h4, _⟩ := byt_own HO.out
          exact ⟨A, c, h3, h4, trivial⟩
        have hcv := run_conv_byt (P := Try.prog) hy 45 5 9 Try.underlying45 Try.underlying5 Try.underlying9
        rw [List.take_of_length_le (by rw [HL.out]; omega)] at hcv
        clear hy
        go_wp2
        go_ret
        exact ⟨rfl, HB.out⟩
    · have hge : s.size ≤ k := by omega
      obtain ⟨A, c, rfl, hy, _⟩ : ∃ A c, u5 = .slice A k c ∧ Byt wr A k c ((xorL (bl s) (bl t)).take k) ∧ True := by
        obtain ⟨A, c, h3, h4, _⟩ := byt_own HO.out
        exact ⟨A, c, h3, h4, trivial⟩
      have hcv := run_conv_byt (P := Try.prog) hy 45 5 9 Try.underlying45 Try.underlying5 Try.underlying9
      rw [List.take_of_length_le (by rw [HL.out]; omega)] at hcv
      clear hy
      go_wp2
      go_ret
      exact ⟨rfl, HB.out⟩

/-- what the model's tables say of a slice type t whose elements fill 'size' cells -/
structure ElTy (P : Program) (t e : TypeId) (z : Value) (size bytes : Nat) : Prop where
  ht : P.underlying t = some (.slice e)
  hi : ∃ i, P.info? e = some i ∧ i.zero = some z ∧ i.size = size ∧ i.bytes = bytes
  hz : z.cells.size = size
  hp : 0 < size
/-- append(s, y): one element of some cells, laid in a block of its own first -/
theorem wpl_pushN {P : Program} {t e : TypeId} {z : Value} {size bytes : Nat} (T : ElTy P t e z size bytes) {w : World} {ops : Array Oper} {rest : List Oper} {o : Oper} {a : Act} {Q : Exit → Act → World → Prop} (hgd : o.guard = none) (s x : Operand)
    (ho : o.op = .call { callee := .builtin .append, args := #[s, x], argTypes := #[t, t] })
    (base : Nat) (v : Value) (n : Nat) (xs : List Value) (hs : a.eval s = v) (hown : w.ownsRow base e size v n xs)
    (g : Nat) (ys : List Value) (hl : ys.length = size) (hx : a.eval x = .slice (some ⟨g, 0, none⟩) 1 1) (hblk : Blk w g e ys.toArray) (hy : ∀ y ∈ ys, y.oneCell' = true) (hbase : base ≤ w.heap.size) (h63 : n + 1 ≤ maxLen) (hbytes : (n + 1) * bytes ≤ 140737488355328)
    (h : ∀ v' w', w'.ownsRow base e size v' (n + 1) (xs ++ ys) → w.grownBy w' v.ownBlock → (v'.ownBlock = v.ownBlock ∨ v'.ownBlock = some w.heap.size) → wpList P ops Q rest (a.put o.dst v') w') : wpList P ops Q (o :: rest) a w := by
  obtain ⟨i, hi, hz, h1, hb⟩ := T.hi
  refine wpl_append_sl w hgd s x t ho base e i z size bytes T.ht hi hz h1 hb T.hz T.hp v n xs hs hown (some ⟨g, 0, none⟩) 1 1 ys hx ?_ hy h63 hbytes hbase h
  have := Blk.sl (size := size) (n := 1) hblk (by simp [hl]) (by unfold maxLen; omega)
  simpa using this
theorem info_shr : (Try.prog.info? 39).map (fun i => (i.zero, i.size, i.bytes)) = some (some (.agg #[.int .i64 0, .string ⟨#[]⟩]), 2, 24) := by kernel_rfl
theorem ty_shr : ElTy Try.prog 34 39 (.agg #[.int .i64 0, .string ⟨#[]⟩]) 2 24 := ⟨Try.underlying34, info_parts info_shr, rfl, by omega⟩
theorem shs_own {w : World} {base n : Nat} {e : TypeId} {v : Value} {hv : List (Int × ByteArray)} (h : w.ownsRow base e 2 v n (hv.flatMap shc)) : ∃ A c, v = .slice A n c ∧ Shs w A n c hv ∧ ∀ ad, A = some ad → base ≤ ad.block := own_form h
/-- what a call that hands back shares of its own leaves -/
def GivesH (w : World) (l : List (Int × ByteArray)) (en : Ending) (w' : World) : Prop := ∃ v, en = .returned v ∧ w'.ownsRow w.heap.size 39 2 v l.length (l.flatMap shc) ∧ Below w.heap.size w w'

/-- all blocks as shares -/
def shA (a : List ByteArray) (o k : Nat) : List (Int × ByteArray) := (List.range k).map fun i => (((o + i : Nat) : Int), a.getD i default)
def shsL (a b : List ByteArray) : List (Int × ByteArray) := shA a 0 a.length ++ shA b a.length b.length
theorem shA_succ {a : List ByteArray} {o k : Nat} (h : k < a.length) : shA a o (k + 1) = shA a o k ++ [(((o + k : Nat) : Int), a[k])] := by
  simp [shA, List.range_succ, List.getD, List.getElem?_eq_getElem h]
theorem shA_len (a : List ByteArray) (o k : Nat) : (shA a o k).length = k := by simp [shA]
theorem flat_snoc (l : List (Int × ByteArray)) (x : Int × ByteArray) : (l ++ [x]).flatMap shc = l.flatMap shc ++ [.int .i64 x.1, .string x.2] := by
  rw [List.flatMap_append]; simp [shc]

set_option maxRecDepth 100000 in
set_option maxHeartbeats 1000000 in
theorem shares_b (w : World) (A : Option Addr) (n c : Nat) (a : List ByteArray) (h : Lst Value.string w A n c a) (A' : Option Addr) (n' c' : Nat) (b : List ByteArray) (h' : Lst Value.string w A' n' c' b) (ha : a.length ≤ 4096) (hb : b.length ≤ 4096) :
    Calls Try.prog 31 #[.slice A n c, .slice A' n' c'] w (GivesH w (shsL a b)) := by
  have hn := h.len
  have hlc : n ≤ c := h.1
  have hcm : c ≤ 9223372036854775807 := h.2.1
  have hn' := h'.len
  have hlc' : n' ≤ c' := h'.1
  have hcm' : c' ≤ 9223372036854775807 := h'.2.1
  have H := Lib.hid h
  have H' := Lib.hid h'
  have HN := Lib.hid hn
  have HN' := Lib.hid hn'
  have hna : n ≤ 4096 := by omega
  have hnb : n' ≤ 4096 := by omega
  clear h h' hn hn' ha hb
  go_enter Try.func31, Try.ntmps31
  go_wp2
  go_loopw [5, 6] (fun vo i wr => ∃ k : Nat, k ≤ n ∧ i = .int .i64 (k : Int) ∧ wr.ownsRow w.heap.size 39 2 vo k ((shA a 0 k).flatMap shc) ∧ Below w.heap.size w wr) (fun _ i _ => n - (intOf i).toNat)
  case atStart => exact ⟨0, by omega, rfl, World.ownsRow_lit w #[] 0 (Nat.le_refl _) (Nat.zero_le _) rfl, (Below.refl _ w).alloc (Nat.le_refl _) _⟩
  case round =>
    obtain ⟨k, hk, rfl, hown, hb⟩ := hrel
    have HO := Lib.hid hown
    have HB := Lib.hid hb
    have HX := Lib.hid (H.out.below hb)
    have hbs := hb.size
    clear hown hb
    by_cases hlt : k < n
    · have hkl : k < a.length := by rw [← HN.out]; exact hlt
      obtain ⟨ad, rfl, _, hc⟩ := HX.out.at_ hkl
      have HS := Lib.hid (shA_succ (o := 0) hkl)
      go_wp2_with (at_builtin; refine wpl_pushN ty_shr rfl _ _ rfl w.heap.size u5 k ((shA a 0 k).flatMap shc) rfl (HO.out.alloc _) _ [.int .i64 (k : Int), .string a[k]] rfl rfl (Blk.new _ _ _) (by simp [Value.oneCell']) (by simp; omega) (by unfold maxLen; omega) (by omega) ?_; intro v' w8 hown8 hgrow _)
      go_roundw
      case rel => exact ⟨k + 1, by omega, by go_num, by rw [HS.out, flat_snoc]; simpa using hown8, push_below HB.out hbs HO.out hgrow⟩
      case measure => simp [intOf]; omega
    · have hkn : k = n := by omega
      have HK := Lib.hid hkn
      have hge : n ≤ k := by omega
      have HO2 := Lib.hid (show wr.ownsRow w.heap.size 39 2 u5 (n + 0) ((shA a 0 a.length ++ shA b a.length 0).flatMap shc) by
        have h7 := HO.out
        rw [hkn] at h7
        rw [← HN.out]
        simpa [shA] using h7)
      clear hkn
      go_wp2
      go_loopw [5, 7] (fun vo i wq => ∃ j : Nat, j ≤ n' ∧ i = .int .i64 (j : Int) ∧ wq.ownsRow w.heap.size 39 2 vo (n + j) ((shA a 0 a.length ++ shA b a.length j).flatMap shc) ∧ Below w.heap.size w wq) (fun _ i _ => n' - (intOf i).toNat)
      case atStart => exact ⟨0, by omega, rfl, HO2.out, HB.out⟩
      case round =>
        obtain ⟨j, hj, rfl, hown, hb⟩ := hrel
        have HO3 := Lib.hid hown
        have HB3 := Lib.hid hb
        have HX3 := Lib.hid (H'.out.below hb)
        have hbs3 := hb.size
        clear hown hb
        by_cases hlt2 : j < n'
        · have hjl : j < b.length := by rw [← HN'.out]; exact hlt2
          obtain ⟨ad, rfl, _, hc⟩ := HX3.out.at_ hjl
          have HS := Lib.hid (shA_succ (o := a.length) hjl)
          go_wp2_with (at_builtin; refine wpl_pushN ty_shr rfl _ _ rfl w.heap.size u5 (n + j) ((shA a 0 a.length ++ shA b a.length j).flatMap shc) rfl (HO3.out.alloc _) _ [.int .i64 ((n : Int) + (j : Int)), .string b[j]] rfl rfl (Blk.new _ _ _) (by simp [Value.oneCell']) (by simp; omega) (by unfold maxLen; omega) (by omega) ?_; intro v' w8 hown8 hgrow _)
          go_roundw
          case rel => exact ⟨j + 1, by omega, by go_num, by rw [HS.out, ← List.append_assoc, flat_snoc, ← HN.out]; rw [← HN.out] at hown8; simpa [Nat.add_assoc] using hown8, push_below HB3.out hbs3 HO3.out hgrow⟩
          case measure => simp [intOf]; omega
        · have HJ := Lib.hid (show j = b.length by rw [← HN'.out]; omega)
          go_wp2
          go_ret
          refine ⟨_, rfl, ?_, HB3.out⟩
          have h7 := HO3.out
          rw [HJ.out] at h7
          unfold shsL
          rw [List.length_append, shA_len, shA_len, ← HN.out]
          rw [← HN.out] at h7
          exact h7

end Go.Proofs.Ytpljpceldlaphaa
