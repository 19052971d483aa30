/- Reconcile: slices.Clone and slices.Insert of records. -/
import Derived.Test.YtnllocghmnhooaaDoorUd
namespace Go.Proofs.YtnllocghmnhooaaDoor
open Go.RowKit
set_option linter.unusedVariables false
set_option linter.unusedSimpArgs false
namespace Rc
open Bk (bl bl_len bl_ofL ofL_bl ofL_size ofL_append)

theorem add_plain' (g o j : Nat) : (⟨g, o, none⟩ : Addr).add j = ⟨g, o + j, none⟩ := by unfold Addr.add; split <;> simp_all
theorem Rcs.sl {W : World} {A : Option Addr} {c : Nat} {l : List Rec} (h : Rcs W A c l) : Sl W 3 A l.length c (rvs l) := by
  refine ⟨h.le, h.max, rvs_len l, fun h0 => ?_⟩
  obtain ⟨g, o, e, hlt, hat⟩ := h.mem h0
  refine ⟨_, e, hlt, fun j u hu => ?_⟩
  have hj : j < l.length * 3 := by
    have := (List.getElem?_eq_some_iff.1 hu).1
    rwa [rvs_len] at this
  have hk : j / 3 < l.length := by omega
  obtain ⟨h1, h2, h3⟩ := rvs_get l (j / 3) hk
  obtain ⟨k1, k2, k3⟩ := hat (j / 3) hk
  rw [add_plain']
  have hm : j % 3 < 3 := Nat.mod_lt j (by omega)
  rcases (show j % 3 = 0 ∨ j % 3 = 1 ∨ j % 3 = 2 by omega) with e | e | e
  · rw [show j = j / 3 * 3 by omega] at hu
    rw [h1] at hu
    rw [show o + j = o + j / 3 * 3 by omega, k1, hu]
  · rw [show j = j / 3 * 3 + 1 by omega] at hu
    rw [h2] at hu
    rw [show o + j = o + j / 3 * 3 + 1 by omega, k2, hu]
  · rw [show j = j / 3 * 3 + 2 by omega] at hu
    rw [h3] at hu
    rw [show o + j = o + j / 3 * 3 + 2 by omega, k3, hu]
theorem info_rec : (Tryd.prog.info? 42).map (fun i => (i.zero, i.size, i.bytes)) = some (some (.agg #[.int .u32 0, .int .i64 0, .string ⟨#[]⟩]), 3, 32) := by kernel_rfl
theorem info_parts' : ∃ i, Tryd.prog.info? 42 = some i ∧ i.zero = some (.agg #[.int .u32 0, .int .i64 0, .string ⟨#[]⟩]) ∧ i.size = 3 ∧ i.bytes = 32 := by
  have h := info_rec
  cases e : Tryd.prog.info? 42 with
  | none => rw [e] at h; cases h
  | some i =>
    rw [e] at h
    simp only [Option.map_some, Option.some.injEq, Prod.mk.injEq] at h
    exact ⟨i, rfl, h.1, h.2.1, h.2.2⟩
/-- a row of the call's own that holds the records l -/
def Own (W : World) (B : Nat) (v : Value) (l : List Rec) : Prop := W.ownsRow B 42 3 v l.length (rvs l)
set_option maxRecDepth 100000 in
set_option maxHeartbeats 1000000 in
theorem clone_f (l : List Rec) (w : World) (A : Option Addr) (c : Nat) (h : Rcs w A c l) (hl : l.length ≤ 1000000) :
    Calls Tryd.prog 36 #[.slice A l.length c] w fun e w' => ∃ v, e = .returned v ∧ Own w' w.heap.size v l ∧ Below w.heap.size w w' := by
  obtain ⟨i0, hi, hz0, hz1, hz2⟩ := info_parts'
  have HS := Lib.hid h.sl
  cases A with
  | none =>
    have hc : c = 0 := h.some_ rfl
    have h0 : l = [] := by
      have h1 := h.le
      have h2 : l.length = 0 := by omega
      exact List.eq_nil_of_length_eq_zero h2
    subst h0
    subst hc
    have hq : (binOp .eql 25 (.slice none 0 0) (.slice none 0 0)).run Tryd.prog w = .ok (.bool true) w := run_eql_nil w 25 42 none 0 0 Tryd.underlying25
    show Calls Tryd.prog 36 #[.slice none 0 0] w _
    clear h
    go_enter Tryd.func36, Tryd.ntmps36
    go_wp2_with fail
    go_ret
    exact ⟨_, rfl, ⟨rfl, Or.inl ⟨rfl, rfl⟩⟩, Below.refl _ _⟩
  | some ad =>
    have hq : (binOp .eql 25 (.slice (some ad) l.length c) (.slice none 0 0)).run Tryd.prog w = .ok (.bool false) w := run_eql_nil w 25 42 (some ad) l.length c Tryd.underlying25
    obtain ⟨n, hn⟩ : ∃ n, n = l.length := ⟨_, rfl⟩
    rw [← hn] at hl hq ⊢
    have HN := Lib.hid hn
    clear hn h
    go_enter Tryd.func36, Tryd.ntmps36
    have HO := Lib.hid (show (w.alloc (.cells #[] 42)).ownsRow w.heap.size 42 3 (.slice (some ⟨w.heap.size, 0, none⟩) 0 0) 0 [] from Blk.own (n := 0) (size := 3) (Blk.new w 42 #[]) (Nat.le_refl _) rfl (by unfold maxLen; omega))
    have HS2 := Lib.hid (show Sl (w.alloc (.cells #[] 42)) 3 (some ad) n c (rvs l) by rw [HN.out]; exact HS.out.alloc _)
    go_wp2_with (at_builtin; refine wpl_append_sl _ rfl _ _ _ rfl w.heap.size 42 i0 (.agg #[.int .u32 0, .int .i64 0, .string ⟨#[]⟩]) 3 32 Tryd.underlying25 hi hz0 hz1 hz2 rfl (by decide) _ 0 [] rfl HO.out (some ad) n c (rvs l) rfl HS2.out (rvs_one l) (by unfold maxLen; omega) (by omega) (by rw [asz]; omega) ?_; intro v' w8 hown hgrow _)
    have HO9 := Lib.hid (show Own w8 w.heap.size v' l by unfold Own; rw [← HN.out]; rw [Nat.zero_add, List.nil_append] at hown; exact hown)
    have HB9 := Lib.hid (show Below w.heap.size w w8 from ((Below.refl _ w).alloc (Nat.le_refl _) _).grown hgrow (by rw [asz]; omega) (fun j e => (HO.out.lt j e).1))
    clear hown hgrow
    go_wp2_with fail
    go_ret
    exact ⟨_, rfl, HO9.out, HB9.out⟩
end Rc
end Go.Proofs.YtnllocghmnhooaaDoor
