/- The law ErasureLinear of stelelaw15 returns true for every input, and the arguments read behind the call as they read before. No conditions. -/
import Derived.Test.YtpljpceldlaphaaEu
namespace Go.Proofs.Ytpljpceldlaphaa
namespace ErasureLinear
open Go.RowKit

set_option maxRecDepth 100000 in
set_option maxHeartbeats 4000000 in
theorem core (w : World) (A : Option Addr) (n c : Nat) (a : List ByteArray) (h : Lst Value.string w A n c a) (A' : Option Addr) (n' c' : Nat) (b : List ByteArray) (h' : Lst Value.string w A' n' c' b) (s : Nat) (hs : s < 256) :
    Calls Try.prog 4 #[.slice A n c, .slice A' n' c', .int .u8 (s : Int)] w fun e w' => e = .returned (.bool true) ∧ Below w.heap.size w w' := by
  have hsp : s % 8 ≤ 7 := by omega
  have hsc : (s : Int) % 8 = ((s % 8 : Nat) : Int) := by omega
  have HSP := Lib.hid hsp
  have HSC := Lib.hid hsc
  have HCA := Lib.hid (even_b w A n c a h)
  have HA' := Lib.hid h'
  obtain ⟨X, hX⟩ : ∃ X, X = evn a := ⟨_, rfl⟩
  obtain ⟨Y, hY⟩ : ∃ Y, Y = evn b := ⟨_, rfl⟩
  obtain ⟨nx, hnx⟩ : ∃ nx, nx = X.length := ⟨_, rfl⟩
  obtain ⟨ny, hny⟩ : ∃ ny, ny = Y.length := ⟨_, rfl⟩
  obtain ⟨lx, hlx⟩ : ∃ lx, lx = evL a := ⟨_, rfl⟩
  obtain ⟨ly, hly⟩ : ∃ ly, ly = evL b := ⟨_, rfl⟩
  have hbx := evn_bound a
  have hby := evn_bound b
  have hlx4 := evL_le a
  have hly4 := evL_le b
  have HSX := Lib.hid (show ∀ t ∈ X, t.size = lx by rw [hX, hlx]; exact evn_size a)
  have HSY := Lib.hid (show ∀ t ∈ Y, t.size = ly by rw [hY, hly]; exact evn_size b)
  rw [← hX, ← hnx] at hbx
  rw [← hY, ← hny] at hby
  rw [← hlx] at hlx4
  rw [← hly] at hly4
  obtain ⟨N, hN⟩ : ∃ N, N = min nx ny := ⟨_, rfl⟩
  obtain ⟨k, hk⟩ : ∃ k, k = min lx ly := ⟨_, rfl⟩
  have HX := Lib.hid hX
  have HY := Lib.hid hY
  have HNX := Lib.hid hnx
  have HNY := Lib.hid hny
  have hNx : N ≤ nx := by omega
  have hNy : N ≤ ny := by omega
  have hN1 : 1 ≤ N := by omega
  have hkx : k ≤ lx := by omega
  have hky : k ≤ ly := by omega
  have hmi1 : min (nx : Int) (ny : Int) = (N : Int) := by omega
  have hmi2 : min (lx : Int) (ly : Int) = (k : Int) := by omega
  have HKX := Lib.hid (show ∀ t ∈ X, k ≤ t.size from fun t ht => by rw [HSX.out t ht]; exact hkx)
  have HKY := Lib.hid (show ∀ t ∈ Y, k ≤ t.size from fun t ht => by rw [HSY.out t ht]; exact hky)
  have HCX := Lib.hid (cutL_size (i := N) HKX.out)
  have HCY := Lib.hid (cutL_size (i := N) HKY.out)
  have HLX := Lib.hid (cutL_len X k (i := N) (by rw [← hnx]; exact hNx))
  have HLY := Lib.hid (cutL_len Y k (i := N) (by rw [← hny]; exact hNy))
  clear h h' hsp hsc hX hY hnx hny hlx hly hN hk
  go_enter Try.func4, Try.ntmps4
  go_wp2_with fail
  refine HCA.out.mono ?_
  rintro e w1 ⟨v1, rfl, ho1, hb1⟩
  rw [← HX.out, ← HNX.out] at ho1
  obtain ⟨gx, cx, rfl, hgx, hgx'⟩ := ho1.form (by omega)
  have HO1 := Lib.hid ho1
  have HB1 := Lib.hid hb1
  have HCB := Lib.hid (even_b w1 A' n' c' b (HA'.out.below hb1))
  clear ho1 hb1
  go_wp2_with fail
  refine HCB.out.mono ?_
  rintro e w2 ⟨v2, rfl, ho2, hb2⟩
  rw [← HY.out, ← HNY.out] at ho2
  obtain ⟨gy, cy, rfl, hgy, hgy'⟩ := ho2.form (by omega)
  have HO2 := Lib.hid ho2
  have HO12 := Lib.hid (own_below HO1.out hb2)
  have HB2 := Lib.hid (HB1.out.trans (hb2.mono HB1.out.size))
  have hgne : gx < gy := by omega
  have hx0 : w2.cell? ⟨gx, 0, none⟩ = some (.string (X[0]'(by rw [← HNX.out]; omega))) := by rw [HO12.out.cellAt 0 (by omega), List.getElem?_map, List.getElem?_eq_getElem]; rfl
  have hy0 : w2.cell? ⟨gy, 0, none⟩ = some (.string (Y[0]'(by rw [← HNY.out]; omega))) := by rw [HO2.out.cellAt 0 (by omega), List.getElem?_map, List.getElem?_eq_getElem]; rfl
  clear ho2 hb2
  have hcx : nx ≤ cx ∧ cx ≤ 9223372036854775807 := (own_form HO12.out).elim fun A h => h.elim fun c h => by have e := h.1; injection e with _ _ e3; subst e3; exact ⟨h.2.1.1, h.2.1.2.1⟩
  have hcy : ny ≤ cy ∧ cy ≤ 9223372036854775807 := (own_form HO2.out).elim fun A h => h.elim fun c h => by have e := h.1; injection e with _ _ e3; subst e3; exact ⟨h.2.1.1, h.2.1.2.1⟩
  obtain ⟨hcx1, hcx2⟩ := hcx
  obtain ⟨hcy1, hcy2⟩ := hcy
  have hsx0 : ((X[0]'(by rw [← HNX.out]; omega)).size : Int) = (lx : Int) := by rw [HSX.out _ (List.getElem_mem _)]
  have hsy0 : ((Y[0]'(by rw [← HNY.out]; omega)).size : Int) = (ly : Int) := by rw [HSY.out _ (List.getElem_mem _)]
  go_wp2
  go_quiet (fail)
  clear hx0 hy0 hsx0 hsy0
  go_wp2
  go_loopw [11, 12] (fun vz i wr => ∃ j : Nat, j ≤ N ∧ i = .int .i64 (j : Int) ∧ wr.ownsRow w.heap.size 9 1 (.slice (some ⟨gx, 0, none⟩) nx cx) nx ((trL X k j).map Value.string) ∧ wr.ownsRow w1.heap.size 9 1 (.slice (some ⟨gy, 0, none⟩) ny cy) ny ((trL Y k j).map Value.string) ∧
    wr.ownsRow w2.heap.size 9 1 vz j ((xorS (cutL X k j) (cutL Y k j)).map Value.string) ∧ Below w.heap.size w wr ∧ w2.heap.size ≤ wr.heap.size) (fun _ i _ => N - (intOf i).toNat)
  case atStart => exact ⟨0, by omega, rfl, by rw [trL_zero]; exact own_alloc HO12.out _, by rw [trL_zero]; exact own_alloc HO2.out _, World.ownsRow_lit _ #[] 0 (Nat.le_refl _) (Nat.zero_le _) rfl, (below_drewN HB2.out _).alloc HB2.out.size _, by simp⟩
  case round =>
    obtain ⟨j, hj, rfl, hox, hoy, hoz, hb, hz⟩ := hrel
    have HOX := Lib.hid hox
    have HOY := Lib.hid hoy
    have HOZ := Lib.hid hoz
    have HB := Lib.hid hb
    clear hox hoy hoz hb
    by_cases hlt : j < N
    · have hjx : j < X.length := by rw [← HNX.out]; omega
      have hjy : j < Y.length := by rw [← HNY.out]; omega
      have hxs : k ≤ X[j].size := HKX.out _ (List.getElem_mem hjx)
      have hys : k ≤ Y[j].size := HKY.out _ (List.getElem_mem hjy)
      have hcx0 : wr.drew.cell? ⟨gx, j, none⟩ = some (.string X[j]) := by
        have := HOX.out.cellAt j (by omega)
        rw [List.getElem?_map, List.getElem?_eq_getElem (show j < (trL X k j).length by rw [trL_len _ _ (by omega)]; exact hjx), trL_at hjx] at this
        exact this
      have hcy0 : wr.drew.cell? ⟨gy, j, none⟩ = some (.string Y[j]) := by
        have := HOY.out.cellAt j (by omega)
        rw [List.getElem?_map, List.getElem?_eq_getElem (show j < (trL Y k j).length by rw [trL_len _ _ (by omega)]; exact hjy), trL_at hjy] at this
        exact this
      have hfx0 : wr.drew.frozen? ⟨gx, j, none⟩ = false := HOX.out.frozenAt j
      have hfy0 : wr.drew.frozen? ⟨gy, j, none⟩ = false := HOY.out.frozenAt j
      have hS0 := And.intro hcx0 hcy0
      have hnxy : gx ≠ gy := by omega
      have hne1 : (Value.slice (some ⟨gy, 0, none⟩) ny cy).ownBlock ≠ some gx := fun e => by have e2 : some gy = some gx := e; injection e2 with e2; omega
      have HY1 := Lib.hid (ownsRow_setCell_other HOY.out (a := ⟨gx, j, none⟩) hne1 (.string (X[j].extract 0 k)))
      have hcy1 : (wr.setCell ⟨gx, j, none⟩ (.string (X[j].extract 0 k))).cell? ⟨gy, j, none⟩ = some (.string Y[j]) := by
        have := HY1.out.cellAt j (by omega)
        rw [List.getElem?_map, List.getElem?_eq_getElem (show j < (trL Y k j).length by rw [trL_len _ _ (by omega)]; exact hjy), trL_at hjy] at this
        exact this
      have hfy1 : (wr.setCell ⟨gx, j, none⟩ (.string (X[j].extract 0 k))).frozen? ⟨gy, j, none⟩ = false := HY1.out.frozenAt j
      have hjn : j < nx := by omega
      have hjm : j < ny := by omega
      go_wp2
      refine wp_region_noPanic ?_
      refine wp_region_X (fun W => W.cell? ⟨gx, j, none⟩ = some (.string X[j]) ∧ W.cell? ⟨gy, j, none⟩ = some (.string Y[j])) 17 (by kernel_rfl) ?_
      show wpAnyX _ _ _ _ _ _ 20 _ _ _
      refine wpAnyX_pure (i := 0) (v := ?_) rfl (by kernel_rfl) (by kernel_rfl) (by kernel_rfl) (by kernel_rfl) (by kernel_rfl) (fun _ _ _ h => h) (Or.inl ⟨by rfl, ?_⟩) (fun _ => by exact hS0) ?_
      rotate_left
      · intro w hSw; (try dsimp only at hSw); go_simp; (try with_reducible rfl)
      try simp only [List.getElem_toArray, List.getElem_cons_zero, List.getElem_cons_succ, Act.put, List.setIfInBounds_toArray, List.set_cons_zero, List.set_cons_succ]
      refine wpAnyX_pure (i := 1) (v := ?_) rfl (by kernel_rfl) (by kernel_rfl) (by kernel_rfl) (by kernel_rfl) (by kernel_rfl) (fun _ _ _ h => h) (Or.inl ⟨by rfl, ?_⟩) (fun _ => by exact hS0) ?_
      rotate_left
      · intro w hSw; (try dsimp only at hSw); go_simp; (try with_reducible rfl)
      try simp only [List.getElem_toArray, List.getElem_cons_zero, List.getElem_cons_succ, Act.put, List.setIfInBounds_toArray, List.set_cons_zero, List.set_cons_succ]
      refine wpAnyX_pure (i := 2) (v := ?_) rfl (by kernel_rfl) (by kernel_rfl) (by kernel_rfl) (by kernel_rfl) (by kernel_rfl) (fun _ _ _ h => h) (Or.inl ⟨by rfl, ?_⟩) (fun _ => by exact hS0) ?_
      rotate_left
      · intro w hSw; (try dsimp only at hSw); go_simp; (try with_reducible rfl)
      try simp only [List.getElem_toArray, List.getElem_cons_zero, List.getElem_cons_succ, Act.put, List.setIfInBounds_toArray, List.set_cons_zero, List.set_cons_succ]
      refine wpAnyX_pure (i := 3) (v := ?_) rfl (by kernel_rfl) (by kernel_rfl) (by kernel_rfl) (by kernel_rfl) (by kernel_rfl) (fun _ _ _ h => h) (Or.inl ⟨by rfl, ?_⟩) (fun _ => by exact hS0) ?_
      rotate_left
      · intro w hSw; (try dsimp only at hSw); go_simp; (try with_reducible rfl)
      try simp only [List.getElem_toArray, List.getElem_cons_zero, List.getElem_cons_succ, Act.put, List.setIfInBounds_toArray, List.set_cons_zero, List.set_cons_succ]
      refine wpAnyX_pure (i := 4) (v := ?_) rfl (by kernel_rfl) (by kernel_rfl) (by kernel_rfl) (by kernel_rfl) (by kernel_rfl) (fun _ _ _ h => h) (Or.inl ⟨by rfl, ?_⟩) (fun _ => by exact hS0) ?_
      rotate_left
      · intro w hSw; (try dsimp only at hSw); go_simp; (try with_reducible rfl)
      try simp only [List.getElem_toArray, List.getElem_cons_zero, List.getElem_cons_succ, Act.put, List.setIfInBounds_toArray, List.set_cons_zero, List.set_cons_succ]
      refine wpAnyX_pure (i := 5) (v := ?_) rfl (by kernel_rfl) (by kernel_rfl) (by kernel_rfl) (by kernel_rfl) (by kernel_rfl) (fun _ _ _ h => h) (Or.inl ⟨by rfl, ?_⟩) (fun _ => by exact hS0) ?_
      rotate_left
      · intro w hSw; (try dsimp only at hSw); go_simp; (try with_reducible rfl)
      try simp only [List.getElem_toArray, List.getElem_cons_zero, List.getElem_cons_succ, Act.put, List.setIfInBounds_toArray, List.set_cons_zero, List.set_cons_succ]
      refine wpAnyX_pure (i := 6) (v := ?_) rfl (by kernel_rfl) (by kernel_rfl) (by kernel_rfl) (by kernel_rfl) (by kernel_rfl) (fun _ _ _ h => h) (Or.inl ⟨by rfl, ?_⟩) (fun _ => by exact hS0) ?_
      rotate_left
      · intro w hSw; (try dsimp only at hSw); go_simp; (try with_reducible rfl)
      try simp only [List.getElem_toArray, List.getElem_cons_zero, List.getElem_cons_succ, Act.put, List.setIfInBounds_toArray, List.set_cons_zero, List.set_cons_succ]
      refine wpAnyX_take (i := 7) (v := ?_) rfl (by kernel_rfl) (by kernel_rfl) (by kernel_rfl) (by kernel_rfl) (by kernel_rfl) (fun _ _ _ h => h) (Or.inl ⟨by rfl, ?_⟩) (by exact hS0) ?_
      rotate_left
      · intro w hSw; (try dsimp only at hSw); go_simp; (try with_reducible rfl)
      try simp only [List.getElem_toArray, List.getElem_cons_zero, List.getElem_cons_succ, Act.put, List.setIfInBounds_toArray, List.set_cons_zero, List.set_cons_succ]
      refine wpAnyX_pure (i := 8) (v := ?_) rfl (by kernel_rfl) (by kernel_rfl) (by kernel_rfl) (by kernel_rfl) (by kernel_rfl) (fun _ _ _ h => h) (Or.inl ⟨by rfl, ?_⟩) (fun _ => by exact hS0) ?_
      rotate_left
      · intro w hSw; (try dsimp only at hSw); go_simp; (try with_reducible rfl)
      try simp only [List.getElem_toArray, List.getElem_cons_zero, List.getElem_cons_succ, Act.put, List.setIfInBounds_toArray, List.set_cons_zero, List.set_cons_succ]
      refine wpAnyX_pure (i := 9) (v := ?_) rfl (by kernel_rfl) (by kernel_rfl) (by kernel_rfl) (by kernel_rfl) (by kernel_rfl) (fun _ _ _ h => h) (Or.inl ⟨by rfl, ?_⟩) (fun _ => by exact hS0) ?_
      rotate_left
      · intro w hSw; (try dsimp only at hSw); go_simp; (try with_reducible rfl)
      try simp only [List.getElem_toArray, List.getElem_cons_zero, List.getElem_cons_succ, Act.put, List.setIfInBounds_toArray, List.set_cons_zero, List.set_cons_succ]
      refine wpAnyX_pure (i := 10) (v := ?_) rfl (by kernel_rfl) (by kernel_rfl) (by kernel_rfl) (by kernel_rfl) (by kernel_rfl) (fun _ _ _ h => h) (Or.inl ⟨by rfl, ?_⟩) (fun _ => by exact hS0) ?_
      rotate_left
      · intro w hSw; (try dsimp only at hSw); go_simp; (try with_reducible rfl)
      try simp only [List.getElem_toArray, List.getElem_cons_zero, List.getElem_cons_succ, Act.put, List.setIfInBounds_toArray, List.set_cons_zero, List.set_cons_succ]
      refine wpAnyX_pure (i := 11) (v := ?_) rfl (by kernel_rfl) (by kernel_rfl) (by kernel_rfl) (by kernel_rfl) (by kernel_rfl) (fun _ _ _ h => h) (Or.inl ⟨by rfl, ?_⟩) (fun _ => by exact hS0) ?_
      rotate_left
      · intro w hSw; (try dsimp only at hSw); go_simp; (try with_reducible rfl)
      try simp only [List.getElem_toArray, List.getElem_cons_zero, List.getElem_cons_succ, Act.put, List.setIfInBounds_toArray, List.set_cons_zero, List.set_cons_succ]
      refine wpAnyX_pure (i := 12) (v := ?_) rfl (by kernel_rfl) (by kernel_rfl) (by kernel_rfl) (by kernel_rfl) (by kernel_rfl) (fun _ _ _ h => h) (Or.inl ⟨by rfl, ?_⟩) (fun _ => by exact hS0) ?_
      rotate_left
      · intro w hSw; (try dsimp only at hSw); go_simp; (try with_reducible rfl)
      try simp only [List.getElem_toArray, List.getElem_cons_zero, List.getElem_cons_succ, Act.put, List.setIfInBounds_toArray, List.set_cons_zero, List.set_cons_succ]
      refine wpAnyX_take (i := 13) (v := ?_) rfl (by kernel_rfl) (by kernel_rfl) (by kernel_rfl) (by kernel_rfl) (by kernel_rfl) (fun _ _ _ h => h) (Or.inl ⟨by rfl, ?_⟩) (by exact hS0) ?_
      rotate_left
      · intro w hSw; (try dsimp only at hSw); go_simp; (try with_reducible rfl)
      try simp only [List.getElem_toArray, List.getElem_cons_zero, List.getElem_cons_succ, Act.put, List.setIfInBounds_toArray, List.set_cons_zero, List.set_cons_succ]
      refine wpAnyX_pure (i := 14) (v := ?_) rfl (by kernel_rfl) (by kernel_rfl) (by kernel_rfl) (by kernel_rfl) (by kernel_rfl) (fun _ _ _ h => h) (Or.inl ⟨by rfl, ?_⟩) (fun _ => by exact hS0) ?_
      rotate_left
      · intro w hSw; (try dsimp only at hSw); go_simp; (try with_reducible rfl)
      try simp only [List.getElem_toArray, List.getElem_cons_zero, List.getElem_cons_succ, Act.put, List.setIfInBounds_toArray, List.set_cons_zero, List.set_cons_succ]
      refine wpAnyX_pure (i := 15) (v := ?_) rfl (by kernel_rfl) (by kernel_rfl) (by kernel_rfl) (by kernel_rfl) (by kernel_rfl) (fun _ _ _ h => h) (Or.inl ⟨by rfl, ?_⟩) (fun _ => by exact hS0) ?_
      rotate_left
      · intro w hSw; (try dsimp only at hSw); go_simp; (try with_reducible rfl)
      try simp only [List.getElem_toArray, List.getElem_cons_zero, List.getElem_cons_succ, Act.put, List.setIfInBounds_toArray, List.set_cons_zero, List.set_cons_succ]
      refine wpAnyX_pure (i := 16) (v := ?_) rfl (by kernel_rfl) (by kernel_rfl) (by kernel_rfl) (by kernel_rfl) (by kernel_rfl) (fun _ _ _ h => h) (Or.inl ⟨by rfl, ?_⟩) (fun _ => by exact hS0) ?_
      rotate_left
      · intro w hSw; (try dsimp only at hSw); go_simp; (try with_reducible rfl)
      try simp only [List.getElem_toArray, List.getElem_cons_zero, List.getElem_cons_succ, Act.put, List.setIfInBounds_toArray, List.set_cons_zero, List.set_cons_succ]
      refine wpAnyX_one (i := 17) (by kernel_rfl) rfl (fun K hK => ?_)
      go_simp
      refine hK.out _ _ (fun h => absurd h (by decide)) ?_
      clear hK K
      try simp only [List.getElem_toArray, List.getElem_cons_zero, List.getElem_cons_succ, Act.put, List.setIfInBounds_toArray, List.set_cons_zero, List.set_cons_succ]
      refine wpAnyX_pure (i := 18) (v := ?_) rfl (by kernel_rfl) (by kernel_rfl) (by kernel_rfl) (by kernel_rfl) (by kernel_rfl) (fun _ _ _ h => h) (Or.inl ⟨by rfl, ?_⟩) (fun h => absurd h (by decide)) ?_
      rotate_left
      · intro w hSw; (try dsimp only at hSw); go_simp; (try with_reducible rfl)
      try simp only [List.getElem_toArray, List.getElem_cons_zero, List.getElem_cons_succ, Act.put, List.setIfInBounds_toArray, List.set_cons_zero, List.set_cons_succ]
      refine wpAnyX_one (i := 19) (by kernel_rfl) rfl (fun K hK => ?_)
      go_simp
      refine hK.out _ _ (fun h => absurd h (by decide)) ?_
      clear hK K
      try simp only [List.getElem_toArray, List.getElem_cons_zero, List.getElem_cons_succ, Act.put, List.setIfInBounds_toArray, List.set_cons_zero, List.set_cons_succ]
      refine wpAnyX_done (by kernel_rfl) (NoPanic.normal ?_) _
      clear hS0 hcx0 hcy0 hfx0 hfy0 hcy1 hfy1
      obtain ⟨W1, hW1⟩ : ∃ W1, W1 = ((wr.setCell ⟨gx, j, none⟩ (.string (X[j].extract 0 k))).setCell ⟨gy, j, none⟩ (.string (Y[j].extract 0 k))).drew := ⟨_, rfl⟩
      have HX2 := Lib.hid (show W1.ownsRow w.heap.size 9 1 (.slice (some ⟨gx, 0, none⟩) nx cx) nx ((trL X k (j + 1)).map Value.string) by
        rw [hW1, ← trL_set hjx, List.map_set]
        exact ownsRow_setCell_other (HOX.out.stored j (.string (X[j].extract 0 k))).1 (a := ⟨gy, j, none⟩) (fun e => by have e2 : some gx = some gy := e; injection e2 with e2; omega) _)
      have HY2 := Lib.hid (show W1.ownsRow w1.heap.size 9 1 (.slice (some ⟨gy, 0, none⟩) ny cy) ny ((trL Y k (j + 1)).map Value.string) by
        rw [hW1, ← trL_set hjy, List.map_set]
        exact (HY1.out.stored j (.string (Y[j].extract 0 k))).1)
      have hzx : u11.ownBlock ≠ some gx := fun e => by have := (HOZ.out.lt _ e).1; omega
      have hzy : u11.ownBlock ≠ some gy := fun e => by have := (HOZ.out.lt _ e).1; omega
      have HZ2 := Lib.hid (show W1.ownsRow w2.heap.size 9 1 u11 j ((xorS (cutL X k j) (cutL Y k j)).map Value.string) by
        rw [hW1]
        exact ownsRow_setCell_other (ownsRow_setCell_other HOZ.out (a := ⟨gx, j, none⟩) hzx _) (a := ⟨gy, j, none⟩) hzy _)
      have HBW := Lib.hid (show Below w.heap.size w W1 by rw [hW1]; exact ((HB.out.setCell (by show w.heap.size ≤ gx; omega) _).setCell (by show w.heap.size ≤ gy; have := HB1.out.size; omega) _).drew)
      have hzW : w2.heap.size ≤ W1.heap.size := by rw [hW1]; simpa using hz
      have HKK := Lib.hid (fun (W : World) (h1 : W.ownsRow w.heap.size 9 1 (.slice (some ⟨gx, 0, none⟩) nx cx) nx ((trL X k (j + 1)).map Value.string)) (h2 : W.ownsRow w1.heap.size 9 1 (.slice (some ⟨gy, 0, none⟩) ny cy) ny ((trL Y k (j + 1)).map Value.string)) =>
        show W.cell? ⟨gx, j, none⟩ = some (.string (X[j].extract 0 k)) ∧ W.cell? ⟨gy, j, none⟩ = some (.string (Y[j].extract 0 k)) by
        constructor
        · rw [h1.cellAt j (by omega), ← trL_set hjx, List.map_set, List.getElem?_set_self (by rw [List.length_map, trL_len _ _ (by omega)]; exact hjx)]
        · rw [h2.cellAt j (by omega), ← trL_set hjy, List.map_set, List.getElem?_set_self (by rw [List.length_map, trL_len _ _ (by omega)]; exact hjy)])
      have HXR := Lib.hid (fun W => rxor_b (X[j].extract 0 k) (Y[j].extract 0 k) W (by rw [size_extract' _ hxs]; omega) (by rw [size_extract' _ hys]; omega))
      obtain ⟨r, hr⟩ : ∃ r, r = ofL (xorL (bl (X[j].extract 0 k)) (bl (Y[j].extract 0 k))) := ⟨_, rfl⟩
      rw [← hr] at HXR
      have HS := Lib.hid (show xorS (cutL X k (j + 1)) (cutL Y k (j + 1)) = xorS (cutL X k j) (cutL Y k j) ++ [r] by
        rw [cutL_succ hjx, cutL_succ hjy, xorS_snoc (by rw [cutL_len _ _ (by omega), cutL_len _ _ (by omega)]), ← hr])
      have hk1 : j + 1 ≤ maxLen := by unfold maxLen; omega
      have hk2 : (j + 1) * 16 ≤ 140737488355328 := by omega
      have HW1 := Lib.hid hW1
      have HZX := Lib.hid (show ∀ g, u11.ownBlock = some g → (Value.slice (some ⟨gx, 0, none⟩) nx cx).ownBlock ≠ some g from fun g e e2 => by have e3 : some gx = some g := e2; exact hzx (by rw [e3]; exact e))
      have HZY := Lib.hid (show ∀ g, u11.ownBlock = some g → (Value.slice (some ⟨gy, 0, none⟩) ny cy).ownBlock ≠ some g from fun g e e2 => by have e3 : some gy = some g := e2; exact hzy (by rw [e3]; exact e))
      clear hr hzx hzy hne1 hxs hys
      go_wp2
      rw [← hW1]
      clear hW1
      go_region_held3 (fun W => W.cell? ⟨gx, j, none⟩ = some (.string (X[j].extract 0 k)) ∧ W.cell? ⟨gy, j, none⟩ = some (.string (Y[j].extract 0 k)))
        (first | exact HKK.out _ (show W1.drew.ownsRow _ _ _ _ _ _ from HX2.out) (show W1.drew.ownsRow _ _ _ _ _ _ from HY2.out) | exact HKK.out _ (own_below (w := W1.drew) HX2.out HB4.out) (own_below (w := W1.drew) HY2.out HB4.out) | exact HKK.out _ (own_alloc (own_below (w := W1.drew) HX2.out HB4.out) _) (own_alloc (own_below (w := W1.drew) HY2.out HB4.out) _) | exact HKK.out _ (own_grown (own_alloc (own_below (w := W1.drew) HX2.out HB4.out) _) hgrow HZX.out) (own_grown (own_alloc (own_below (w := W1.drew) HY2.out HB4.out) _) hgrow HZY.out))
        (first
          | (go_at_call 17; (with_reducible refine (HXR.out _).mono ?_); rintro e w4 ⟨rfl, hb4⟩; have HB4 := Lib.hid hb4; clear hb4)
          | (refine step_push ty_str (by rfl) _ _ (by rfl) w2.heap.size u11 j ((xorS (cutL X k j) (cutL Y k j)).map Value.string) (by rfl) (own_alloc (own_below (w := W1.drew) HZ2.out HB4.out) _) _ (.string r) (by rfl) (Blk.new _ _ _) rfl (Nat.le_trans (Nat.le_trans hzW HB4.out.size) (Below.alloc (Below.refl _ w4) (Nat.le_refl _) _).size) hk1 hk2 ?_; intro v' w5 hown5 hgrow _))
      have HB5 := Lib.hid (push_below (w := w) (B := w.heap.size) (HBW.out.drew.trans (HB4.out.mono HBW.out.size)) (Nat.le_trans HBW.out.size HB4.out.size) (own_mono (own_below (w := W1.drew) HZ2.out HB4.out) HB2.out.size) hgrow)
      have hz5 : w2.heap.size ≤ w5.heap.size := Nat.le_trans (Nat.le_trans hzW HB4.out.size) (Nat.le_trans (by simp) hgrow.size)
      go_wp2
      go_roundw
      case rel => exact ⟨j + 1, by omega, by go_num, own_grown (own_alloc (own_below (w := W1.drew) HX2.out HB4.out) _) hgrow HZX.out, own_grown (own_alloc (own_below (w := W1.drew) HY2.out HB4.out) _) hgrow HZY.out, by rw [HS.out, List.map_append]; exact hown5, HB5.out, hz5⟩
      case measure => simp [intOf]; omega
    · have hjN : j = N := by omega
      have hge : N ≤ j := by omega
      obtain ⟨XX, hXX⟩ : ∃ XX, XX = cutL X k N := ⟨_, rfl⟩
      obtain ⟨YY, hYY⟩ : ∃ YY, YY = cutL Y k N := ⟨_, rfl⟩
      have HLX2 := Lib.hid (show XX.length = N by rw [hXX]; exact HLX.out)
      have HLY2 := Lib.hid (show YY.length = N by rw [hYY]; exact HLY.out)
      have HSX2 := Lib.hid (show ∀ t ∈ XX, t.size = k by rw [hXX]; exact HCX.out)
      have HSY2 := Lib.hid (show ∀ t ∈ YY, t.size = k by rw [hYY]; exact HCY.out)
      have hlen : XX.length = YY.length := by rw [HLX2.out, HLY2.out]
      have HLZ := Lib.hid (show (xorS XX YY).length = N by rw [xorS_len _ _ hlen, HLX2.out])
      have HSZ2 := Lib.hid (show ∀ t ∈ xorS XX YY, t.size = k from fun t ht => by
        obtain ⟨q, hq, rfl⟩ := List.mem_iff_getElem.1 ht
        have hq1 : q < XX.length := by rw [xorS_len _ _ hlen] at hq; exact hq
        have hq2 : q < YY.length := by omega
        rw [xorS_at hq1 hq2, ← bl_length, bl_ofL, xorL_len _ _ (by rw [bl_length, bl_length, HSX2.out _ (List.getElem_mem hq1), HSY2.out _ (List.getElem_mem hq2)]), bl_length]
        exact HSX2.out _ (List.getElem_mem hq1))
      have HSP2 := Lib.hid (fun q => spr_xor hlen (by rw [HLX2.out]; omega) HSX2.out HSY2.out q)
      have HEX := Lib.hid (enc_even (by rw [HLX2.out]; omega) (by rw [HLX2.out]; omega) HSX2.out HSP.out)
      have HEY := Lib.hid (enc_even (by rw [HLY2.out]; omega) (by rw [HLY2.out]; omega) HSY2.out HSP.out)
      have HEZ := Lib.hid (enc_even (by rw [HLZ.out]; omega) (by rw [HLZ.out]; omega) HSZ2.out HSP.out)
      have HLx := Lib.hid (show Lst Value.string wr (some ⟨gx, 0, none⟩) N cx XX by
        obtain ⟨A, c, e, hl, _⟩ := lst_own HOX.out
        injection e with e1 _ e3
        subst e1 e3
        have := hl.take hNx
        rw [hjN, trL_take _ _ (by rw [← HNX.out]; exact hNx), ← hXX] at this
        exact this)
      have HLy := Lib.hid (show Lst Value.string wr (some ⟨gy, 0, none⟩) N cy YY by
        obtain ⟨A, c, e, hl, _⟩ := lst_own HOY.out
        injection e with e1 _ e3
        subst e1 e3
        have := hl.take hNy
        rw [hjN, trL_take _ _ (by rw [← HNY.out]; exact hNy), ← hYY] at this
        exact this)
      obtain ⟨Az, cz, rfl, hlz, _⟩ : ∃ Az cz, u11 = .slice Az N cz ∧ Lst Value.string wr Az N cz (xorS XX YY) ∧ True := by
        obtain ⟨A, c, e, hl, _⟩ := lst_own HOZ.out
        rw [hjN, ← hXX, ← hYY] at hl
        rw [hjN] at e
        exact ⟨A, c, e, hl, trivial⟩
      have HLz := Lib.hid hlz
      have h64 : IntKind.i64.min ≤ ((s % 8 : Nat) : Int) ∧ ((s % 8 : Nat) : Int) ≤ IntKind.i64.max := by rw [i64_lo, i64_hi]; omega
      have HE1 := Lib.hid (show Calls Try.prog 13 #[.slice (some ⟨gx, 0, none⟩) N cx, .int .i64 ((s : Int) % 8)] wr (GivesLE 9 Value.string wr (sprs XX (s % 8)) 0) by
        have := encode_f wr (some ⟨gx, 0, none⟩) N cx XX HLx.out ((s % 8 : Nat) : Int) h64 (fun t ht => by rw [HSX2.out t ht]; omega)
        rw [HEX.out.1, HEX.out.2] at this
        rw [HSC.out]; exact this)
      have HE2 := Lib.hid (fun (W : World) (hW : Below wr.heap.size wr W) => show Calls Try.prog 13 #[.slice (some ⟨gy, 0, none⟩) N cy, .int .i64 ((s : Int) % 8)] W (GivesLE 9 Value.string W (sprs YY (s % 8)) 0) by
        have := encode_f W (some ⟨gy, 0, none⟩) N cy YY (HLy.out.below hW) ((s % 8 : Nat) : Int) h64 (fun t ht => by rw [HSY2.out t ht]; omega)
        rw [HEY.out.1, HEY.out.2] at this
        rw [HSC.out]; exact this)
      have HE3 := Lib.hid (fun (W : World) (hW : Below wr.heap.size wr W) => show Calls Try.prog 13 #[.slice Az N cz, .int .i64 ((s : Int) % 8)] W (GivesLE 9 Value.string W (sprs (xorS XX YY) (s % 8)) 0) by
        have := encode_f W Az N cz (xorS XX YY) (HLz.out.below hW) ((s % 8 : Nat) : Int) h64 (fun t ht => by rw [HSZ2.out t ht]; omega)
        rw [HEZ.out.1, HEZ.out.2] at this
        rw [HSC.out]; exact this)
      have HSU := Lib.hid (show ∀ q, q < s % 8 → (spr XX q).size ≤ 65536 ∧ (spr YY q).size ≤ 65536 from fun q _ => by
        unfold spr
        rw [← bl_length, ← bl_length, bl_ofL, bl_ofL, blk_len, blk_len]
        have hx0 : 0 < XX.length := by rw [HLX2.out]; omega
        have hy0 : 0 < YY.length := by rw [HLY2.out]; omega
        rw [map_getD_bl _ _ hx0, map_getD_bl _ _ hy0, bl_length, bl_length]
        simp only [List.getD, List.getElem?_eq_getElem hx0, List.getElem?_eq_getElem hy0, Option.getD_some]
        rw [HSX2.out _ (List.getElem_mem hx0), HSY2.out _ (List.getElem_mem hy0)]
        omega)
      obtain ⟨sp, hsp⟩ : ∃ sp, sp = s % 8 := ⟨_, rfl⟩
      have hsp7 : sp ≤ 7 := by omega
      rw [← hsp] at HE1 HE2 HE3 HSU
      clear hjN hXX hYY hlz h64 hlen hsp
      go_wp2_with fail
      refine HE1.out.mono ?_
      rintro e w5 ⟨v5, rfl, ho5, hb5⟩
      rw [sprs_len] at ho5
      obtain ⟨A5, c5, rfl, hy5, _⟩ := lst_own ho5
      have HY5 := Lib.hid hy5
      have HB5 := Lib.hid hb5
      clear ho5 hb5 hy5
      go_wp2_with fail
      refine (HE2.out _ HB5.out).mono ?_
      rintro e w6 ⟨v6, rfl, ho6, hb6⟩
      rw [sprs_len] at ho6
      obtain ⟨A6, c6, rfl, hy6, _⟩ := lst_own ho6
      have HY6 := Lib.hid hy6
      have HY56 := Lib.hid (HY5.out.below hb6)
      have HB6 := Lib.hid (HB5.out.trans (hb6.mono HB5.out.size))
      clear ho6 hb6 hy6
      go_wp2_with fail
      refine (HE3.out _ HB6.out).mono ?_
      rintro e w7 ⟨v7, rfl, ho7, hb7⟩
      rw [sprs_len] at ho7
      obtain ⟨A7, c7, rfl, hy7, _⟩ := lst_own ho7
      have HY7 := Lib.hid hy7
      have HY67 := Lib.hid (HY6.out.below hb7)
      have HY57 := Lib.hid (HY56.out.below hb7)
      have HB7 := Lib.hid (HB.out.trans ((HB6.out.trans (hb7.mono HB6.out.size)).mono HB.out.size))
      have h1a : sp ≤ c5 := HY57.out.1
      have h1b : c5 ≤ 9223372036854775807 := HY57.out.2.1
      have h2a : sp ≤ c6 := HY67.out.1
      have h2b : c6 ≤ 9223372036854775807 := HY67.out.2.1
      have h3a : sp ≤ c7 := hy7.1
      have h3b : c7 ≤ 9223372036854775807 := hy7.2.1
      clear ho7 hb7 hy7
      go_wp2
      go_loopw [128] (fun i wq => ∃ q : Nat, q ≤ sp ∧ i = .int .i64 (q : Int) ∧ Below w7.heap.size w7 wq) (fun i _ => sp - (intOf i).toNat)
      case atStart => exact ⟨0, by omega, rfl, Below.refl _ w7⟩
      case round =>
        obtain ⟨q, hq, rfl, hb⟩ := hrel
        have HBq := Lib.hid hb
        have hbs := hb.size
        by_cases hlt2 : q < sp
        · have hq5 : q < (sprs XX sp).length := by rw [sprs_len]; exact hlt2
          have hq6 : q < (sprs YY sp).length := by rw [sprs_len]; exact hlt2
          have hq7 : q < (sprs (xorS XX YY) sp).length := by rw [sprs_len]; exact hlt2
          obtain ⟨a5, rfl, _, hc5⟩ := (HY57.out.below hb).at_ hq5
          obtain ⟨a6, rfl, _, hc6⟩ := (HY67.out.below hb).at_ hq6
          obtain ⟨a7, rfl, _, hc7⟩ := (HY7.out.below hb).at_ hq7
          rw [show (sprs XX sp)[q] = spr XX q by simp [sprs]] at hc5
          rw [show (sprs YY sp)[q] = spr YY q by simp [sprs]] at hc6
          rw [show (sprs (xorS XX YY) sp)[q] = spr (xorS XX YY) q by simp [sprs], HSP2.out q] at hc7
          have HXR := Lib.hid (fun W => rxor_b (spr XX q) (spr YY q) W (HSU.out q hlt2).1 (HSU.out q hlt2).2)
          obtain ⟨r, hr⟩ : ∃ r, r = ofL (xorL (bl (spr XX q)) (bl (spr YY q))) := ⟨_, rfl⟩
          rw [← hr] at HXR hc7
          have hsb := str_beq r r
          rw [decide_eq_true (rfl : r = r)] at hsb
          have HKK := Lib.hid (fun (W : World) (hW : Below wr.heap.size wr W) => show W.cell? (a5.add q) = some (.string (spr XX q)) ∧ W.cell? (a6.add q) = some (.string (spr YY q)) ∧ W.cell? (a7.add q) = some (.string r) by
            refine ⟨?_, ?_, ?_⟩
            · obtain ⟨_, e1, _, h1⟩ := ((HY57.out.below hb).below hW).at_ hq5
              injection e1 with e1
              subst e1
              rw [h1]; simp [sprs]
            · obtain ⟨_, e1, _, h1⟩ := ((HY67.out.below hb).below hW).at_ hq6
              injection e1 with e1
              subst e1
              rw [h1]; simp [sprs]
            · obtain ⟨_, e1, _, h1⟩ := ((HY7.out.below hb).below hW).at_ hq7
              injection e1 with e1
              subst e1
              rw [h1, show (sprs (xorS XX YY) sp)[q] = spr (xorS XX YY) q by simp [sprs], HSP2.out q, hr])
          clear hb hr
          go_wp2
          go_region_held3 (fun W => W.cell? (a5.add q) = some (.string (spr XX q)) ∧ W.cell? (a6.add q) = some (.string (spr YY q)) ∧ W.cell? (a7.add q) = some (.string r))
            (first | exact HKK.out _ (Below.refl _ wr).drew | exact HKK.out _ ((Below.refl _ wr).drew.trans HB8.out))
            (first
              | (go_at_call 17; (with_reducible refine (HXR.out _).mono ?_); rintro e w8 ⟨rfl, hb8⟩; have HB8 := Lib.hid hb8; clear hb8))
          go_wp2
          go_roundw
          case rel => exact ⟨q + 1, by omega, by go_num, HBq.out.trans (((Below.refl _ _).drew.trans HB8.out).mono hbs)⟩
          case measure => simp [intOf]; omega
        · have hge2 : sp ≤ q := by omega
          clear hb
          go_wp2_with fail
          refine (awake_e _).mono ?_
          rintro e w9 ⟨rfl, hb9⟩
          have HB9 := Lib.hid (HB7.out.trans ((HBq.out.trans (hb9.mono hbs)).mono HB7.out.size))
          clear hb9
          go_wp2
          go_ret
          exact ⟨rfl, HB9.out⟩

end ErasureLinear
end Go.Proofs.Ytpljpceldlaphaa
