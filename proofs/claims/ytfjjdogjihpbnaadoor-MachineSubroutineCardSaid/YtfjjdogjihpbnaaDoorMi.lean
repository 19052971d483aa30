/- Walks of the machine's execute: the instructions '@' '!' ':' '.', whose regions draw their order and hold calls or appends. -/
import Derived.Test.YtfjjdogjihpbnaaDoorMg
import Derived.Test.YtfjjdogjihpbnaaDoorOx
namespace Go.Proofs.YtfjjdogjihpbnaaDoor
open Go.RowKit
namespace Mc

theorem step_push {P : Program} {t e : TypeId} {z : Value} {bytes : Nat} (T : OneTy P t e z bytes) {w : World} {ops : Array Oper} {o : Oper} {a : Act} {K : Act → World → Prop} {Q : Exit → Act → World → Prop} {E : Prop} (hgd : o.guard = none) (s x : Operand)
    (ho : o.op = .call { callee := .builtin .append, args := #[s, x], argTypes := #[t, t] })
    (base : Nat) (v : Value) (n : Nat) (xs : List Value) (hs : a.eval s = v) (hown : w.ownsRow base e 1 v n xs)
    (g : Nat) (y : Value) (hx : a.eval x = .slice (some ⟨g, 0, none⟩) 1 1) (hblk : Blk w g e #[y]) (hy : y.oneCell' = true) (hbase : base ≤ w.heap.size) (h63 : n + 1 ≤ maxLen) (hbytes : (n + 1) * bytes ≤ 140737488355328)
    (h : ∀ v' w', w'.ownsRow base e 1 v' (n + 1) (xs ++ [y]) → w.grownBy w' v.ownBlock → (v'.ownBlock = v.ownBlock ∨ v'.ownBlock = some w.heap.size) → K (a.put o.dst v') w') :
    if Region.wanted o (yielded ops a.tmps) = true then Oper.wp P o a w K Q else E := by
  have hw : Region.wanted o (yielded ops a.tmps) = true := by simp [Region.wanted, hgd]
  rw [if_pos hw]
  obtain ⟨i, hi, hz, h1, hb⟩ := T.hi
  obtain ⟨v', w', hrun, h2, h3, h4⟩ := run_append_sl (P := P) w base t o.type e i z 1 bytes T.ht hi hz h1 hb T.hz (by omega) v n xs hown (some ⟨g, 0, none⟩) 1 1 [y] (Blk.sl (n := 1) hblk rfl (by unfold maxLen; omega)) (by simpa using hy) h63 hbytes hbase
  unfold Oper.wp execOp
  simp only [ho, resolve, invoke, builtin, Sem.run_bind, Sem.run_pure, Result.andThen_ok, List.map_toArray, List.map_cons, List.map_nil, hs, hx, hrun]
  exact h v' w' h2 h3 h4

section
variable {fix : List (Nat × Obj)} {w0 W : World} {g : Nat} {n : Int} {z : Bool} {bm : Value} {s : St}

set_option maxRecDepth 100000 in
set_option maxHeartbeats 4000000 in
theorem ex_load (h : MP fix w0 W g n z bm s) (hm : s.data.length ≤ 256) (hw : ∀ x ∈ s.data, W32 x) :
    Calls Tryd.prog 33 #[.pointer (some ⟨g, 0, none⟩), .int .u32 64] W (Goes fix w0 g n z bm s.out (stLoad s) (.tuple #[])) := by
  obtain ⟨gm, hc0⟩ := h.mem0
  have hS0 : W.drew.cell? ⟨g, 0, none⟩ = some (.slice (some ⟨gm, 0, none⟩) 262144 262144) := hc0
  cases hD : s.data with
  | nil =>
    have HC := Lib.hid (addr_no h.drew hD)
    have HR := Lib.hid (show stLoad s = none by unfold stLoad; rw [hD])
    have H := Lib.hid h.drew
    clear h hD hm hw
    go_enter Tryd.func33, Tryd.ntmps33
    go_wp2_with fail
    refine wp_region_X (fun V => V.cell? ⟨g, 0, none⟩ = some (.slice (some ⟨gm, 0, none⟩) 262144 262144)) 9 (by kernel_rfl) ?_
    show wpAnyX _ _ _ _ _ _ 10 _ _ _
    refine wpAnyX_pure (i := 0) (v := ?_) rfl (by kernel_rfl) (by kernel_rfl) (by kernel_rfl) (by kernel_rfl) (by kernel_rfl) (fun _ _ _ h => h) (Or.inl ⟨by rfl, ?_⟩) (fun _ => by exact hS0) ?_
    rotate_left
    · intro w hSw; (try dsimp only at hSw); go_simp; (try with_reducible rfl)
    try simp only [List.getElem_toArray, List.getElem_cons_zero, Act.put, List.setIfInBounds_toArray, List.set_cons_zero, List.set_cons_succ]
    refine wpAnyX_pure (i := 1) (v := ?_) rfl (by kernel_rfl) (by kernel_rfl) (by kernel_rfl) (by kernel_rfl) (by kernel_rfl) (fun _ _ _ h => h) (Or.inl ⟨by rfl, ?_⟩) (fun _ => by exact hS0) ?_
    rotate_left
    · intro w hSw; (try dsimp only at hSw); go_simp; (try with_reducible rfl)
    try simp only [List.getElem_toArray, List.getElem_cons_zero, List.getElem_cons_succ, Act.put, List.setIfInBounds_toArray, List.set_cons_zero, List.set_cons_succ]
    refine wpAnyX_pure (i := 2) (v := ?_) rfl (by kernel_rfl) (by kernel_rfl) (by kernel_rfl) (by kernel_rfl) (by kernel_rfl) (fun _ _ _ h => h) (Or.inl ⟨by rfl, ?_⟩) (fun _ => by exact hS0) ?_
    rotate_left
    · intro w hSw; (try dsimp only at hSw); go_simp; (try with_reducible rfl)
    try simp only [List.getElem_toArray, List.getElem_cons_zero, List.getElem_cons_succ, Act.put, List.setIfInBounds_toArray, List.set_cons_zero, List.set_cons_succ]
    refine wpAnyX_pure (i := 3) (v := ?_) rfl (by kernel_rfl) (by kernel_rfl) (by kernel_rfl) (by kernel_rfl) (by kernel_rfl) (fun _ _ _ h => h) (Or.inl ⟨by rfl, ?_⟩) (fun _ => by exact hS0) ?_
    rotate_left
    · intro w hSw; (try dsimp only at hSw); go_simp; (try with_reducible rfl)
    try simp only [List.getElem_toArray, List.getElem_cons_zero, List.getElem_cons_succ, Act.put, List.setIfInBounds_toArray, List.set_cons_zero, List.set_cons_succ]
    refine wpAnyX_take (i := 4) (v := ?_) rfl (by kernel_rfl) (by kernel_rfl) (by kernel_rfl) (by kernel_rfl) (by kernel_rfl) (fun _ _ _ h => h) (Or.inl ⟨by rfl, ?_⟩) (by exact hS0) ?_
    rotate_left
    · intro w hSw; (try dsimp only at hSw); go_simp; (try with_reducible rfl)
    try simp only [List.getElem_toArray, List.getElem_cons_zero, List.getElem_cons_succ, Act.put, List.setIfInBounds_toArray, List.set_cons_zero, List.set_cons_succ]
    refine wpAnyX_pure (i := 5) (v := ?_) rfl (by kernel_rfl) (by kernel_rfl) (by kernel_rfl) (by kernel_rfl) (by kernel_rfl) (fun _ _ _ h => h) (Or.inl ⟨by rfl, ?_⟩) (fun _ => by exact hS0) ?_
    rotate_left
    · intro w hSw; (try dsimp only at hSw); go_simp; (try with_reducible rfl)
    try simp only [List.getElem_toArray, List.getElem_cons_zero, List.getElem_cons_succ, Act.put, List.setIfInBounds_toArray, List.set_cons_zero, List.set_cons_succ]
    refine wpAnyX_one (i := 6) (by kernel_rfl) rfl (fun K hK => ?_)
    go_simp
    refine HC.out.mono ?_
    rintro e w' ⟨rfl, rfl⟩
    exact ⟨rfl, goes_no HR.out ⟨s, H.out, rfl⟩⟩
  | cons a l =>
    have ha := hw a (by rw [hD]; simp)
    have ha1 := ha.1
    have ha2 := ha.2
    by_cases hlt : 262144 ≤ a
    · have HC := Lib.hid (addr_far h.drew hD hm hlt)
      have HR := Lib.hid (show stLoad s = none by unfold stLoad; rw [hD]; exact if_pos hlt)
      clear h hD hm hw ha
      go_enter Tryd.func33, Tryd.ntmps33
      go_wp2_with fail
      refine wp_region_X (fun V => V.cell? ⟨g, 0, none⟩ = some (.slice (some ⟨gm, 0, none⟩) 262144 262144)) 9 (by kernel_rfl) ?_
      show wpAnyX _ _ _ _ _ _ 10 _ _ _
      refine wpAnyX_pure (i := 0) (v := ?_) rfl (by kernel_rfl) (by kernel_rfl) (by kernel_rfl) (by kernel_rfl) (by kernel_rfl) (fun _ _ _ h => h) (Or.inl ⟨by rfl, ?_⟩) (fun _ => by exact hS0) ?_
      rotate_left
      · intro w hSw; (try dsimp only at hSw); go_simp; (try with_reducible rfl)
      try simp only [List.getElem_toArray, List.getElem_cons_zero, Act.put, List.setIfInBounds_toArray, List.set_cons_zero, List.set_cons_succ]
      refine wpAnyX_pure (i := 1) (v := ?_) rfl (by kernel_rfl) (by kernel_rfl) (by kernel_rfl) (by kernel_rfl) (by kernel_rfl) (fun _ _ _ h => h) (Or.inl ⟨by rfl, ?_⟩) (fun _ => by exact hS0) ?_
      rotate_left
      · intro w hSw; (try dsimp only at hSw); go_simp; (try with_reducible rfl)
      try simp only [List.getElem_toArray, List.getElem_cons_zero, List.getElem_cons_succ, Act.put, List.setIfInBounds_toArray, List.set_cons_zero, List.set_cons_succ]
      refine wpAnyX_pure (i := 2) (v := ?_) rfl (by kernel_rfl) (by kernel_rfl) (by kernel_rfl) (by kernel_rfl) (by kernel_rfl) (fun _ _ _ h => h) (Or.inl ⟨by rfl, ?_⟩) (fun _ => by exact hS0) ?_
      rotate_left
      · intro w hSw; (try dsimp only at hSw); go_simp; (try with_reducible rfl)
      try simp only [List.getElem_toArray, List.getElem_cons_zero, List.getElem_cons_succ, Act.put, List.setIfInBounds_toArray, List.set_cons_zero, List.set_cons_succ]
      refine wpAnyX_pure (i := 3) (v := ?_) rfl (by kernel_rfl) (by kernel_rfl) (by kernel_rfl) (by kernel_rfl) (by kernel_rfl) (fun _ _ _ h => h) (Or.inl ⟨by rfl, ?_⟩) (fun _ => by exact hS0) ?_
      rotate_left
      · intro w hSw; (try dsimp only at hSw); go_simp; (try with_reducible rfl)
      try simp only [List.getElem_toArray, List.getElem_cons_zero, List.getElem_cons_succ, Act.put, List.setIfInBounds_toArray, List.set_cons_zero, List.set_cons_succ]
      refine wpAnyX_take (i := 4) (v := ?_) rfl (by kernel_rfl) (by kernel_rfl) (by kernel_rfl) (by kernel_rfl) (by kernel_rfl) (fun _ _ _ h => h) (Or.inl ⟨by rfl, ?_⟩) (by exact hS0) ?_
      rotate_left
      · intro w hSw; (try dsimp only at hSw); go_simp; (try with_reducible rfl)
      try simp only [List.getElem_toArray, List.getElem_cons_zero, List.getElem_cons_succ, Act.put, List.setIfInBounds_toArray, List.set_cons_zero, List.set_cons_succ]
      refine wpAnyX_pure (i := 5) (v := ?_) rfl (by kernel_rfl) (by kernel_rfl) (by kernel_rfl) (by kernel_rfl) (by kernel_rfl) (fun _ _ _ h => h) (Or.inl ⟨by rfl, ?_⟩) (fun _ => by exact hS0) ?_
      rotate_left
      · intro w hSw; (try dsimp only at hSw); go_simp; (try with_reducible rfl)
      try simp only [List.getElem_toArray, List.getElem_cons_zero, List.getElem_cons_succ, Act.put, List.setIfInBounds_toArray, List.set_cons_zero, List.set_cons_succ]
      refine wpAnyX_one (i := 6) (by kernel_rfl) rfl (fun K hK => ?_)
      go_simp
      refine HC.out.mono ?_
      rintro e w1 ⟨rfl, ht⟩
      exact ⟨rfl, goes_no HR.out ht⟩
    · have hlt2 : a < 262144 := by omega
      have HC := Lib.hid (addr_yes h.drew hD hm hlt2)
      have HR := Lib.hid (show stLoad s = some { s with data := s.mem a.toNat :: l } by unfold stLoad; rw [hD]; exact if_neg hlt)
      have HM := Lib.hid (show l.length < 256 by rw [hD] at hm; simp at hm; omega)
      have HS0 := Lib.hid hS0
      clear h hD hm hw ha hlt
      go_enter Tryd.func33, Tryd.ntmps33
      go_wp2_with fail
      refine wp_region_X (fun V => V.cell? ⟨g, 0, none⟩ = some (.slice (some ⟨gm, 0, none⟩) 262144 262144)) 9 (by kernel_rfl) ?_
      show wpAnyX _ _ _ _ _ _ 10 _ _ _
      refine wpAnyX_pure (i := 0) (v := ?_) rfl (by kernel_rfl) (by kernel_rfl) (by kernel_rfl) (by kernel_rfl) (by kernel_rfl) (fun _ _ _ h => h) (Or.inl ⟨by rfl, ?_⟩) (fun _ => by exact hS0) ?_
      rotate_left
      · intro w hSw; (try dsimp only at hSw); go_simp; (try with_reducible rfl)
      try simp only [List.getElem_toArray, List.getElem_cons_zero, Act.put, List.setIfInBounds_toArray, List.set_cons_zero, List.set_cons_succ]
      refine wpAnyX_pure (i := 1) (v := ?_) rfl (by kernel_rfl) (by kernel_rfl) (by kernel_rfl) (by kernel_rfl) (by kernel_rfl) (fun _ _ _ h => h) (Or.inl ⟨by rfl, ?_⟩) (fun _ => by exact hS0) ?_
      rotate_left
      · intro w hSw; (try dsimp only at hSw); go_simp; (try with_reducible rfl)
      try simp only [List.getElem_toArray, List.getElem_cons_zero, List.getElem_cons_succ, Act.put, List.setIfInBounds_toArray, List.set_cons_zero, List.set_cons_succ]
      refine wpAnyX_pure (i := 2) (v := ?_) rfl (by kernel_rfl) (by kernel_rfl) (by kernel_rfl) (by kernel_rfl) (by kernel_rfl) (fun _ _ _ h => h) (Or.inl ⟨by rfl, ?_⟩) (fun _ => by exact hS0) ?_
      rotate_left
      · intro w hSw; (try dsimp only at hSw); go_simp; (try with_reducible rfl)
      try simp only [List.getElem_toArray, List.getElem_cons_zero, List.getElem_cons_succ, Act.put, List.setIfInBounds_toArray, List.set_cons_zero, List.set_cons_succ]
      refine wpAnyX_pure (i := 3) (v := ?_) rfl (by kernel_rfl) (by kernel_rfl) (by kernel_rfl) (by kernel_rfl) (by kernel_rfl) (fun _ _ _ h => h) (Or.inl ⟨by rfl, ?_⟩) (fun _ => by exact hS0) ?_
      rotate_left
      · intro w hSw; (try dsimp only at hSw); go_simp; (try with_reducible rfl)
      try simp only [List.getElem_toArray, List.getElem_cons_zero, List.getElem_cons_succ, Act.put, List.setIfInBounds_toArray, List.set_cons_zero, List.set_cons_succ]
      refine wpAnyX_take (i := 4) (v := ?_) rfl (by kernel_rfl) (by kernel_rfl) (by kernel_rfl) (by kernel_rfl) (by kernel_rfl) (fun _ _ _ h => h) (Or.inl ⟨by rfl, ?_⟩) (by exact hS0) ?_
      rotate_left
      · intro w hSw; (try dsimp only at hSw); go_simp; (try with_reducible rfl)
      try simp only [List.getElem_toArray, List.getElem_cons_zero, List.getElem_cons_succ, Act.put, List.setIfInBounds_toArray, List.set_cons_zero, List.set_cons_succ]
      refine wpAnyX_pure (i := 5) (v := ?_) rfl (by kernel_rfl) (by kernel_rfl) (by kernel_rfl) (by kernel_rfl) (by kernel_rfl) (fun _ _ _ h => h) (Or.inl ⟨by rfl, ?_⟩) (fun _ => by exact hS0) ?_
      rotate_left
      · intro w hSw; (try dsimp only at hSw); go_simp; (try with_reducible rfl)
      try simp only [List.getElem_toArray, List.getElem_cons_zero, List.getElem_cons_succ, Act.put, List.setIfInBounds_toArray, List.set_cons_zero, List.set_cons_succ]
      refine wpAnyX_one (i := 6) (by kernel_rfl) rfl (fun K hK => ?_)
      go_simp
      refine HC.out.mono ?_
      rintro e w1 ⟨rfl, h1, k1⟩
      have hS1 := (k1 0 (by decide)).trans HS0.out
      have H1 := Lib.hid h1
      have hwd := (h1.word hS1 (a := a.toNat) (by omega)).1
      have HP := Lib.hid (push_yes h1 HM.out (s.mem a.toNat))
      clear h1 k1
      refine hK.out _ _ (fun _ => by exact hS1) ?_
      clear hK K
      try simp only [List.getElem_toArray, List.getElem_cons_zero, List.getElem_cons_succ, Act.put, List.setIfInBounds_toArray, List.set_cons_zero, List.set_cons_succ]
      refine wpAnyX_pure (i := 7) (v := ?_) rfl (by kernel_rfl) (by kernel_rfl) (by kernel_rfl) (by kernel_rfl) (by kernel_rfl) (fun _ _ _ h => h) (Or.inl ⟨by rfl, ?_⟩) (fun _ => by exact hS1) ?_
      rotate_left
      · intro w hSw; (try dsimp only at hSw); go_simp; (try with_reducible rfl)
      try simp only [List.getElem_toArray, List.getElem_cons_zero, List.getElem_cons_succ, Act.put, List.setIfInBounds_toArray, List.set_cons_zero, List.set_cons_succ]
      refine wpAnyX_one (i := 8) (by kernel_rfl) rfl (fun K hK => ?_)
      go_simp
      refine hK.out _ _ (fun _ => by exact hS1) ?_
      clear hK K
      try simp only [List.getElem_toArray, List.getElem_cons_zero, List.getElem_cons_succ, Act.put, List.setIfInBounds_toArray, List.set_cons_zero, List.set_cons_succ]
      refine wpAnyX_one (i := 9) (by kernel_rfl) rfl (fun K hK => ?_)
      go_simp
      refine HP.out.mono ?_
      rintro e w2 ⟨rfl, h2, k2⟩
      have H2 := Lib.hid h2
      clear h2 k2 hwd hS1
      refine hK.out _ _ (fun h => absurd h (by decide)) ?_
      clear hK K
      try simp only [List.getElem_toArray, List.getElem_cons_zero, List.getElem_cons_succ, Act.put, List.setIfInBounds_toArray, List.set_cons_zero, List.set_cons_succ]
      refine wpAnyX_done (by kernel_rfl) ?_ _
      go_wp2_with fail
      go_end0
      exact goes_yes HR.out H2.out

set_option maxRecDepth 100000 in
set_option maxHeartbeats 4000000 in
theorem ex_store (h : MP fix w0 W g n z bm s) (hm : s.data.length ≤ 256) (hw : ∀ x ∈ s.data, W32 x) :
    Calls Tryd.prog 33 #[.pointer (some ⟨g, 0, none⟩), .int .u32 33] W (Goes fix w0 g n z bm s.out (stStore s) (.tuple #[])) := by
  obtain ⟨gm, hc0⟩ := h.mem0
  cases hD : s.data with
  | nil =>
    have HC := Lib.hid (addr_no h hD)
    have HR := Lib.hid (show stStore s = none by unfold stStore; rw [hD])
    have H := Lib.hid h
    clear h hD hm hw
    go_enter Tryd.func33, Tryd.ntmps33
    go_wp2_with fail
    refine HC.out.mono ?_
    rintro e w' ⟨rfl, rfl⟩
    exact ⟨rfl, goes_no HR.out ⟨s, H.out, rfl⟩⟩
  | cons a l =>
    have ha := hw a (by rw [hD]; simp)
    have ha1 := ha.1
    have ha2 := ha.2
    by_cases hlt : 262144 ≤ a
    · have HC := Lib.hid (addr_far h hD hm hlt)
      have HR := Lib.hid (show stStore s = none by
        unfold stStore; rw [hD]
        cases l with
        | nil => rfl
        | cons v l => exact if_pos hlt)
      clear h hD hm hw ha
      go_enter Tryd.func33, Tryd.ntmps33
      go_wp2_with fail
      refine HC.out.mono ?_
      rintro e w' ⟨rfl, ht⟩
      exact ⟨rfl, goes_no HR.out ht⟩
    · have hlt2 : a < 262144 := by omega
      have HC := Lib.hid (addr_yes h hD hm hlt2)
      have HS0 := Lib.hid hc0
      cases l with
      | nil =>
        have HR := Lib.hid (show stStore s = none by unfold stStore; rw [hD])
        clear h hD hm hw ha hlt
        go_enter Tryd.func33, Tryd.ntmps33
        go_wp2_with fail
        refine HC.out.mono ?_
        rintro e w1 ⟨rfl, h1, k1⟩
        have hS0 : w1.drew.cell? ⟨g, 0, none⟩ = some (.slice (some ⟨gm, 0, none⟩) 262144 262144) := (k1 0 (by decide)).trans HS0.out
        have H1 := Lib.hid h1.drew
        have HC2 := Lib.hid (pop_no h1.drew rfl)
        clear h1 k1
        go_wp2_with fail
        refine wp_region_X (fun V => V.cell? ⟨g, 0, none⟩ = some (.slice (some ⟨gm, 0, none⟩) 262144 262144)) 8 (by kernel_rfl) ?_
        show wpAnyX _ _ _ _ _ _ 9 _ _ _
        refine wpAnyX_pure (i := 0) (v := ?_) rfl (by kernel_rfl) (by kernel_rfl) (by kernel_rfl) (by kernel_rfl) (by kernel_rfl) (fun _ _ _ h => h) (Or.inl ⟨by rfl, ?_⟩) (fun _ => by exact hS0) ?_
        rotate_left
        · intro w hSw; (try dsimp only at hSw); go_simp; (try with_reducible rfl)
        try simp only [List.getElem_toArray, List.getElem_cons_zero, Act.put, List.setIfInBounds_toArray, List.set_cons_zero, List.set_cons_succ]
        refine wpAnyX_pure (i := 1) (v := ?_) rfl (by kernel_rfl) (by kernel_rfl) (by kernel_rfl) (by kernel_rfl) (by kernel_rfl) (fun _ _ _ h => h) (Or.inl ⟨by rfl, ?_⟩) (fun _ => by exact hS0) ?_
        rotate_left
        · intro w hSw; (try dsimp only at hSw); go_simp; (try with_reducible rfl)
        try simp only [List.getElem_toArray, List.getElem_cons_zero, List.getElem_cons_succ, Act.put, List.setIfInBounds_toArray, List.set_cons_zero, List.set_cons_succ]
        refine wpAnyX_pure (i := 2) (v := ?_) rfl (by kernel_rfl) (by kernel_rfl) (by kernel_rfl) (by kernel_rfl) (by kernel_rfl) (fun _ _ _ h => h) (Or.inl ⟨by rfl, ?_⟩) (fun _ => by exact hS0) ?_
        rotate_left
        · intro w hSw; (try dsimp only at hSw); go_simp; (try with_reducible rfl)
        try simp only [List.getElem_toArray, List.getElem_cons_zero, List.getElem_cons_succ, Act.put, List.setIfInBounds_toArray, List.set_cons_zero, List.set_cons_succ]
        refine wpAnyX_take (i := 3) (v := ?_) rfl (by kernel_rfl) (by kernel_rfl) (by kernel_rfl) (by kernel_rfl) (by kernel_rfl) (fun _ _ _ h => h) (Or.inl ⟨by rfl, ?_⟩) (by exact hS0) ?_
        rotate_left
        · intro w hSw; (try dsimp only at hSw); go_simp; (try with_reducible rfl)
        try simp only [List.getElem_toArray, List.getElem_cons_zero, List.getElem_cons_succ, Act.put, List.setIfInBounds_toArray, List.set_cons_zero, List.set_cons_succ]
        refine wpAnyX_pure (i := 4) (v := ?_) rfl (by kernel_rfl) (by kernel_rfl) (by kernel_rfl) (by kernel_rfl) (by kernel_rfl) (fun _ _ _ h => h) (Or.inl ⟨by rfl, ?_⟩) (fun _ => by exact hS0) ?_
        rotate_left
        · intro w hSw; (try dsimp only at hSw); go_simp; (try with_reducible rfl)
        try simp only [List.getElem_toArray, List.getElem_cons_zero, List.getElem_cons_succ, Act.put, List.setIfInBounds_toArray, List.set_cons_zero, List.set_cons_succ]
        refine wpAnyX_pure (i := 5) (v := ?_) rfl (by kernel_rfl) (by kernel_rfl) (by kernel_rfl) (by kernel_rfl) (by kernel_rfl) (fun _ _ _ h => h) (Or.inl ⟨by rfl, ?_⟩) (fun _ => by exact hS0) ?_
        rotate_left
        · intro w hSw; (try dsimp only at hSw); go_simp; (try with_reducible rfl)
        try simp only [List.getElem_toArray, List.getElem_cons_zero, List.getElem_cons_succ, Act.put, List.setIfInBounds_toArray, List.set_cons_zero, List.set_cons_succ]
        refine wpAnyX_one (i := 6) (by kernel_rfl) rfl (fun K hK => ?_)
        go_simp
        refine HC2.out.mono ?_
        rintro e w' ⟨rfl, rfl⟩
        exact ⟨rfl, goes_no HR.out ⟨_, H1.out, rfl⟩⟩
      | cons v l =>
        have HR := Lib.hid (show stStore s = some { s with mem := put s.mem a.toNat v, data := l } by unfold stStore; rw [hD]; exact if_neg hlt)
        have HM := Lib.hid (show (v :: l).length ≤ 256 by rw [hD] at hm; simp at hm ⊢; omega)
        clear h hD hm hw ha hlt
        go_enter Tryd.func33, Tryd.ntmps33
        go_wp2_with fail
        refine HC.out.mono ?_
        rintro e w1 ⟨rfl, h1, k1⟩
        have hS0 : w1.drew.cell? ⟨g, 0, none⟩ = some (.slice (some ⟨gm, 0, none⟩) 262144 262144) := (k1 0 (by decide)).trans HS0.out
        have HS1 := Lib.hid hS0
        have HC2 := Lib.hid (pop_yes h1.drew rfl HM.out)
        clear h1 k1
        go_wp2_with fail
        refine wp_region_X (fun V => V.cell? ⟨g, 0, none⟩ = some (.slice (some ⟨gm, 0, none⟩) 262144 262144)) 8 (by kernel_rfl) ?_
        show wpAnyX _ _ _ _ _ _ 9 _ _ _
        refine wpAnyX_pure (i := 0) (v := ?_) rfl (by kernel_rfl) (by kernel_rfl) (by kernel_rfl) (by kernel_rfl) (by kernel_rfl) (fun _ _ _ h => h) (Or.inl ⟨by rfl, ?_⟩) (fun _ => by exact hS0) ?_
        rotate_left
        · intro w hSw; (try dsimp only at hSw); go_simp; (try with_reducible rfl)
        try simp only [List.getElem_toArray, List.getElem_cons_zero, Act.put, List.setIfInBounds_toArray, List.set_cons_zero, List.set_cons_succ]
        refine wpAnyX_pure (i := 1) (v := ?_) rfl (by kernel_rfl) (by kernel_rfl) (by kernel_rfl) (by kernel_rfl) (by kernel_rfl) (fun _ _ _ h => h) (Or.inl ⟨by rfl, ?_⟩) (fun _ => by exact hS0) ?_
        rotate_left
        · intro w hSw; (try dsimp only at hSw); go_simp; (try with_reducible rfl)
        try simp only [List.getElem_toArray, List.getElem_cons_zero, List.getElem_cons_succ, Act.put, List.setIfInBounds_toArray, List.set_cons_zero, List.set_cons_succ]
        refine wpAnyX_pure (i := 2) (v := ?_) rfl (by kernel_rfl) (by kernel_rfl) (by kernel_rfl) (by kernel_rfl) (by kernel_rfl) (fun _ _ _ h => h) (Or.inl ⟨by rfl, ?_⟩) (fun _ => by exact hS0) ?_
        rotate_left
        · intro w hSw; (try dsimp only at hSw); go_simp; (try with_reducible rfl)
        try simp only [List.getElem_toArray, List.getElem_cons_zero, List.getElem_cons_succ, Act.put, List.setIfInBounds_toArray, List.set_cons_zero, List.set_cons_succ]
        refine wpAnyX_take (i := 3) (v := ?_) rfl (by kernel_rfl) (by kernel_rfl) (by kernel_rfl) (by kernel_rfl) (by kernel_rfl) (fun _ _ _ h => h) (Or.inl ⟨by rfl, ?_⟩) (by exact hS0) ?_
        rotate_left
        · intro w hSw; (try dsimp only at hSw); go_simp; (try with_reducible rfl)
        try simp only [List.getElem_toArray, List.getElem_cons_zero, List.getElem_cons_succ, Act.put, List.setIfInBounds_toArray, List.set_cons_zero, List.set_cons_succ]
        refine wpAnyX_pure (i := 4) (v := ?_) rfl (by kernel_rfl) (by kernel_rfl) (by kernel_rfl) (by kernel_rfl) (by kernel_rfl) (fun _ _ _ h => h) (Or.inl ⟨by rfl, ?_⟩) (fun _ => by exact hS0) ?_
        rotate_left
        · intro w hSw; (try dsimp only at hSw); go_simp; (try with_reducible rfl)
        try simp only [List.getElem_toArray, List.getElem_cons_zero, List.getElem_cons_succ, Act.put, List.setIfInBounds_toArray, List.set_cons_zero, List.set_cons_succ]
        refine wpAnyX_pure (i := 5) (v := ?_) rfl (by kernel_rfl) (by kernel_rfl) (by kernel_rfl) (by kernel_rfl) (by kernel_rfl) (fun _ _ _ h => h) (Or.inl ⟨by rfl, ?_⟩) (fun _ => by exact hS0) ?_
        rotate_left
        · intro w hSw; (try dsimp only at hSw); go_simp; (try with_reducible rfl)
        try simp only [List.getElem_toArray, List.getElem_cons_zero, List.getElem_cons_succ, Act.put, List.setIfInBounds_toArray, List.set_cons_zero, List.set_cons_succ]
        refine wpAnyX_one (i := 6) (by kernel_rfl) rfl (fun K hK => ?_)
        go_simp
        refine HC2.out.mono ?_
        rintro e w2 ⟨rfl, h2, k2⟩
        have hS2 := (k2 0 (by decide)).trans HS1.out
        have H2 := Lib.hid h2
        have HS2 := Lib.hid hS2
        have hwd := (h2.word hS2 (a := a.toNat) (by omega)).1
        have hwf := (h2.word hS2 (a := a.toNat) (by omega)).2
        clear h2 k2
        refine hK.out _ _ (fun _ => by exact hS2) ?_
        clear hK K
        try simp only [List.getElem_toArray, List.getElem_cons_zero, List.getElem_cons_succ, Act.put, List.setIfInBounds_toArray, List.set_cons_zero, List.set_cons_succ]
        refine wpAnyX_pure (i := 7) (v := ?_) rfl (by kernel_rfl) (by kernel_rfl) (by kernel_rfl) (by kernel_rfl) (by kernel_rfl) (fun _ _ _ h => h) (Or.inl ⟨by rfl, ?_⟩) (fun _ => by exact hS2) ?_
        rotate_left
        · intro w hSw; (try dsimp only at hSw); go_simp; (try with_reducible rfl)
        try simp only [List.getElem_toArray, List.getElem_cons_zero, List.getElem_cons_succ, Act.put, List.setIfInBounds_toArray, List.set_cons_zero, List.set_cons_succ]
        refine wpAnyX_one (i := 8) (by kernel_rfl) rfl (fun K hK => ?_)
        go_simp
        refine hK.out _ _ (fun h => absurd h (by decide)) ?_
        clear hK K
        try simp only [List.getElem_toArray, List.getElem_cons_zero, List.getElem_cons_succ, Act.put, List.setIfInBounds_toArray, List.set_cons_zero, List.set_cons_succ]
        refine wpAnyX_done (by kernel_rfl) ?_ _
        go_wp2_with fail
        go_end0
        exact goes_yes HR.out (H2.out.setM HS2.out (by omega) v)

set_option maxRecDepth 100000 in
set_option maxHeartbeats 4000000 in
theorem ex_call (h : MP fix w0 W g n z bm s) (hm : s.data.length ≤ 256) (hk : s.calls.length ≤ 64) :
    Calls Tryd.prog 33 #[.pointer (some ⟨g, 0, none⟩), .int .u32 58] W (Goes fix w0 g n z bm s.out (stCall s) (.tuple #[])) := by
  cases hD : s.data with
  | nil =>
    have HC := Lib.hid (pop_no h hD)
    have HR := Lib.hid (show stCall s = none by unfold stCall; rw [hD])
    have H := Lib.hid h
    clear h hD hm hk
    go_enter Tryd.func33, Tryd.ntmps33
    go_wp2_with fail
    refine HC.out.mono ?_
    rintro e w' ⟨rfl, rfl⟩
    exact ⟨rfl, goes_no HR.out ⟨s, H.out, rfl⟩⟩
  | cons t l =>
    have HC := Lib.hid (pop_yes h hD hm)
    by_cases hlt : s.calls.length < 64
    · have HR := Lib.hid (show stCall s = some { s with calls := s.pc :: s.calls, pc := t, data := l } by unfold stCall; rw [hD]; exact if_pos hlt)
      clear h hD hm hk
      go_enter Tryd.func33, Tryd.ntmps33
      go_wp2_with fail
      refine HC.out.mono ?_
      rintro e w1 ⟨rfl, h1, _⟩
      obtain ⟨gm, vd, vc, vo, A, ni, ci, b1, p1, i1⟩ := h1.drew
      obtain ⟨Ac, cc, rfl, hcc, hcm⟩ := own_sl p1.c
      have ho1 := p1.c
      obtain ⟨L, hL⟩ : ∃ L, L = s.calls.length := ⟨_, rfl⟩
      have HL := Lib.hid hL
      have hlt' : L < 64 := by rw [hL]; exact hlt
      have hcc' : L ≤ cc := by rw [hL]; exact hcc
      rw [show ({ s with data := l } : St).calls.length = L from hL.symm] at b1 p1 ho1
      have hS0 : w1.drew.cell? ⟨g, 3, none⟩ = some (.slice Ac L cc) ∧ w1.drew.cell? ⟨g, 1, none⟩ = some (.int .u32 s.pc) := ⟨b1.cell 3, b1.cell 1⟩
      have hc3 : w1.cell? ⟨g, 3, none⟩ = some (.slice Ac L cc) := hS0.1
      have hsz := p1.sz
      have B1 := Lib.hid b1
      have P1 := Lib.hid p1
      have I1 := Lib.hid i1
      have O1 := Lib.hid ho1
      have hdt : decide ((L : Int) < 64) = true := by simp; omega
      unfold maxLen at hcm
      clear h1 b1 p1 i1 ho1 hL hlt hcc
      go_wp2_with fail
      refine (check_yes _).mono ?_
      rintro e w' ⟨rfl, rfl⟩
      go_wp2_with fail
      obtain ⟨W1, hW1⟩ : ∃ W1, W1 = w1.drew := ⟨_, rfl⟩
      refine wp_region_X (fun V => V.cell? ⟨g, 3, none⟩ = some (.slice Ac L cc) ∧ V.cell? ⟨g, 1, none⟩ = some (.int .u32 s.pc)) 13 (by kernel_rfl) ?_
      show wpAnyX _ _ _ _ _ _ 14 _ _ _
      rw [← hW1] at hS0 B1 P1 O1 hsz ⊢
      clear hW1
      refine wpAnyX_pure (i := 0) (v := ?_) rfl (by kernel_rfl) (by kernel_rfl) (by kernel_rfl) (by kernel_rfl) (by kernel_rfl) (fun _ _ _ h => h) (Or.inl ⟨by rfl, ?_⟩) (fun _ => by exact hS0) ?_
      rotate_left
      · intro w hSw; (try dsimp only at hSw); go_simp; (try with_reducible rfl)
      try simp only [List.getElem_toArray, List.getElem_cons_zero, Act.put, List.setIfInBounds_toArray, List.set_cons_zero, List.set_cons_succ]
      refine wpAnyX_pure (i := 1) (v := ?_) rfl (by kernel_rfl) (by kernel_rfl) (by kernel_rfl) (by kernel_rfl) (by kernel_rfl) (fun _ _ _ h => h) (Or.inl ⟨by rfl, ?_⟩) (fun _ => by exact hS0) ?_
      rotate_left
      · intro w hSw; (try dsimp only at hSw); go_simp; (try with_reducible rfl)
      try simp only [List.getElem_toArray, List.getElem_cons_zero, List.getElem_cons_succ, Act.put, List.setIfInBounds_toArray, List.set_cons_zero, List.set_cons_succ]
      refine wpAnyX_pure (i := 2) (v := ?_) rfl (by kernel_rfl) (by kernel_rfl) (by kernel_rfl) (by kernel_rfl) (by kernel_rfl) (fun _ _ _ h => h) (Or.inl ⟨by rfl, ?_⟩) (fun _ => by exact hS0) ?_
      rotate_left
      · intro w hSw; (try dsimp only at hSw); go_simp; (try with_reducible rfl)
      try simp only [List.getElem_toArray, List.getElem_cons_zero, List.getElem_cons_succ, Act.put, List.setIfInBounds_toArray, List.set_cons_zero, List.set_cons_succ]
      refine wpAnyX_pure (i := 3) (v := ?_) rfl (by kernel_rfl) (by kernel_rfl) (by kernel_rfl) (by kernel_rfl) (by kernel_rfl) (fun _ _ _ h => h) (Or.inl ⟨by rfl, ?_⟩) (fun _ => by exact hS0) ?_
      rotate_left
      · intro w hSw; (try dsimp only at hSw); go_simp; (try with_reducible rfl)
      try simp only [List.getElem_toArray, List.getElem_cons_zero, List.getElem_cons_succ, Act.put, List.setIfInBounds_toArray, List.set_cons_zero, List.set_cons_succ]
      refine wpAnyX_take (i := 4) (v := ?_) rfl (by kernel_rfl) (by kernel_rfl) (by kernel_rfl) (by kernel_rfl) (by kernel_rfl) (fun _ _ _ h => h) (Or.inl ⟨by rfl, ?_⟩) (by exact hS0) ?_
      rotate_left
      · intro w hSw; (try dsimp only at hSw); go_simp; (try with_reducible rfl)
      try simp only [List.getElem_toArray, List.getElem_cons_zero, List.getElem_cons_succ, Act.put, List.setIfInBounds_toArray, List.set_cons_zero, List.set_cons_succ]
      refine wpAnyX_pure (i := 5) (v := ?_) rfl (by kernel_rfl) (by kernel_rfl) (by kernel_rfl) (by kernel_rfl) (by kernel_rfl) (fun _ _ _ h => h) (Or.inl ⟨by rfl, ?_⟩) (fun _ => by exact hS0) ?_
      rotate_left
      · intro w hSw; (try dsimp only at hSw); go_simp; (try with_reducible rfl)
      try simp only [List.getElem_toArray, List.getElem_cons_zero, List.getElem_cons_succ, Act.put, List.setIfInBounds_toArray, List.set_cons_zero, List.set_cons_succ]
      refine wpAnyX_pure (i := 6) (v := ?_) rfl (by kernel_rfl) (by kernel_rfl) (by kernel_rfl) (by kernel_rfl) (by kernel_rfl) (fun _ _ _ h => h) (Or.inl ⟨by rfl, ?_⟩) (fun _ => by exact hS0) ?_
      rotate_left
      · intro w hSw; (try dsimp only at hSw); go_simp; (try with_reducible rfl)
      try simp only [List.getElem_toArray, List.getElem_cons_zero, List.getElem_cons_succ, Act.put, List.setIfInBounds_toArray, List.set_cons_zero, List.set_cons_succ]
      refine wpAnyX_pure (i := 7) (v := ?_) rfl (by kernel_rfl) (by kernel_rfl) (by kernel_rfl) (by kernel_rfl) (by kernel_rfl) (fun _ _ _ h => h) (Or.inl ⟨by rfl, ?_⟩) (fun _ => by exact hS0) ?_
      rotate_left
      · intro w hSw; (try dsimp only at hSw); go_simp; (try with_reducible rfl)
      try simp only [List.getElem_toArray, List.getElem_cons_zero, List.getElem_cons_succ, Act.put, List.setIfInBounds_toArray, List.set_cons_zero, List.set_cons_succ]
      refine wpAnyX_take (i := 8) (v := ?_) rfl (by kernel_rfl) (by kernel_rfl) (by kernel_rfl) (by kernel_rfl) (by kernel_rfl) (fun _ _ _ h => h) (Or.inl ⟨by rfl, ?_⟩) (by exact hS0) ?_
      rotate_left
      · intro w hSw; (try dsimp only at hSw); go_simp; (try with_reducible rfl)
      try simp only [List.getElem_toArray, List.getElem_cons_zero, List.getElem_cons_succ, Act.put, List.setIfInBounds_toArray, List.set_cons_zero, List.set_cons_succ]
      refine wpAnyX_one (i := 9) (by kernel_rfl) rfl (fun K hK => ?_)
      go_simp
      have B2 := Lib.hid (B1.out.alloc (.cells #[.int .u32 s.pc] 22))
      have P2 := Lib.hid (P1.out.alloc (.cells #[.int .u32 s.pc] 22))
      have hS2 : (W1.alloc (.cells #[.int .u32 s.pc] 22)).cell? ⟨g, 3, none⟩ = some (.slice Ac L cc) ∧ (W1.alloc (.cells #[.int .u32 s.pc] 22)).cell? ⟨g, 1, none⟩ = some (.int .u32 s.pc) := ⟨B2.out.cell 3, B2.out.cell 1⟩
      refine hK.out _ _ (fun _ => by exact hS2) ?_
      clear hK K
      try simp only [List.getElem_toArray, List.getElem_cons_zero, List.getElem_cons_succ, Act.put, List.setIfInBounds_toArray, List.set_cons_zero, List.set_cons_succ]
      refine wpAnyX_one (i := 10) (by kernel_rfl) rfl (fun K hK => ?_)
      refine step_push ty_u32 (by rfl) _ _ (by rfl) w0.heap.size (.slice Ac L cc) L (iv s.calls.reverse) (by rfl) (own_alloc O1.out _) _ (.int .u32 s.pc) (by rfl) (Blk.new _ _ _) rfl (Nat.le_trans hsz (by simp)) (by unfold maxLen; omega) (by omega) ?_
      intro v8 w8 hown8 hgrow8 hv8
      obtain ⟨A8, c8, rfl, _, _⟩ := own_form hown8
      have hb8 := B2.out.grown hgrow8 (fun e => ((P2.out.nc _ e.symm).1 rfl))
      have hS8 : w8.cell? ⟨g, 3, none⟩ = some (.slice Ac L cc) ∧ w8.cell? ⟨g, 1, none⟩ = some (.int .u32 s.pc) := ⟨hb8.cell 3, hb8.cell 1⟩
      have hx3 := hS8.1
      have hx1 := hS8.2
      have hf3 := hb8.frozen 3
      have hf1 := hb8.frozen 1
      have HO8 := Lib.hid hown8
      have HG8 := Lib.hid hgrow8
      have HV8 := Lib.hid hv8
      have HB8 := Lib.hid hb8
      clear hown8 hgrow8 hv8 hb8
      refine hK.out _ _ (fun _ => by exact hS8) ?_
      clear hK K
      try simp only [List.getElem_toArray, List.getElem_cons_zero, List.getElem_cons_succ, Act.put, List.setIfInBounds_toArray, List.set_cons_zero, List.set_cons_succ]
      refine wpAnyX_pure (i := 11) (v := ?_) rfl (by kernel_rfl) (by kernel_rfl) (by kernel_rfl) (by kernel_rfl) (by kernel_rfl) (fun _ _ _ h => h) (Or.inl ⟨by rfl, ?_⟩) (fun _ => by exact hS8) ?_
      rotate_left
      · intro w hSw; (try dsimp only at hSw); go_simp; (try with_reducible rfl)
      try simp only [List.getElem_toArray, List.getElem_cons_zero, List.getElem_cons_succ, Act.put, List.setIfInBounds_toArray, List.set_cons_zero, List.set_cons_succ]
      refine wpAnyX_pure (i := 12) (v := ?_) rfl (by kernel_rfl) (by kernel_rfl) (by kernel_rfl) (by kernel_rfl) (by kernel_rfl) (fun _ _ _ h => h) (Or.inl ⟨by rfl, ?_⟩) (fun _ => by exact hS8) ?_
      rotate_left
      · intro w hSw; (try dsimp only at hSw); go_simp; (try with_reducible rfl)
      try simp only [List.getElem_toArray, List.getElem_cons_zero, List.getElem_cons_succ, Act.put, List.setIfInBounds_toArray, List.set_cons_zero, List.set_cons_succ]
      refine wpAnyX_one (i := 13) (by kernel_rfl) rfl (fun K hK => ?_)
      go_simp
      refine hK.out _ _ (fun h => absurd h (by decide)) ?_
      clear hK K
      try simp only [List.getElem_toArray, List.getElem_cons_zero, List.getElem_cons_succ, Act.put, List.setIfInBounds_toArray, List.set_cons_zero, List.set_cons_succ]
      refine wpAnyX_done (by kernel_rfl) ?_ _
      go_wp2_with fail
      go_end0
      refine goes_yes HR.out ⟨gm, _, _, _, _, _, _, (HB8.out.set_ 3 _).set_ 1 _, (((P2.out.gc (D' := s.pc :: s.calls) ?_ HG8.out HV8.out).setG 3 _).setG 1 _), I1.out⟩
      rw [List.reverse_cons, iv_app, List.length_cons, ← HL.out]
      exact HO8.out
    · have HR := Lib.hid (show stCall s = none by unfold stCall; rw [hD]; exact if_neg hlt)
      have hdt : decide ((s.calls.length : Int) < 64) = false := by simp; omega
      clear h hD hm
      go_enter Tryd.func33, Tryd.ntmps33
      go_wp2_with fail
      refine HC.out.mono ?_
      rintro e w1 ⟨rfl, h1, _⟩
      obtain ⟨Ac, cc, hc3⟩ := h1.cAt
      have H1 := Lib.hid h1
      obtain ⟨L, hL⟩ : ∃ L, L = s.calls.length := ⟨_, rfl⟩
      rw [show ({ s with data := l } : St).calls.length = L from hL.symm] at hc3
      rw [← hL] at hdt hk
      clear h1 hlt hL
      go_wp2_with fail
      refine (check_no _).mono ?_
      rintro e w' ⟨rfl, rfl⟩
      exact ⟨rfl, goes_no HR.out ⟨_, H1.out, rfl⟩⟩

theorem ty_u8m : OneTy Tryd.prog 33 5 (.int .u8 0) 1 := ⟨Tryd.underlying33, by
  obtain ⟨i0, hi, hz0, hz1, hz2⟩ := info_parts (show (Tryd.prog.info? 5).map (fun i => (i.zero, i.size, i.bytes)) = some (some (.int .u8 0), 1, 1) by kernel_rfl)
  exact ⟨i0, hi, hz0, hz1, hz2⟩, rfl⟩

set_option maxRecDepth 100000 in
set_option maxHeartbeats 4000000 in
theorem ex_out (h : MP fix w0 W g n z bm s) (hm : s.data.length ≤ 256) (hk : s.out.length ≤ 1000000000) :
    Calls Tryd.prog 33 #[.pointer (some ⟨g, 0, none⟩), .int .u32 46] W (Goes fix w0 g n z bm s.out (stOut s) (.tuple #[])) := by
  obtain ⟨gm, vd, vc, vo, A, ni, ci, b0, p0, i0⟩ := h.drew
  obtain ⟨Ao, co, rfl, ho0, _⟩ := own_form p0.o
  have hS0 : W.drew.cell? ⟨g, 5, none⟩ = some (.slice Ao s.out.length co) := b0.cell 5
  obtain ⟨L, hL⟩ : ∃ L, L = s.out.length := ⟨_, rfl⟩
  rw [← hL] at hS0 hk
  have HL := Lib.hid hL
  clear b0 p0 i0 ho0 hL
  cases hD : s.data with
  | nil =>
    have HC := Lib.hid (pop_no h.drew hD)
    have HR := Lib.hid (show stOut s = none by unfold stOut; rw [hD])
    have H := Lib.hid h.drew
    clear h hD hm
    go_enter Tryd.func33, Tryd.ntmps33
    go_wp2_with fail
    refine wp_region_X (fun V => V.cell? ⟨g, 5, none⟩ = some (.slice Ao L co)) 12 (by kernel_rfl) ?_
    show wpAnyX _ _ _ _ _ _ 13 _ _ _
    refine wpAnyX_pure (i := 0) (v := ?_) rfl (by kernel_rfl) (by kernel_rfl) (by kernel_rfl) (by kernel_rfl) (by kernel_rfl) (fun _ _ _ h => h) (Or.inl ⟨by rfl, ?_⟩) (fun _ => by exact hS0) ?_
    rotate_left
    · intro w hSw; (try dsimp only at hSw); go_simp; (try with_reducible rfl)
    try simp only [List.getElem_toArray, List.getElem_cons_zero, Act.put, List.setIfInBounds_toArray, List.set_cons_zero, List.set_cons_succ]
    refine wpAnyX_pure (i := 1) (v := ?_) rfl (by kernel_rfl) (by kernel_rfl) (by kernel_rfl) (by kernel_rfl) (by kernel_rfl) (fun _ _ _ h => h) (Or.inl ⟨by rfl, ?_⟩) (fun _ => by exact hS0) ?_
    rotate_left
    · intro w hSw; (try dsimp only at hSw); go_simp; (try with_reducible rfl)
    try simp only [List.getElem_toArray, List.getElem_cons_zero, List.getElem_cons_succ, Act.put, List.setIfInBounds_toArray, List.set_cons_zero, List.set_cons_succ]
    refine wpAnyX_pure (i := 2) (v := ?_) rfl (by kernel_rfl) (by kernel_rfl) (by kernel_rfl) (by kernel_rfl) (by kernel_rfl) (fun _ _ _ h => h) (Or.inl ⟨by rfl, ?_⟩) (fun _ => by exact hS0) ?_
    rotate_left
    · intro w hSw; (try dsimp only at hSw); go_simp; (try with_reducible rfl)
    try simp only [List.getElem_toArray, List.getElem_cons_zero, List.getElem_cons_succ, Act.put, List.setIfInBounds_toArray, List.set_cons_zero, List.set_cons_succ]
    refine wpAnyX_pure (i := 3) (v := ?_) rfl (by kernel_rfl) (by kernel_rfl) (by kernel_rfl) (by kernel_rfl) (by kernel_rfl) (fun _ _ _ h => h) (Or.inl ⟨by rfl, ?_⟩) (fun _ => by exact hS0) ?_
    rotate_left
    · intro w hSw; (try dsimp only at hSw); go_simp; (try with_reducible rfl)
    try simp only [List.getElem_toArray, List.getElem_cons_zero, List.getElem_cons_succ, Act.put, List.setIfInBounds_toArray, List.set_cons_zero, List.set_cons_succ]
    refine wpAnyX_take (i := 4) (v := ?_) rfl (by kernel_rfl) (by kernel_rfl) (by kernel_rfl) (by kernel_rfl) (by kernel_rfl) (fun _ _ _ h => h) (Or.inl ⟨by rfl, ?_⟩) (by exact hS0) ?_
    rotate_left
    · intro w hSw; (try dsimp only at hSw); go_simp; (try with_reducible rfl)
    try simp only [List.getElem_toArray, List.getElem_cons_zero, List.getElem_cons_succ, Act.put, List.setIfInBounds_toArray, List.set_cons_zero, List.set_cons_succ]
    refine wpAnyX_pure (i := 5) (v := ?_) rfl (by kernel_rfl) (by kernel_rfl) (by kernel_rfl) (by kernel_rfl) (by kernel_rfl) (fun _ _ _ h => h) (Or.inl ⟨by rfl, ?_⟩) (fun _ => by exact hS0) ?_
    rotate_left
    · intro w hSw; (try dsimp only at hSw); go_simp; (try with_reducible rfl)
    try simp only [List.getElem_toArray, List.getElem_cons_zero, List.getElem_cons_succ, Act.put, List.setIfInBounds_toArray, List.set_cons_zero, List.set_cons_succ]
    refine wpAnyX_one (i := 6) (by kernel_rfl) rfl (fun K hK => ?_)
    go_simp
    refine HC.out.mono ?_
    rintro e w' ⟨rfl, rfl⟩
    exact ⟨rfl, goes_no HR.out ⟨s, H.out, rfl⟩⟩
  | cons x l =>
    have HC := Lib.hid (pop_yes h.drew hD hm)
    have HR := Lib.hid (show stOut s = some { s with out := s.out ++ [byte x], data := l } by unfold stOut; rw [hD])
    have HS0 := Lib.hid hS0
    obtain ⟨b, hb⟩ : ∃ b, b = byte x := ⟨_, rfl⟩
    have hwr : IntKind.u8.wrap x = (b.toNat : Int) := by rw [IntKind.wrap_u8, hb]; unfold byte; rw [UInt8.toNat_ofNat']; omega
    have HB := Lib.hid hb
    clear h hD hm hb
    go_enter Tryd.func33, Tryd.ntmps33
    go_wp2_with fail
    refine wp_region_X (fun V => V.cell? ⟨g, 5, none⟩ = some (.slice Ao L co)) 12 (by kernel_rfl) ?_
    show wpAnyX _ _ _ _ _ _ 13 _ _ _
    refine wpAnyX_pure (i := 0) (v := ?_) rfl (by kernel_rfl) (by kernel_rfl) (by kernel_rfl) (by kernel_rfl) (by kernel_rfl) (fun _ _ _ h => h) (Or.inl ⟨by rfl, ?_⟩) (fun _ => by exact hS0) ?_
    rotate_left
    · intro w hSw; (try dsimp only at hSw); go_simp; (try with_reducible rfl)
    try simp only [List.getElem_toArray, List.getElem_cons_zero, Act.put, List.setIfInBounds_toArray, List.set_cons_zero, List.set_cons_succ]
    refine wpAnyX_pure (i := 1) (v := ?_) rfl (by kernel_rfl) (by kernel_rfl) (by kernel_rfl) (by kernel_rfl) (by kernel_rfl) (fun _ _ _ h => h) (Or.inl ⟨by rfl, ?_⟩) (fun _ => by exact hS0) ?_
    rotate_left
    · intro w hSw; (try dsimp only at hSw); go_simp; (try with_reducible rfl)
    try simp only [List.getElem_toArray, List.getElem_cons_zero, List.getElem_cons_succ, Act.put, List.setIfInBounds_toArray, List.set_cons_zero, List.set_cons_succ]
    refine wpAnyX_pure (i := 2) (v := ?_) rfl (by kernel_rfl) (by kernel_rfl) (by kernel_rfl) (by kernel_rfl) (by kernel_rfl) (fun _ _ _ h => h) (Or.inl ⟨by rfl, ?_⟩) (fun _ => by exact hS0) ?_
    rotate_left
    · intro w hSw; (try dsimp only at hSw); go_simp; (try with_reducible rfl)
    try simp only [List.getElem_toArray, List.getElem_cons_zero, List.getElem_cons_succ, Act.put, List.setIfInBounds_toArray, List.set_cons_zero, List.set_cons_succ]
    refine wpAnyX_pure (i := 3) (v := ?_) rfl (by kernel_rfl) (by kernel_rfl) (by kernel_rfl) (by kernel_rfl) (by kernel_rfl) (fun _ _ _ h => h) (Or.inl ⟨by rfl, ?_⟩) (fun _ => by exact hS0) ?_
    rotate_left
    · intro w hSw; (try dsimp only at hSw); go_simp; (try with_reducible rfl)
    try simp only [List.getElem_toArray, List.getElem_cons_zero, List.getElem_cons_succ, Act.put, List.setIfInBounds_toArray, List.set_cons_zero, List.set_cons_succ]
    refine wpAnyX_take (i := 4) (v := ?_) rfl (by kernel_rfl) (by kernel_rfl) (by kernel_rfl) (by kernel_rfl) (by kernel_rfl) (fun _ _ _ h => h) (Or.inl ⟨by rfl, ?_⟩) (by exact hS0) ?_
    rotate_left
    · intro w hSw; (try dsimp only at hSw); go_simp; (try with_reducible rfl)
    try simp only [List.getElem_toArray, List.getElem_cons_zero, List.getElem_cons_succ, Act.put, List.setIfInBounds_toArray, List.set_cons_zero, List.set_cons_succ]
    refine wpAnyX_pure (i := 5) (v := ?_) rfl (by kernel_rfl) (by kernel_rfl) (by kernel_rfl) (by kernel_rfl) (by kernel_rfl) (fun _ _ _ h => h) (Or.inl ⟨by rfl, ?_⟩) (fun _ => by exact hS0) ?_
    rotate_left
    · intro w hSw; (try dsimp only at hSw); go_simp; (try with_reducible rfl)
    try simp only [List.getElem_toArray, List.getElem_cons_zero, List.getElem_cons_succ, Act.put, List.setIfInBounds_toArray, List.set_cons_zero, List.set_cons_succ]
    refine wpAnyX_one (i := 6) (by kernel_rfl) rfl (fun K hK => ?_)
    go_simp
    refine HC.out.mono ?_
    rintro e w1 ⟨rfl, h1, k1⟩
    have hS1 := (k1 5 (by decide)).trans HS0.out
    obtain ⟨gm1, vd1, vc1, vo1, A1, ni1, ci1, b1, p1, i1⟩ := h1
    have hvo : vo1 = .slice Ao L co := by have e1 := (b1.cell 5).symm.trans hS1; exact Option.some.inj e1
    subst hvo
    have O1 := Lib.hid p1.o
    have hsz := p1.sz
    have B1 := Lib.hid b1
    have P1 := Lib.hid p1
    have I1 := Lib.hid i1
    clear k1 b1 p1 i1
    refine hK.out _ _ (fun _ => by exact hS1) ?_
    clear hK K
    try simp only [List.getElem_toArray, List.getElem_cons_zero, List.getElem_cons_succ, Act.put, List.setIfInBounds_toArray, List.set_cons_zero, List.set_cons_succ]
    refine wpAnyX_pure (i := 7) (v := ?_) rfl (by kernel_rfl) (by kernel_rfl) (by kernel_rfl) (by kernel_rfl) (by kernel_rfl) (fun _ _ _ h => h) (Or.inl ⟨by rfl, ?_⟩) (fun _ => by exact hS1) ?_
    rotate_left
    · intro w hSw; (try dsimp only at hSw); go_simp; (try with_reducible rfl)
    try simp only [List.getElem_toArray, List.getElem_cons_zero, List.getElem_cons_succ, Act.put, List.setIfInBounds_toArray, List.set_cons_zero, List.set_cons_succ]
    refine wpAnyX_one (i := 8) (by kernel_rfl) rfl (fun K hK => ?_)
    go_simp
    have B2 := Lib.hid (B1.out.alloc (.cells #[.int .u8 (b.toNat : Int)] 5))
    have P2 := Lib.hid (P1.out.alloc (.cells #[.int .u8 (b.toNat : Int)] 5))
    have hS2 : (w1.alloc (.cells #[.int .u8 (b.toNat : Int)] 5)).cell? ⟨g, 5, none⟩ = some (.slice Ao L co) := B2.out.cell 5
    refine hK.out _ _ (fun _ => by exact hS2) ?_
    clear hK K
    try simp only [List.getElem_toArray, List.getElem_cons_zero, List.getElem_cons_succ, Act.put, List.setIfInBounds_toArray, List.set_cons_zero, List.set_cons_succ]
    refine wpAnyX_one (i := 9) (by kernel_rfl) rfl (fun K hK => ?_)
    refine step_push ty_u8m (by rfl) _ _ (by rfl) w0.heap.size (.slice Ao L co) L (bv s.out) (by rfl) (own_alloc (show w1.ownsRow _ _ _ _ L _ by rw [HL.out]; have := O1.out; rwa [HL.out] at this) _) _ (B b) (by rfl) (Blk.new _ _ _) rfl (Nat.le_trans hsz (by simp)) (by unfold maxLen; omega) (by omega) ?_
    intro v8 w8 hown8 hgrow8 hv8
    obtain ⟨A8, c8, rfl, _, _⟩ := own_form hown8
    have hb8 := B2.out.grown hgrow8 (fun e => ((P2.out.no _ e.symm).1 rfl))
    have hS8 : w8.cell? ⟨g, 5, none⟩ = some (.slice Ao L co) := hb8.cell 5
    have hf5 := hb8.frozen 5
    have HO8 := Lib.hid hown8
    have HG8 := Lib.hid hgrow8
    have HV8 := Lib.hid hv8
    have HB8 := Lib.hid hb8
    clear hown8 hgrow8 hv8 hb8
    refine hK.out _ _ (fun _ => by exact hS8) ?_
    clear hK K
    try simp only [List.getElem_toArray, List.getElem_cons_zero, List.getElem_cons_succ, Act.put, List.setIfInBounds_toArray, List.set_cons_zero, List.set_cons_succ]
    refine wpAnyX_pure (i := 10) (v := ?_) rfl (by kernel_rfl) (by kernel_rfl) (by kernel_rfl) (by kernel_rfl) (by kernel_rfl) (fun _ _ _ h => h) (Or.inl ⟨by rfl, ?_⟩) (fun _ => by exact hS8) ?_
    rotate_left
    · intro w hSw; (try dsimp only at hSw); go_simp; (try with_reducible rfl)
    try simp only [List.getElem_toArray, List.getElem_cons_zero, List.getElem_cons_succ, Act.put, List.setIfInBounds_toArray, List.set_cons_zero, List.set_cons_succ]
    refine wpAnyX_pure (i := 11) (v := ?_) rfl (by kernel_rfl) (by kernel_rfl) (by kernel_rfl) (by kernel_rfl) (by kernel_rfl) (fun _ _ _ h => h) (Or.inl ⟨by rfl, ?_⟩) (fun _ => by exact hS8) ?_
    rotate_left
    · intro w hSw; (try dsimp only at hSw); go_simp; (try with_reducible rfl)
    try simp only [List.getElem_toArray, List.getElem_cons_zero, List.getElem_cons_succ, Act.put, List.setIfInBounds_toArray, List.set_cons_zero, List.set_cons_succ]
    refine wpAnyX_one (i := 12) (by kernel_rfl) rfl (fun K hK => ?_)
    go_simp
    refine hK.out _ _ (fun h => absurd h (by decide)) ?_
    clear hK K
    try simp only [List.getElem_toArray, List.getElem_cons_zero, List.getElem_cons_succ, Act.put, List.setIfInBounds_toArray, List.set_cons_zero, List.set_cons_succ]
    refine wpAnyX_done (by kernel_rfl) ?_ _
    go_wp2_with fail
    go_end0
    refine goes_yes HR.out ⟨gm1, _, _, _, _, _, _, HB8.out.set_ 5 _, (P2.out.go (O' := s.out ++ [byte x]) ?_ HG8.out HV8.out).setG 5 _, I1.out⟩
    rw [bv_append, List.length_append, ← HL.out, ← HB.out]
    exact HO8.out
end
end Mc
end Go.Proofs.YtfjjdogjihpbnaaDoor
