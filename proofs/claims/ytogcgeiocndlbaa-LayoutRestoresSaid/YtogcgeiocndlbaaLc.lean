/- Layouts: Check, Locate and Offset of the program and of the reference. -/
import Derived.Test.YtogcgeiocndlbaaEi
import Derived.Test.YtogcgeiocndlbaaOi
import Derived.RegionTactic
import Derived.IntWalk
import Derived.ChangeAlike
namespace Go.Proofs.Ytogcgeiocndlbaa
open Go.RowKit
set_option linter.unusedVariables false
namespace Ly

theorem blk_new1 (w : World) (o : Obj) (t : TypeId) (cs : Array Value) : Blk ((w.alloc o).alloc (.cells cs t)) (w.heap.size + 1) t cs := by
  have := Blk.new (w.alloc o) t cs
  rwa [World.size_alloc] at this

def okL (d s : Int) : Prop := 1 ≤ d ∧ d ≤ 8 ∧ 0 ≤ s ∧ s ≤ 7
instance (d s : Int) : Decidable (okL d s) := by unfold okL; exact inferInstance
def locOk (d s o : Int) : Prop := okL d s ∧ 0 ≤ o ∧ o ≤ 2147483647
def offV (d a b c : Int) : Int := (a * d + b) * 28 + c
def offOk (d s a b c : Int) : Prop := okL d s ∧ 0 ≤ a ∧ a ≤ 2147483647 ∧ 0 ≤ b ∧ b < d ∧ 0 ≤ c ∧ c ≤ 27 ∧ offV d a b c ≤ 2147483647
instance (d s o : Int) : Decidable (locOk d s o) := by unfold locOk; exact inferInstance
instance (d s a b c : Int) : Decidable (offOk d s a b c) := by unfold offOk; exact inferInstance
/-- an int64 -/
def I64 (x : Int) : Prop := -9223372036854775808 ≤ x ∧ x ≤ 9223372036854775807
def Nm (r : Int) (w : World) (e : Ending) (w' : World) : Prop := e = .returned (.int .i64 r) ∧ Below w.heap.size w w'
def Po (a b c er : Int) (w : World) (e : Ending) (w' : World) : Prop := e = .returned (.tuple #[.agg #[.int .i64 a, .int .i64 b, .int .i64 c], .int .i64 er]) ∧ Below w.heap.size w w'
def Nn (r er : Int) (w : World) (e : Ending) (w' : World) : Prop := e = .returned (.tuple #[.int .i64 r, .int .i64 er]) ∧ Below w.heap.size w w'
def lay (d s : Int) : Value := .agg #[.int .i64 d, .int .i64 s]
def pos (a b c : Int) : Value := .agg #[.int .i64 a, .int .i64 b, .int .i64 c]

set_option maxRecDepth 100000 in
set_option maxHeartbeats 1000000 in
theorem check_yes (d s : Int) (h : okL d s) (w : World) : Calls Try.prog 14 #[.agg #[.int .i64 d, .int .i64 s]] w (Nm 0 w) := by
  obtain ⟨h1, h2, h3, h4⟩ := h
  go_enter Try.func14, Try.ntmps14
  go_wp2
  go_ret
  exact ⟨rfl, (Below.refl _ _).alloc (Nat.le_refl _) _⟩
set_option maxRecDepth 100000 in
set_option maxHeartbeats 1000000 in
theorem check_no (d s : Int) (h : ¬ okL d s) (w : World) : Calls Try.prog 14 #[.agg #[.int .i64 d, .int .i64 s]] w (Nm 2 w) := by
  have H := Lib.hid h
  clear h
  by_cases h1 : d < 1
  · go_enter Try.func14, Try.ntmps14
    go_wp2
    go_ret
    exact ⟨rfl, (Below.refl _ _).alloc (Nat.le_refl _) _⟩
  have k1 : decide (d < 1) = false := decide_eq_false h1
  by_cases h2 : 8 < d
  · go_enter Try.func14, Try.ntmps14
    go_wp2
    go_ret
    exact ⟨rfl, (Below.refl _ _).alloc (Nat.le_refl _) _⟩
  have k2 : decide (8 < d) = false := decide_eq_false h2
  by_cases h3 : s < 0
  · go_enter Try.func14, Try.ntmps14
    go_wp2
    go_ret
    exact ⟨rfl, (Below.refl _ _).alloc (Nat.le_refl _) _⟩
  have k3 : decide (s < 0) = false := decide_eq_false h3
  have h4 : 7 < s := by have := H.out; unfold okL at this; omega
  go_enter Try.func14, Try.ntmps14
  go_wp2
  go_ret
  exact ⟨rfl, (Below.refl _ _).alloc (Nat.le_refl _) _⟩

set_option maxRecDepth 100000 in
set_option maxHeartbeats 1000000 in
theorem rcheck_yes (d s : Int) (h : okL d s) (w : World) : Calls Try.prog 19 #[.agg #[.int .i64 d, .int .i64 s]] w (Nm 0 w) := by
  obtain ⟨h1, h2, h3, h4⟩ := h
  go_enter Try.func19, Try.ntmps19
  go_wp2
  go_ret
  exact ⟨rfl, (Below.refl _ _).alloc (Nat.le_refl _) _⟩
set_option maxRecDepth 100000 in
set_option maxHeartbeats 1000000 in
theorem rcheck_no (d s : Int) (h : ¬ okL d s) (w : World) : Calls Try.prog 19 #[.agg #[.int .i64 d, .int .i64 s]] w (Nm 2 w) := by
  have H := Lib.hid h
  clear h
  by_cases h1 : d < 1
  · go_enter Try.func19, Try.ntmps19
    go_wp2
    go_ret
    exact ⟨rfl, (Below.refl _ _).alloc (Nat.le_refl _) _⟩
  have k1 : decide (d < 1) = false := decide_eq_false h1
  by_cases h2 : 8 < d
  · go_enter Try.func19, Try.ntmps19
    go_wp2
    go_ret
    exact ⟨rfl, (Below.refl _ _).alloc (Nat.le_refl _) _⟩
  have k2 : decide (8 < d) = false := decide_eq_false h2
  by_cases h3 : s < 0
  · go_enter Try.func19, Try.ntmps19
    go_wp2
    go_ret
    exact ⟨rfl, (Below.refl _ _).alloc (Nat.le_refl _) _⟩
  have k3 : decide (s < 0) = false := decide_eq_false h3
  have h4 : 7 < s := by have := H.out; unfold okL at this; omega
  go_enter Try.func19, Try.ntmps19
  go_wp2
  go_ret
  exact ⟨rfl, (Below.refl _ _).alloc (Nat.le_refl _) _⟩

set_option maxRecDepth 100000 in
set_option maxHeartbeats 1000000 in
theorem loc_yes (d s o : Int) (h : locOk d s o) (w : World) : Calls Try.prog 15 #[.agg #[.int .i64 d, .int .i64 s], .int .i64 o] w (Po (o / 28 / d) (o / 28 % d) (o % 28) 0 w) := by
  obtain ⟨hok, h1, h2⟩ := h
  have HC := Lib.hid (fun W => check_yes d s hok W)
  obtain ⟨h3, h4, _, _⟩ := hok
  have g1 : 0 ≤ o / 28 := by omega
  have g2 : o / 28 ≤ 2147483647 := by omega
  go_enter Try.func15, Try.ntmps15
  go_wp2_with fail
  refine (HC.out _).mono ?_
  rintro e w1 ⟨rfl, hb⟩
  have HL := Lib.hid (((Blk.new w 23 #[.int .i64 d, .int .i64 s]).alloc (.cells #[.int .i64 0, .int .i64 0, .int .i64 0] 34)).below hb)
  have HP := Lib.hid ((blk_new1 w (.cells #[.int .i64 d, .int .i64 s] 23) 34 #[.int .i64 0, .int .i64 0, .int .i64 0]).below hb)
  have HB := Lib.hid ((((Below.refl _ w).alloc (Nat.le_refl _) (.cells #[.int .i64 d, .int .i64 s] 23)).alloc (by simp) (.cells #[.int .i64 0, .int .i64 0, .int .i64 0] 34)).trans (hb.mono (by simp; omega)))
  clear hb
  go_wp2_with fail
  refine wp_region_X (fun V => V.cell? ⟨w.heap.size, 0, none⟩ = some (.int .i64 d)) 11 (by kernel_rfl) ?_
  show wpAnyX _ _ _ _ _ _ 13 _ _ _
  have hS0 : w1.drew.cell? ⟨w.heap.size, 0, none⟩ = some (.int .i64 d) := HL.out.cell 0
  have HPd := Lib.hid HP.out.drew
  have hd0 : ¬ d = 0 := by omega
  have hq : IntKind.i64.wrap ((o / 28).tdiv d) = o / 28 / d := by
    rw [Int.tdiv_eq_ediv_of_nonneg g1]
    have q1 : 0 ≤ o / 28 / d := Int.ediv_nonneg g1 (by omega)
    have q2 : o / 28 / d ≤ o / 28 := Int.ediv_le_self _ g1
    exact IntWalk.i64_in _ (by omega)
  have ht : o.tmod 28 = o % 28 := Int.tmod_eq_emod_of_nonneg h1
  have hr : (o / 28).tmod d = o / 28 % d := Int.tmod_eq_emod_of_nonneg g1
  clear g1 g2
  refine wpAnyX_pure (i := 0) (v := ?_) rfl (by kernel_rfl) (by kernel_rfl) (by kernel_rfl) (by kernel_rfl) (by kernel_rfl) (fun _ _ _ h => h) (Or.inl ⟨by rfl, ?_⟩) (fun _ => by exact hS0) ?_
  rotate_left
  · intro w hSw; (try dsimp only at hSw); go_simp; (try with_reducible rfl)
  try simp only [List.getElem_toArray, List.getElem_cons_zero, Act.put, List.setIfInBounds_toArray, List.set_cons_zero, List.set_cons_succ]
  refine wpAnyX_pure (i := 1) (v := ?_) rfl (by kernel_rfl) (by kernel_rfl) (by kernel_rfl) (by kernel_rfl) (by kernel_rfl) (fun _ _ _ h => h) (Or.inl ⟨by rfl, ?_⟩) (fun _ => by exact hS0) ?_
  rotate_left
  · intro w hSw; (try dsimp only at hSw); go_simp; (try with_reducible rfl)
  try simp only [List.getElem_toArray, List.getElem_cons_zero, List.getElem_cons_succ, Act.put, List.setIfInBounds_toArray, List.set_cons_zero, List.set_cons_succ]
  refine wpAnyX_take (i := 2) (v := ?_) rfl (by kernel_rfl) (by kernel_rfl) (by kernel_rfl) (by kernel_rfl) (by kernel_rfl) (fun _ _ _ h => h) (Or.inl ⟨by rfl, ?_⟩) (by exact hS0) ?_
  rotate_left
  · intro w hSw; (try dsimp only at hSw); go_simp; (try with_reducible rfl)
  try simp only [List.getElem_toArray, List.getElem_cons_zero, List.getElem_cons_succ, Act.put, List.setIfInBounds_toArray, List.set_cons_zero, List.set_cons_succ]
  refine wpAnyX_pure (i := 3) (v := ?_) rfl (by kernel_rfl) (by kernel_rfl) (by kernel_rfl) (by kernel_rfl) (by kernel_rfl) (fun _ _ _ h => h) (Or.inl ⟨by rfl, ?_⟩) (fun _ => by exact hS0) ?_
  rotate_left
  · intro w hSw; (try dsimp only at hSw); go_simp; (try with_reducible rfl)
  try simp only [List.getElem_toArray, List.getElem_cons_zero, List.getElem_cons_succ, Act.put, List.setIfInBounds_toArray, List.set_cons_zero, List.set_cons_succ]
  refine wpAnyX_pure (i := 4) (v := ?_) rfl (by kernel_rfl) (by kernel_rfl) (by kernel_rfl) (by kernel_rfl) (by kernel_rfl) (fun _ _ _ h => h) (Or.inl ⟨by rfl, ?_⟩) (fun _ => by exact hS0) ?_
  rotate_left
  · intro w hSw; (try dsimp only at hSw); go_simp; (try with_reducible rfl)
  try simp only [List.getElem_toArray, List.getElem_cons_zero, List.getElem_cons_succ, Act.put, List.setIfInBounds_toArray, List.set_cons_zero, List.set_cons_succ]
  refine wpAnyX_pure (i := 5) (v := ?_) rfl (by kernel_rfl) (by kernel_rfl) (by kernel_rfl) (by kernel_rfl) (by kernel_rfl) (fun _ _ _ h => h) (Or.inl ⟨by rfl, ?_⟩) (fun _ => by exact hS0) ?_
  rotate_left
  · intro w hSw; (try dsimp only at hSw); go_simp; (try with_reducible rfl)
  try simp only [List.getElem_toArray, List.getElem_cons_zero, List.getElem_cons_succ, Act.put, List.setIfInBounds_toArray, List.set_cons_zero, List.set_cons_succ]
  refine wpAnyX_take (i := 6) (v := ?_) rfl (by kernel_rfl) (by kernel_rfl) (by kernel_rfl) (by kernel_rfl) (by kernel_rfl) (fun _ _ _ h => h) (Or.inl ⟨by rfl, ?_⟩) (by exact hS0) ?_
  rotate_left
  · intro w hSw; (try dsimp only at hSw); go_simp; (try with_reducible rfl)
  try simp only [List.getElem_toArray, List.getElem_cons_zero, List.getElem_cons_succ, Act.put, List.setIfInBounds_toArray, List.set_cons_zero, List.set_cons_succ]
  refine wpAnyX_pure (i := 7) (v := ?_) rfl (by kernel_rfl) (by kernel_rfl) (by kernel_rfl) (by kernel_rfl) (by kernel_rfl) (fun _ _ _ h => h) (Or.inl ⟨by rfl, ?_⟩) (fun _ => by exact hS0) ?_
  rotate_left
  · intro w hSw; (try dsimp only at hSw); go_simp; (try with_reducible rfl)
  try simp only [List.getElem_toArray, List.getElem_cons_zero, List.getElem_cons_succ, Act.put, List.setIfInBounds_toArray, List.set_cons_zero, List.set_cons_succ]
  refine wpAnyX_pure (i := 8) (v := ?_) rfl (by kernel_rfl) (by kernel_rfl) (by kernel_rfl) (by kernel_rfl) (by kernel_rfl) (fun _ _ _ h => h) (Or.inl ⟨by rfl, ?_⟩) (fun _ => by exact hS0) ?_
  rotate_left
  · intro w hSw; (try dsimp only at hSw); go_simp; (try with_reducible rfl)
  try simp only [List.getElem_toArray, List.getElem_cons_zero, List.getElem_cons_succ, Act.put, List.setIfInBounds_toArray, List.set_cons_zero, List.set_cons_succ]
  refine wpAnyX_pure (i := 9) (v := ?_) rfl (by kernel_rfl) (by kernel_rfl) (by kernel_rfl) (by kernel_rfl) (by kernel_rfl) (fun _ _ _ h => h) (Or.inl ⟨by rfl, ?_⟩) (fun _ => by exact hS0) ?_
  rotate_left
  · intro w hSw; (try dsimp only at hSw); go_simp; (try with_reducible rfl)
  try simp only [List.getElem_toArray, List.getElem_cons_zero, List.getElem_cons_succ, Act.put, List.setIfInBounds_toArray, List.set_cons_zero, List.set_cons_succ]
  refine wpAnyX_pure (i := 10) (v := ?_) rfl (by kernel_rfl) (by kernel_rfl) (by kernel_rfl) (by kernel_rfl) (by kernel_rfl) (fun _ _ _ h => h) (Or.inl ⟨by rfl, ?_⟩) (fun _ => by exact hS0) ?_
  rotate_left
  · intro w hSw; (try dsimp only at hSw); go_simp; (try with_reducible rfl)
  try simp only [List.getElem_toArray, List.getElem_cons_zero, List.getElem_cons_succ, Act.put, List.setIfInBounds_toArray, List.set_cons_zero, List.set_cons_succ]
  have b0 := HP.out.cell 0
  have b1 := HP.out.cell 1
  have b2 := HP.out.cell 2
  simp only [List.getElem?_toArray, List.getElem?_cons_zero, List.getElem?_cons_succ] at b0 b1 b2
  have f0 := HP.out.frozen 0
  have f1 := HP.out.frozen 1
  have f2 := HP.out.frozen 2
  have hlt := HP.out.lt
  refine wpAnyX_one (i := 11) (by kernel_rfl) rfl (fun K hK => ?_)
  go_simp
  clear b0 b1 b2 f0 f1 f2 hlt
  refine hK.out _ _ (fun h => absurd h (by decide)) ?_
  clear hK K
  try simp only [List.getElem_toArray, List.getElem_cons_zero, List.getElem_cons_succ, Act.put, List.setIfInBounds_toArray, List.set_cons_zero, List.set_cons_succ]
  refine wpAnyX_one (i := 12) (by kernel_rfl) rfl (fun K hK => ?_)
  go_simp
  refine hK.out _ _ (fun h => absurd h (by decide)) ?_
  clear hK K
  refine wpAnyX_done (by kernel_rfl) ?_ _
  have HPs := Lib.hid (((HP.out.set_ 0 (.int .i64 (o / 28 / d))).set_ 1 (.int .i64 (o / 28 % d))).set_ 2 (.int .i64 (o % 28)))
  have e0 := HPs.out.cell 0
  have e1 := HPs.out.cell 1
  have e2 := HPs.out.cell 2
  simp only [List.setIfInBounds_toArray, List.set_cons_zero, List.set_cons_succ, List.getElem?_toArray, List.getElem?_cons_zero, List.getElem?_cons_succ] at e0 e1 e2
  go_wp2_with fail
  exact bodyPost_ret (v := .tuple #[.agg #[.int .i64 (o / 28 / d), .int .i64 (o / 28 % d), .int .i64 (o % 28)], .int .i64 0]) (by simp [results, Try.results15, go_sem, e0, e1, e2]) rfl ⟨rfl, (((HB.out.setCell (by simp) _).setCell (by simp) _).setCell (by simp) _).drew⟩
set_option maxRecDepth 100000 in
set_option maxHeartbeats 1000000 in
theorem loc_no (d s o : Int) (h : ¬ locOk d s o) (w : World) : Calls Try.prog 15 #[.agg #[.int .i64 d, .int .i64 s], .int .i64 o] w (Po 0 0 0 2 w) := by
  have HN := Lib.hid h
  clear h
  have key : ∀ (r : Int), (∀ W, Calls Try.prog 14 #[.agg #[.int .i64 d, .int .i64 s]] W (Nm r W)) → (r = 0 ∧ (o < 0 ∨ 2147483647 < o)) ∨ r = 2 → Calls Try.prog 15 #[.agg #[.int .i64 d, .int .i64 s], .int .i64 o] w (Po 0 0 0 2 w) := by
    intro r hc hr
    have HC := Lib.hid hc
    have HB := Lib.hid (fun (w1 : World) (hb : Below ((w.alloc (.cells #[.int .i64 d, .int .i64 s] 23)).alloc (.cells #[.int .i64 0, .int .i64 0, .int .i64 0] 34)).heap.size ((w.alloc (.cells #[.int .i64 d, .int .i64 s] 23)).alloc (.cells #[.int .i64 0, .int .i64 0, .int .i64 0] 34)) w1) => (((((Below.refl _ w).alloc (Nat.le_refl _) (.cells #[.int .i64 d, .int .i64 s] 23)).alloc (by simp) (.cells #[.int .i64 0, .int .i64 0, .int .i64 0] 34)).trans (hb.mono (by simp; omega))).setCell (p := ⟨w.heap.size + 1, 0, none⟩) (by simp) (.int .i64 0)).setCell (p := ⟨w.heap.size + 1, 1, none⟩) (by simp) (.int .i64 0) |>.setCell (p := ⟨w.heap.size + 1, 2, none⟩) (by simp) (.int .i64 0))
    have HP := Lib.hid (fun (w1 : World) hb => (blk_new1 w (.cells #[.int .i64 d, .int .i64 s] 23) 34 #[.int .i64 0, .int .i64 0, .int .i64 0]).below (w' := w1) hb)
    clear hc
    rcases hr with ⟨rfl, hr | hr⟩ | rfl
    case' inl.inr => have hn : decide (o < 0) = false := decide_eq_false (by omega)
    all_goals
      go_enter Try.func15, Try.ntmps15
      go_wp2_with fail
      refine (HC.out _).mono ?_
      rintro e w1 ⟨rfl, hb⟩
      have HPs := Lib.hid ((((HP.out w1 hb).set_ 0 (.int .i64 0)).set_ 1 (.int .i64 0)).set_ 2 (.int .i64 0))
      have b0 := (HP.out w1 hb).cell 0
      have b1 := (HP.out w1 hb).cell 1
      have b2 := (HP.out w1 hb).cell 2
      simp only [List.getElem?_toArray, List.getElem?_cons_zero, List.getElem?_cons_succ] at b0 b1 b2
      have f0 := (HP.out w1 hb).frozen 0
      have f1 := (HP.out w1 hb).frozen 1
      have f2 := (HP.out w1 hb).frozen 2
      have hlt := (HP.out w1 hb).lt
      have HBw := Lib.hid (HB.out w1 hb)
      clear hb
      go_wp2_with fail
      clear b0 b1 b2 f0 f1 f2 hlt
      have e0 := HPs.out.cell 0
      have e1 := HPs.out.cell 1
      have e2 := HPs.out.cell 2
      simp only [List.setIfInBounds_toArray, List.set_cons_zero, List.set_cons_succ, List.getElem?_toArray, List.getElem?_cons_zero, List.getElem?_cons_succ] at e0 e1 e2
      exact bodyPost_ret (v := .tuple #[.agg #[.int .i64 0, .int .i64 0, .int .i64 0], .int .i64 2]) (by simp [results, Try.results15, go_sem, e0, e1, e2]) rfl ⟨rfl, HBw.out⟩
  by_cases hok : okL d s
  · exact key 0 (fun W => check_yes d s hok W) (.inl ⟨rfl, Classical.byContradiction fun hh => HN.out ⟨hok, by omega, by omega⟩⟩)
  · exact key 2 (fun W => check_no d s hok W) (.inr rfl)

set_option maxRecDepth 100000 in
set_option maxHeartbeats 1000000 in
theorem rloc_yes (d s o : Int) (h : locOk d s o) (w : World) : Calls Try.prog 16 #[.agg #[.int .i64 d, .int .i64 s], .int .i64 o] w (Po (o / 28 / d) (o / 28 % d) (o % 28) 0 w) := by
  obtain ⟨hok, h1, h2⟩ := h
  have HC := Lib.hid (fun W => rcheck_yes d s hok W)
  obtain ⟨h3, h4, _, _⟩ := hok
  have g1 : 0 ≤ o / 28 := by omega
  have g2 : o / 28 ≤ 2147483647 := by omega
  go_enter Try.func16, Try.ntmps16
  go_wp2_with fail
  refine (HC.out _).mono ?_
  rintro e w1 ⟨rfl, hb⟩
  have HL := Lib.hid (((Blk.new w 23 #[.int .i64 d, .int .i64 s]).alloc (.cells #[.int .i64 0, .int .i64 0, .int .i64 0] 34)).below hb)
  have HP := Lib.hid ((blk_new1 w (.cells #[.int .i64 d, .int .i64 s] 23) 34 #[.int .i64 0, .int .i64 0, .int .i64 0]).below hb)
  have HB := Lib.hid ((((Below.refl _ w).alloc (Nat.le_refl _) (.cells #[.int .i64 d, .int .i64 s] 23)).alloc (by simp) (.cells #[.int .i64 0, .int .i64 0, .int .i64 0] 34)).trans (hb.mono (by simp; omega)))
  clear hb
  go_wp2_with fail
  refine wp_region_X (fun V => V.cell? ⟨w.heap.size, 0, none⟩ = some (.int .i64 d)) 11 (by kernel_rfl) ?_
  show wpAnyX _ _ _ _ _ _ 13 _ _ _
  have hS0 : w1.drew.cell? ⟨w.heap.size, 0, none⟩ = some (.int .i64 d) := HL.out.cell 0
  have HPd := Lib.hid HP.out.drew
  have hd0 : ¬ d = 0 := by omega
  have hq : IntKind.i64.wrap ((o / 28).tdiv d) = o / 28 / d := by
    rw [Int.tdiv_eq_ediv_of_nonneg g1]
    have q1 : 0 ≤ o / 28 / d := Int.ediv_nonneg g1 (by omega)
    have q2 : o / 28 / d ≤ o / 28 := Int.ediv_le_self _ g1
    exact IntWalk.i64_in _ (by omega)
  have ht : o.tmod 28 = o % 28 := Int.tmod_eq_emod_of_nonneg h1
  have hr : (o / 28).tmod d = o / 28 % d := Int.tmod_eq_emod_of_nonneg g1
  clear g1 g2
  refine wpAnyX_pure (i := 0) (v := ?_) rfl (by kernel_rfl) (by kernel_rfl) (by kernel_rfl) (by kernel_rfl) (by kernel_rfl) (fun _ _ _ h => h) (Or.inl ⟨by rfl, ?_⟩) (fun _ => by exact hS0) ?_
  rotate_left
  · intro w hSw; (try dsimp only at hSw); go_simp; (try with_reducible rfl)
  try simp only [List.getElem_toArray, List.getElem_cons_zero, Act.put, List.setIfInBounds_toArray, List.set_cons_zero, List.set_cons_succ]
  refine wpAnyX_pure (i := 1) (v := ?_) rfl (by kernel_rfl) (by kernel_rfl) (by kernel_rfl) (by kernel_rfl) (by kernel_rfl) (fun _ _ _ h => h) (Or.inl ⟨by rfl, ?_⟩) (fun _ => by exact hS0) ?_
  rotate_left
  · intro w hSw; (try dsimp only at hSw); go_simp; (try with_reducible rfl)
  try simp only [List.getElem_toArray, List.getElem_cons_zero, List.getElem_cons_succ, Act.put, List.setIfInBounds_toArray, List.set_cons_zero, List.set_cons_succ]
  refine wpAnyX_take (i := 2) (v := ?_) rfl (by kernel_rfl) (by kernel_rfl) (by kernel_rfl) (by kernel_rfl) (by kernel_rfl) (fun _ _ _ h => h) (Or.inl ⟨by rfl, ?_⟩) (by exact hS0) ?_
  rotate_left
  · intro w hSw; (try dsimp only at hSw); go_simp; (try with_reducible rfl)
  try simp only [List.getElem_toArray, List.getElem_cons_zero, List.getElem_cons_succ, Act.put, List.setIfInBounds_toArray, List.set_cons_zero, List.set_cons_succ]
  refine wpAnyX_pure (i := 3) (v := ?_) rfl (by kernel_rfl) (by kernel_rfl) (by kernel_rfl) (by kernel_rfl) (by kernel_rfl) (fun _ _ _ h => h) (Or.inl ⟨by rfl, ?_⟩) (fun _ => by exact hS0) ?_
  rotate_left
  · intro w hSw; (try dsimp only at hSw); go_simp; (try with_reducible rfl)
  try simp only [List.getElem_toArray, List.getElem_cons_zero, List.getElem_cons_succ, Act.put, List.setIfInBounds_toArray, List.set_cons_zero, List.set_cons_succ]
  refine wpAnyX_pure (i := 4) (v := ?_) rfl (by kernel_rfl) (by kernel_rfl) (by kernel_rfl) (by kernel_rfl) (by kernel_rfl) (fun _ _ _ h => h) (Or.inl ⟨by rfl, ?_⟩) (fun _ => by exact hS0) ?_
  rotate_left
  · intro w hSw; (try dsimp only at hSw); go_simp; (try with_reducible rfl)
  try simp only [List.getElem_toArray, List.getElem_cons_zero, List.getElem_cons_succ, Act.put, List.setIfInBounds_toArray, List.set_cons_zero, List.set_cons_succ]
  refine wpAnyX_pure (i := 5) (v := ?_) rfl (by kernel_rfl) (by kernel_rfl) (by kernel_rfl) (by kernel_rfl) (by kernel_rfl) (fun _ _ _ h => h) (Or.inl ⟨by rfl, ?_⟩) (fun _ => by exact hS0) ?_
  rotate_left
  · intro w hSw; (try dsimp only at hSw); go_simp; (try with_reducible rfl)
  try simp only [List.getElem_toArray, List.getElem_cons_zero, List.getElem_cons_succ, Act.put, List.setIfInBounds_toArray, List.set_cons_zero, List.set_cons_succ]
  refine wpAnyX_take (i := 6) (v := ?_) rfl (by kernel_rfl) (by kernel_rfl) (by kernel_rfl) (by kernel_rfl) (by kernel_rfl) (fun _ _ _ h => h) (Or.inl ⟨by rfl, ?_⟩) (by exact hS0) ?_
  rotate_left
  · intro w hSw; (try dsimp only at hSw); go_simp; (try with_reducible rfl)
  try simp only [List.getElem_toArray, List.getElem_cons_zero, List.getElem_cons_succ, Act.put, List.setIfInBounds_toArray, List.set_cons_zero, List.set_cons_succ]
  refine wpAnyX_pure (i := 7) (v := ?_) rfl (by kernel_rfl) (by kernel_rfl) (by kernel_rfl) (by kernel_rfl) (by kernel_rfl) (fun _ _ _ h => h) (Or.inl ⟨by rfl, ?_⟩) (fun _ => by exact hS0) ?_
  rotate_left
  · intro w hSw; (try dsimp only at hSw); go_simp; (try with_reducible rfl)
  try simp only [List.getElem_toArray, List.getElem_cons_zero, List.getElem_cons_succ, Act.put, List.setIfInBounds_toArray, List.set_cons_zero, List.set_cons_succ]
  refine wpAnyX_pure (i := 8) (v := ?_) rfl (by kernel_rfl) (by kernel_rfl) (by kernel_rfl) (by kernel_rfl) (by kernel_rfl) (fun _ _ _ h => h) (Or.inl ⟨by rfl, ?_⟩) (fun _ => by exact hS0) ?_
  rotate_left
  · intro w hSw; (try dsimp only at hSw); go_simp; (try with_reducible rfl)
  try simp only [List.getElem_toArray, List.getElem_cons_zero, List.getElem_cons_succ, Act.put, List.setIfInBounds_toArray, List.set_cons_zero, List.set_cons_succ]
  refine wpAnyX_pure (i := 9) (v := ?_) rfl (by kernel_rfl) (by kernel_rfl) (by kernel_rfl) (by kernel_rfl) (by kernel_rfl) (fun _ _ _ h => h) (Or.inl ⟨by rfl, ?_⟩) (fun _ => by exact hS0) ?_
  rotate_left
  · intro w hSw; (try dsimp only at hSw); go_simp; (try with_reducible rfl)
  try simp only [List.getElem_toArray, List.getElem_cons_zero, List.getElem_cons_succ, Act.put, List.setIfInBounds_toArray, List.set_cons_zero, List.set_cons_succ]
  refine wpAnyX_pure (i := 10) (v := ?_) rfl (by kernel_rfl) (by kernel_rfl) (by kernel_rfl) (by kernel_rfl) (by kernel_rfl) (fun _ _ _ h => h) (Or.inl ⟨by rfl, ?_⟩) (fun _ => by exact hS0) ?_
  rotate_left
  · intro w hSw; (try dsimp only at hSw); go_simp; (try with_reducible rfl)
  try simp only [List.getElem_toArray, List.getElem_cons_zero, List.getElem_cons_succ, Act.put, List.setIfInBounds_toArray, List.set_cons_zero, List.set_cons_succ]
  have b0 := HP.out.cell 0
  have b1 := HP.out.cell 1
  have b2 := HP.out.cell 2
  simp only [List.getElem?_toArray, List.getElem?_cons_zero, List.getElem?_cons_succ] at b0 b1 b2
  have f0 := HP.out.frozen 0
  have f1 := HP.out.frozen 1
  have f2 := HP.out.frozen 2
  have hlt := HP.out.lt
  refine wpAnyX_one (i := 11) (by kernel_rfl) rfl (fun K hK => ?_)
  go_simp
  clear b0 b1 b2 f0 f1 f2 hlt
  refine hK.out _ _ (fun h => absurd h (by decide)) ?_
  clear hK K
  try simp only [List.getElem_toArray, List.getElem_cons_zero, List.getElem_cons_succ, Act.put, List.setIfInBounds_toArray, List.set_cons_zero, List.set_cons_succ]
  refine wpAnyX_one (i := 12) (by kernel_rfl) rfl (fun K hK => ?_)
  go_simp
  refine hK.out _ _ (fun h => absurd h (by decide)) ?_
  clear hK K
  refine wpAnyX_done (by kernel_rfl) ?_ _
  have HPs := Lib.hid (((HP.out.set_ 0 (.int .i64 (o / 28 / d))).set_ 1 (.int .i64 (o / 28 % d))).set_ 2 (.int .i64 (o % 28)))
  have e0 := HPs.out.cell 0
  have e1 := HPs.out.cell 1
  have e2 := HPs.out.cell 2
  simp only [List.setIfInBounds_toArray, List.set_cons_zero, List.set_cons_succ, List.getElem?_toArray, List.getElem?_cons_zero, List.getElem?_cons_succ] at e0 e1 e2
  go_wp2_with fail
  exact bodyPost_ret (v := .tuple #[.agg #[.int .i64 (o / 28 / d), .int .i64 (o / 28 % d), .int .i64 (o % 28)], .int .i64 0]) (by simp [results, Try.results16, go_sem, e0, e1, e2]) rfl ⟨rfl, (((HB.out.setCell (by simp) _).setCell (by simp) _).setCell (by simp) _).drew⟩
set_option maxRecDepth 100000 in
set_option maxHeartbeats 1000000 in
theorem rloc_no (d s o : Int) (h : ¬ locOk d s o) (w : World) : Calls Try.prog 16 #[.agg #[.int .i64 d, .int .i64 s], .int .i64 o] w (Po 0 0 0 2 w) := by
  have HN := Lib.hid h
  clear h
  have key : ∀ (r : Int), (∀ W, Calls Try.prog 19 #[.agg #[.int .i64 d, .int .i64 s]] W (Nm r W)) → (r = 0 ∧ (o < 0 ∨ 2147483647 < o)) ∨ r = 2 → Calls Try.prog 16 #[.agg #[.int .i64 d, .int .i64 s], .int .i64 o] w (Po 0 0 0 2 w) := by
    intro r hc hr
    have HC := Lib.hid hc
    have HB := Lib.hid (fun (w1 : World) (hb : Below ((w.alloc (.cells #[.int .i64 d, .int .i64 s] 23)).alloc (.cells #[.int .i64 0, .int .i64 0, .int .i64 0] 34)).heap.size ((w.alloc (.cells #[.int .i64 d, .int .i64 s] 23)).alloc (.cells #[.int .i64 0, .int .i64 0, .int .i64 0] 34)) w1) => (((((Below.refl _ w).alloc (Nat.le_refl _) (.cells #[.int .i64 d, .int .i64 s] 23)).alloc (by simp) (.cells #[.int .i64 0, .int .i64 0, .int .i64 0] 34)).trans (hb.mono (by simp; omega))).setCell (p := ⟨w.heap.size + 1, 0, none⟩) (by simp) (.int .i64 0)).setCell (p := ⟨w.heap.size + 1, 1, none⟩) (by simp) (.int .i64 0) |>.setCell (p := ⟨w.heap.size + 1, 2, none⟩) (by simp) (.int .i64 0))
    have HP := Lib.hid (fun (w1 : World) hb => (blk_new1 w (.cells #[.int .i64 d, .int .i64 s] 23) 34 #[.int .i64 0, .int .i64 0, .int .i64 0]).below (w' := w1) hb)
    clear hc
    rcases hr with ⟨rfl, hr | hr⟩ | rfl
    case' inl.inr => have hn : decide (o < 0) = false := decide_eq_false (by omega)
    all_goals
      go_enter Try.func16, Try.ntmps16
      go_wp2_with fail
      refine (HC.out _).mono ?_
      rintro e w1 ⟨rfl, hb⟩
      have HPs := Lib.hid ((((HP.out w1 hb).set_ 0 (.int .i64 0)).set_ 1 (.int .i64 0)).set_ 2 (.int .i64 0))
      have b0 := (HP.out w1 hb).cell 0
      have b1 := (HP.out w1 hb).cell 1
      have b2 := (HP.out w1 hb).cell 2
      simp only [List.getElem?_toArray, List.getElem?_cons_zero, List.getElem?_cons_succ] at b0 b1 b2
      have f0 := (HP.out w1 hb).frozen 0
      have f1 := (HP.out w1 hb).frozen 1
      have f2 := (HP.out w1 hb).frozen 2
      have hlt := (HP.out w1 hb).lt
      have HBw := Lib.hid (HB.out w1 hb)
      clear hb
      go_wp2_with fail
      clear b0 b1 b2 f0 f1 f2 hlt
      have e0 := HPs.out.cell 0
      have e1 := HPs.out.cell 1
      have e2 := HPs.out.cell 2
      simp only [List.setIfInBounds_toArray, List.set_cons_zero, List.set_cons_succ, List.getElem?_toArray, List.getElem?_cons_zero, List.getElem?_cons_succ] at e0 e1 e2
      exact bodyPost_ret (v := .tuple #[.agg #[.int .i64 0, .int .i64 0, .int .i64 0], .int .i64 2]) (by simp [results, Try.results16, go_sem, e0, e1, e2]) rfl ⟨rfl, HBw.out⟩
  by_cases hok : okL d s
  · exact key 0 (fun W => rcheck_yes d s hok W) (.inl ⟨rfl, Classical.byContradiction fun hh => HN.out ⟨hok, by omega, by omega⟩⟩)
  · exact key 2 (fun W => rcheck_no d s hok W) (.inr rfl)

end Ly
end Go.Proofs.Ytogcgeiocndlbaa
