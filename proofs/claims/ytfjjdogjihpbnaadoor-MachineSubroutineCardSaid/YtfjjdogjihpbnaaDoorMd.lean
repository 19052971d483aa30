/- Walks of the machine's binary operations, of their map, and of a look into it. -/
import Derived.Test.YtfjjdogjihpbnaaDoorMc
import Derived.WideMake
import Derived.Laws.BitsAllLaws
namespace Go.Proofs.YtfjjdogjihpbnaaDoor
open Go.RowKit
namespace Mc

/-- what a binary operation leaves -/
def Op2 (r : Option Int) (w : World) (e : Ending) (w' : World) : Prop :=
  (match r with
  | some v => e = .returned (.int .u32 v)
  | none => e = trapE) ∧ w = w'

section
variable (a b : Int) (w : World)
set_option maxHeartbeats 1000000 in
theorem bin_add : Calls Tryd.prog 24 #[.int .u32 a, .int .u32 b] w fun e w' => e = .returned (.int .u32 (u32 (a + b))) ∧ w = w' := by
  go_enter Tryd.func24, Tryd.ntmps24
  go_wp2
  go_ret
  exact ⟨rfl, rfl⟩
set_option maxHeartbeats 1000000 in
theorem bin_sub : Calls Tryd.prog 25 #[.int .u32 a, .int .u32 b] w fun e w' => e = .returned (.int .u32 (u32 (a - b))) ∧ w = w' := by
  go_enter Tryd.func25, Tryd.ntmps25
  go_wp2
  go_ret
  exact ⟨rfl, rfl⟩
set_option maxHeartbeats 1000000 in
theorem bin_mul : Calls Tryd.prog 26 #[.int .u32 a, .int .u32 b] w fun e w' => e = .returned (.int .u32 (u32 (a * b))) ∧ w = w' := by
  go_enter Tryd.func26, Tryd.ntmps26
  go_wp2
  go_ret
  exact ⟨rfl, rfl⟩
set_option maxHeartbeats 1000000 in
theorem bin_quo (ha : W32 a) (hb : W32 b) (h0 : b ≠ 0) : Calls Tryd.prog 27 #[.int .u32 a, .int .u32 b] w fun e w' => e = .returned (.int .u32 (a / b)) ∧ w = w' := by
  have h1 := ha.1
  have h2 := ha.2
  have h3 := hb.1
  have h4 := hb.2
  have h5 : (b != 0) = true := by simp [h0]
  have h6 : 1 ≤ b := by omega
  clear ha hb
  go_enter Tryd.func27, Tryd.ntmps27
  go_wp2_with fail
  refine (check_yes _).mono ?_
  rintro e w' ⟨rfl, rfl⟩
  go_wp2_with fail
  go_ret
  exact ⟨rfl, rfl⟩
set_option maxHeartbeats 1000000 in
theorem bin_quo0 : Calls Tryd.prog 27 #[.int .u32 a, .int .u32 0] w fun e w' => e = trapE ∧ w = w' := by
  go_enter Tryd.func27, Tryd.ntmps27
  go_wp2_with fail
  refine (check_no _).mono ?_
  rintro e w' ⟨rfl, rfl⟩
  exact ⟨rfl, rfl, rfl⟩
set_option maxHeartbeats 1000000 in
theorem bin_rem (ha : W32 a) (hb : W32 b) (h0 : b ≠ 0) : Calls Tryd.prog 29 #[.int .u32 a, .int .u32 b] w fun e w' => e = .returned (.int .u32 (a % b)) ∧ w = w' := by
  have h1 := ha.1
  have h2 := ha.2
  have h3 := hb.1
  have h4 := hb.2
  have h5 : (b != 0) = true := by simp [h0]
  have h6 : 1 ≤ b := by omega
  clear ha hb
  go_enter Tryd.func29, Tryd.ntmps29
  go_wp2_with fail
  refine (check_yes _).mono ?_
  rintro e w' ⟨rfl, rfl⟩
  go_wp2_with fail
  go_ret
  exact ⟨rfl, rfl⟩
set_option maxHeartbeats 1000000 in
theorem bin_rem0 : Calls Tryd.prog 29 #[.int .u32 a, .int .u32 0] w fun e w' => e = trapE ∧ w = w' := by
  go_enter Tryd.func29, Tryd.ntmps29
  go_wp2_with fail
  refine (check_no _).mono ?_
  rintro e w' ⟨rfl, rfl⟩
  exact ⟨rfl, rfl, rfl⟩
set_option maxHeartbeats 1000000 in
theorem bin_xor (ha : W32 a) (hb : W32 b) : Calls Tryd.prog 30 #[.int .u32 a, .int .u32 b] w fun e w' => e = .returned (.int .u32 ((a.toNat ^^^ b.toNat : Nat) : Int)) ∧ w = w' := by
  have h1 := ha.1
  have h2 := ha.2
  have h3 := hb.1
  have h4 := hb.2
  clear ha hb
  go_enter Tryd.func30, Tryd.ntmps30
  go_wp2
  go_ret
  rw [← u32_xor a b h1 (by omega) h3 (by omega)]
  exact ⟨rfl, rfl⟩
set_option maxHeartbeats 1000000 in
theorem bin_lss : Calls Tryd.prog 31 #[.int .u32 a, .int .u32 b] w fun e w' => e = .returned (.int .u32 (if a < b then 1 else 0)) ∧ w = w' := by
  by_cases h : a < b
  · rw [if_pos h]
    go_enter Tryd.func31, Tryd.ntmps31
    go_wp2
    go_ret
    exact ⟨rfl, rfl⟩
  · rw [if_neg h]
    go_enter Tryd.func31, Tryd.ntmps31
    go_wp2
    go_ret
    exact ⟨rfl, rfl⟩
end

/-- an entry of the map -/
def ent (k : Int) (f : FuncId) (born : Nat) : MapEntry := { key := .int .u32 k, val := .func (.func f) #[] #[], born := born }
def ents : Array MapEntry := #[ent 43 24 0, ent 45 25 1, ent 42 26 2, ent 47 27 3, ent 37 29 4, ent 94 30 5, ent 60 31 6]
theorem run_ins (w : World) (es : Array MapEntry) (clk : Nat) (k : Int) (f : FuncId) (hn : Instr.findNow (.int .u32) (.int .u32 k) es.toList 0 = some none) :
    (Instr.mapUpdate 43 (.map (some w.heap.size)) (.int .u32 k) (.func (.func f) #[] #[])).run Tryd.prog (w.alloc (.map es clk)) = .ok () (w.alloc (.map (es.push (ent k f clk)) (clk + 1))) := by
  have hb : (w.alloc (.map es clk)).heap[w.heap.size]? = some (.map es clk) := heap_alloc_new w _
  have hc : (Instr.checkKey false 10000 22 (.int .u32 k)).run Tryd.prog (w.alloc (.map es clk)) = .ok () (w.alloc (.map es clk)) := MapKept.run_checkKey (k := .int .u32 k) Tryd.underlying22 (by simp [MapKept.IsKey]) false 9999
  simp [Instr.mapUpdate, run_underlying Tryd.underlying43, MapKept.run_getObj_map hb, hc, MapKept.run_findKey Tryd.underlying22 hn, MapKept.run_setObj_map _ hb, Result.andThen]
  have key : ∀ o o' : Obj, ({ w.alloc o with heap := (w.alloc o).heap.setIfInBounds w.heap.size o' } : World) = w.alloc o' := fun o o' => by
    have h2 : (w.alloc o).heap.setIfInBounds w.heap.size o' = (w.alloc o').heap := by
      show (w.heap.push o).setIfInBounds w.heap.size o' = w.heap.push o'
      apply Array.ext'
      simp
    rw [h2]
    rfl
  exact key _ _
set_option maxRecDepth 100000 in
set_option maxHeartbeats 1000000 in
theorem binaries_f (w : World) : Calls Tryd.prog 14 #[] w fun e w' => e = .returned (.map (some w.heap.size)) ∧ w' = w.alloc (.map ents 7) := by
  have hmm := @run_makeMap Tryd.prog
  have i0 := run_ins w #[] 0 43 24 rfl
  have i1 := run_ins w #[ent 43 24 0] 1 45 25 rfl
  have i2 := run_ins w #[ent 43 24 0, ent 45 25 1] 2 42 26 rfl
  have i3 := run_ins w #[ent 43 24 0, ent 45 25 1, ent 42 26 2] 3 47 27 rfl
  have i4 := run_ins w #[ent 43 24 0, ent 45 25 1, ent 42 26 2, ent 47 27 3] 4 37 29 rfl
  have i5 := run_ins w #[ent 43 24 0, ent 45 25 1, ent 42 26 2, ent 47 27 3, ent 37 29 4] 5 94 30 rfl
  have i6 := run_ins w #[ent 43 24 0, ent 45 25 1, ent 42 26 2, ent 47 27 3, ent 37 29 4, ent 94 30 5] 6 60 31 rfl
  simp only [List.push_toArray, List.cons_append, List.nil_append, Nat.reduceAdd] at i0 i1 i2 i3 i4 i5 i6
  go_enter Tryd.func14, Tryd.ntmps14
  go_wp2
  go_ret
  exact ⟨rfl, rfl⟩

/-- a look into the map: a sign, another number -/
theorem run_look (w : World) (b clk : Nat) (hb : w.heap[b]? = some (.map ents clk)) (k : Int) (i : Nat) (f : FuncId) (hn : Instr.findNow (.int .u32) (.int .u32 k) ents.toList 0 = some (some (i, .func (.func f) #[] #[]))) :
    (Instr.lookup 43 (.map (some b)) (.int .u32 k) true).run Tryd.prog w = .ok (.tuple #[.func (.func f) #[] #[], .bool true]) w := by
  have hc : (Instr.checkKey false 10000 22 (.int .u32 k)).run Tryd.prog w = .ok () w := MapKept.run_checkKey (k := .int .u32 k) Tryd.underlying22 (by simp [MapKept.IsKey]) false 9999
  have he : ents.isEmpty = false := rfl
  simp [Instr.lookup, run_underlying Tryd.underlying43, MapKept.run_getObj_map hb, he, hc, MapKept.run_findKey Tryd.underlying22 hn, Result.andThen]
theorem run_miss (w : World) (b clk : Nat) (hb : w.heap[b]? = some (.map ents clk)) (k : Int) (hn : ¬ isBin k) :
    (Instr.lookup 43 (.map (some b)) (.int .u32 k) true).run Tryd.prog w = .ok (.tuple #[.nilFunc, .bool false]) w := by
  have hc : (Instr.checkKey false 10000 22 (.int .u32 k)).run Tryd.prog w = .ok () w := MapKept.run_checkKey (k := .int .u32 k) Tryd.underlying22 (by simp [MapKept.IsKey]) false 9999
  have he : ents.isEmpty = false := rfl
  have hf : Instr.findNow (.int .u32) (.int .u32 k) ents.toList 0 = some none := by
    unfold isBin at hn
    simp only [not_or] at hn
    obtain ⟨h1, h2, h3, h4, h5, h6, h7⟩ := hn
    have g : ∀ j : Int, ¬ k = j → (k == j) = false := fun j h => beq_eq_false_iff_ne.2 h
    simp [ents, ent, Instr.findNow, Instr.sameNow, g _ h1, g _ h2, g _ h3, g _ h4, g _ h5, g _ h6, g _ h7]
  simp [Instr.lookup, run_underlying Tryd.underlying43, MapKept.run_getObj_map hb, he, hc, MapKept.run_findKey Tryd.underlying22 hf, Result.andThen]

end Mc
end Go.Proofs.YtfjjdogjihpbnaaDoor
