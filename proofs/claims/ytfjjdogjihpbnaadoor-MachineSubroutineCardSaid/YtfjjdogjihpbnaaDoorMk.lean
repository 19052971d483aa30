/- The machine's run: its deferred closure. -/
import Derived.Test.YtfjjdogjihpbnaaDoorMj
import Derived.Defers
import Derived.Recover
namespace Go.Proofs.YtfjjdogjihpbnaaDoor
open Go.RowKit
namespace Mc

theorem run1_trap (eb : Nat) (x : Int) (w : World) (h : Blk w eb 24 #[.int .i64 x]) :
    CallsD Tryd.prog 32 #[.pointer (some ⟨eb, 0, none⟩)] (.panicking [{ v := .iface 65 (.agg #[]), recovered := false }]) w fun e u' w' =>
      e = .returned (.tuple #[]) ∧ u' = .panicking [{ v := .iface 65 (.agg #[]), recovered := true }] ∧ w' = (w.alloc (.cells #[] 65)).setCell ⟨eb, 0, none⟩ (.int .i64 12) := by
  have hta : ∀ w : World, (Instr.typeAssert (.iface 65 (.agg #[])) 20 65 true).run Tryd.prog w = .ok (.tuple #[.agg #[], .bool true]) w := fun _ => by kernel_rfl
  have hc := (h.alloc (.cells #[] 65)).cell 0
  rw [show (#[Value.int .i64 x] : Array Value)[0]? = some (.int .i64 x) from rfl] at hc
  have hz := (h.alloc (.cells #[] 65)).frozen 0
  clear h
  refine callsD_of_wpS Tryd.func32 rfl fun c₀ cs hu => ?_
  apply wpS_seq
  apply wpS_region
  simp [wpOpsS, go_sem, recoverD, hu, Tryd.ntmps32, Exit.thenS]
  refine wpS_of_wp ?_
  rw [show Array.replicate 13 undef = #[undef, undef, undef, undef, undef, undef, undef, undef, undef, undef, undef, undef, undef] from rfl]
  simp only [List.setIfInBounds_toArray, List.append_toArray, List.set_cons_zero, List.set_cons_succ, List.cons_append, List.nil_append]
  go_wp2
  exact ⟨rfl, _, rfl, .tuple #[], by simp [results, Tryd.results32], rfl, rfl, rfl⟩

theorem run1_idle (eb : Nat) (w : World) :
    CallsD Tryd.prog 32 #[.pointer (some ⟨eb, 0, none⟩)] .returning w fun e u' w' =>
      e = .returned (.tuple #[]) ∧ u' = .returning ∧ w' = w.alloc (.cells #[] 65) := by
  have hta : ∀ w : World, (Instr.typeAssert .nilIface 20 65 true).run Tryd.prog w = .ok (.tuple #[.agg #[], .bool false]) w := fun _ => by kernel_rfl
  refine callsD_of_wpS Tryd.func32 rfl fun c₀ cs hu => ?_
  apply wpS_seq
  apply wpS_region
  simp [wpOpsS, go_sem, recoverD, hu, Tryd.ntmps32, Exit.thenS]
  refine wpS_of_wp ?_
  rw [show Array.replicate 13 undef = #[undef, undef, undef, undef, undef, undef, undef, undef, undef, undef, undef, undef, undef] from rfl]
  simp only [List.setIfInBounds_toArray, List.append_toArray, List.set_cons_zero, List.set_cons_succ, List.cons_append, List.nil_append]
  go_wp2
  exact ⟨rfl, .returning, by rw [← hu], .tuple #[], by simp [results, Tryd.results32], rfl, rfl, rfl⟩

section
variable {fix : List (Nat × Obj)} {w0 W : World} {g : Nat} {n : Int} {z : Bool} {bm : Value} {s : St}
/-- a block that the call has just made stays as it is -/
theorem MP.addFix (h : MP fix w0 W g n z bm s) (o : Obj) : MP ((W.heap.size, o) :: fix) w0 (W.alloc o) g n z bm s := by
  obtain ⟨gm, vd, vc, vo, A, ni, ci, h1, h2, h3⟩ := h
  refine ⟨gm, vd, vc, vo, A, ni, ci, h1.alloc o, ?_, h3⟩
  have h4 := h2.alloc o
  refine ⟨h4.bel, h4.gb, h4.mb, h4.m, h4.d, h4.c, h4.o, h4.nd, h4.nc, h4.no, fun p hp => ?_⟩
  rcases List.mem_cons.1 hp with rfl | hp
  · refine ⟨heap_alloc_new W o, fun e => ?_, fun e => ?_, fun e => ?_, fun e => ?_, fun e => ?_⟩
    · have := h2.gb.2; omega
    · have := h2.gmlt; omega
    · have := (h2.d.lt _ e).2; omega
    · have := (h2.c.lt _ e).2; omega
    · have := (h2.o.lt _ e).2; omega
  · exact h4.f p hp
theorem MP.dropFix {p : Nat × Obj} (h : MP (p :: fix) w0 W g n z bm s) : MP fix w0 W g n z bm s := by
  obtain ⟨gm, vd, vc, vo, A, ni, ci, h1, h2, h3⟩ := h
  exact ⟨gm, vd, vc, vo, A, ni, ci, h1, ⟨h2.bel, h2.gb, h2.mb, h2.m, h2.d, h2.c, h2.o, h2.nd, h2.nc, h2.no, fun q hq => h2.f q (List.mem_cons_of_mem _ hq)⟩, h3⟩
/-- a fixed block is written at last -/
theorem MP.setFix {eb : Nat} {o : Obj} (h : MP ((eb, o) :: fix) w0 W g n z bm s) (hb : w0.heap.size ≤ eb) (hne : ∀ p ∈ fix, eb ≠ p.1) (i : Nat) (u : Value) : MP fix w0 (W.setCell ⟨eb, i, none⟩ u) g n z bm s := by
  obtain ⟨gm, vd, vc, vo, A, ni, ci, h1, h2, h3⟩ := h
  have hf := h2.f (eb, o) (by simp)
  refine ⟨gm, vd, vc, vo, A, ni, ci, h1.far (p := ⟨eb, i, none⟩) (fun e => hf.2.1 e.symm) u, ?_, h3⟩
  have h4 : Parts fix w0 W g gm s.mem vd s.data vc s.calls vo s.out := ⟨h2.bel, h2.gb, h2.mb, h2.m, h2.d, h2.c, h2.o, h2.nd, h2.nc, h2.no, fun q hq => h2.f q (List.mem_cons_of_mem _ hq)⟩
  exact h4.turn (set_grown W eb i u) (fun k e => by injection e with e; subst e; exact ⟨hb, hf.2.2.1, hf.2.2.2.1, hf.2.2.2.2.1, hf.2.2.2.2.2⟩) (fun k e p hp => by injection e with e; subst e; exact hne p hp)

/-- the machine as Run makes it -/
theorem mp_start {w0 W : World} {g gm bb : Nat} {mc : Array Value} {at_ : Int} {A : Option Addr} {ni ci : Nat} {input : List Int} {n : Int} {o : Obj} (hb : Below w0.heap.size w0 W) (hm : Blk W gm 22 mc) (hsz : mc.size = 262144) (hc : ∀ i, i < 262144 → mc[i]? = some (V 0)) (ho : W.heap[bb]? = some o)
    (hg : Blk W g 46 (pcells gm at_ (.slice none 0 0) (.slice none 0 0) A ni ci (.slice none 0 0) false n false (.map (some bb)))) (h1 : w0.heap.size ≤ g) (h2 : w0.heap.size ≤ gm) (h3 : gm ≠ g) (h4 : bb ≠ g) (h5 : bb ≠ gm) (hi : Sl w0 1 A ni ci (iv input)) :
    MP [(bb, o)] w0 W g n false (.map (some bb)) ⟨fun _ => 0, at_, [], [], input, [], false⟩ :=
  ⟨gm, .slice none 0 0, .slice none 0 0, .slice none 0 0, A, ni, ci, hg, ⟨hb, ⟨h1, hg.lt⟩, ⟨h2, h3⟩, ⟨mc, hm, hsz, hc⟩, World.ownsRow_nil _ _ _ _, World.ownsRow_nil _ _ _ _, World.ownsRow_nil _ _ _ _, (fun k e => by cases e), (fun k e => by cases e), (fun k e => by cases e), fun p hp => by
    rw [List.mem_singleton] at hp
    subst hp
    exact ⟨ho, h4, h5, (fun e => by cases e), (fun e => by cases e), (fun e => by cases e)⟩⟩, hi⟩
end
end Mc
end Go.Proofs.YtfjjdogjihpbnaaDoor
