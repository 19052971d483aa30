/- A region that draws its order, whose loads are taken first although its last operations store into the very cells that they read: the condition S on the world is asked behind every operation until number st, the first store, has come up; st waits for those loads. -/
import Derived.OrdersHeld
import Derived.Deep.RegionHeld3
import Derived.WalkKit
namespace Go.Proofs.YtnllocghmnhooaaDoor
open Go

section
variable {P : Program} {ops : Array Oper} {Q : Exit → Act → World → Prop} {md : Region.Mode} {S : World → Prop} {st : Nat}

/-- whatever order is picked from here on, S holding behind every operation until st has come up -/
def wpAnyX (P : Program) (md : Region.Mode) (ops : Array Oper) (Q : Exit → Act → World → Prop) (S : World → Prop) (st : Nat) : Nat → Array Bool → Act → World → Prop
  | 0, listed, a, w => Region.ready md ops listed = [] ∧ Q .normal a w
  | fuel + 1, listed, a, w =>
    (Region.ready md ops listed = [] → Q .normal a w) ∧
    ∀ i ∈ Region.ready md ops listed, wpOp P ops Q i (fun a' w' => ((listed.setIfInBounds i true).getD st false = false → S w') ∧ wpAnyX P md ops Q S st fuel (listed.setIfInBounds i true) a' w') a w

theorem wpAny_of_X : ∀ (fuel : Nat) (listed : Array Bool) (a : Act) (w : World), wpAnyX P md ops Q S st fuel listed a w → wpAny P md ops Q fuel listed a w
  | 0, _, _, _, h => h
  | fuel + 1, _, _, _, h => ⟨h.1, fun i hi => wpOp_mono (fun a' w' h' => wpAny_of_X fuel _ a' w' h'.2) (h.2 i hi)⟩

/-- what has come up has had all that it waits for come up -/
def Cl (md : Region.Mode) (ops : Array Oper) (listed : Array Bool) : Prop := ∀ j o, ops[j]? = some o → listed.getD j false = true → ∀ e ∈ o.after, Region.binds md e = true → listed.getD e.on false = true
def clB (md : Region.Mode) (ops : Array Oper) (listed : Array Bool) : Bool := (List.range ops.size).all fun j => match ops[j]? with | some o => !(listed.getD j false) || o.after.all (fun e => !(Region.binds md e) || listed.getD e.on false) | none => true
theorem clB_spec {listed : Array Bool} (h : clB md ops listed = true) : Cl md ops listed := fun j o ho hl e he hb => by
  have hj : j < ops.size := (Array.getElem?_eq_some_iff.1 ho).1
  have h1 := List.all_eq_true.1 h j (List.mem_range.2 hj)
  rw [ho] at h1
  simp only [hl, Bool.not_true, Bool.false_or, Array.all_eq_true] at h1
  obtain ⟨k, hk, rfl⟩ := Array.mem_iff_getElem.1 he
  have h2 := h1 k hk
  rw [hb] at h2
  simpa using h2
theorem cl_set {listed : Array Bool} {j : Nat} (h : Cl md ops listed) (hj : j ∈ Region.ready md ops listed) : Cl md ops (listed.setIfInBounds j true) := fun k o ho hl e he hb => by
  by_cases hjk : j = k
  · subst hjk
    obtain ⟨_, o', ho', hall⟩ := mem_ready.1 hj
    rw [ho] at ho'
    injection ho' with ho'
    subst ho'
    exact getD_set_true (hall e he hb)
  · rw [getD_set_ne false hjk] at hl
    exact getD_set_true (h k o ho hl e he hb)
/-- number j waits, by no more than n steps, for number i -/
def dep (md : Region.Mode) (ops : Array Oper) (i : Nat) : Nat → Nat → Bool
  | 0, _ => false
  | n + 1, j => match ops[j]? with | some o => o.after.any (fun e => Region.binds md e && (e.on == i || dep md ops i n e.on)) | none => false
theorem dep_spec {i : Nat} {listed : Array Bool} (hc : Cl md ops listed) (hi : listed.getD i false = false) : ∀ n j, dep md ops i n j = true → ∀ o, ops[j]? = some o → ∃ e ∈ o.after, Region.binds md e = true ∧ listed.getD e.on false = false
  | 0, j, h => by simp [dep] at h
  | n + 1, j, h => fun o ho => by
    unfold dep at h
    rw [ho] at h
    simp only [Array.any_eq_true] at h
    obtain ⟨k, hk, he⟩ := h
    rw [Bool.and_eq_true, Bool.or_eq_true] at he
    refine ⟨o.after[k], Array.getElem_mem hk, he.1, ?_⟩
    rcases he.2 with h1 | h1
    · rw [beq_iff_eq] at h1; rw [h1]; exact hi
    · cases hl : listed.getD o.after[k].on false with
      | false => rfl
      | true =>
        cases ho2 : ops[o.after[k].on]? with
        | none =>
          cases n with
          | zero => simp [dep] at h1
          | succ n => unfold dep at h1; rw [ho2] at h1; exact absurd h1 (by simp)
        | some o2 =>
          obtain ⟨e2, he2, hb2, hl2⟩ := dep_spec hc hi n _ h1 o2 ho2
          rw [hc _ o2 ho2 hl e2 he2 hb2] at hl2
          cases hl2

theorem unl {i : Nat} {listed : Array Bool} (h0 : listed.getD i true = false) : listed.getD i false = false := by
  rcases Nat.lt_or_ge i listed.size with h' | h'
  · simp [h'] at h0 ⊢; exact h0
  · simp [Array.getElem?_eq_none h'] at h0
theorem unl_set {i k : Nat} {listed : Array Bool} (h : (listed.setIfInBounds i true).getD k true = false) : listed.getD k true = false := by
  by_cases hik : i = k
  · subst hik
    rcases Nat.lt_or_ge i listed.size with h' | h'
    · simp [h'] at h
    · simp [h'] at h
  · rw [getD_set_ne true hik] at h; exact h
theorem unl_set' {i k : Nat} {listed : Array Bool} (h : (listed.setIfInBounds i true).getD k false = false) : listed.getD k false = false := by
  cases hl : listed.getD k false with
  | false => rfl
  | true => rw [getD_set_true hl] at h; cases h
theorem wpAnyX_first {i : Nat} {oi : Oper} {v : Value} {Sy : World → Prop} (hi : ops[i]? = some oi) (hsel : ∀ (j : Nat) (o : Oper) cs b, ops[j]? = some o → o.op ≠ .select cs b)
    (hQ : ∀ c a w, Q (.panic c) (a.put oi.dst v) w → Q (.panic c) a w) (hist : i ≠ st)
    (hSy : ∀ (listed : Array Bool) (w : World), Cl md ops listed → listed.getD i false = false → (listed.getD st false = false → S w) → Sy w) :
    ∀ (fuel : Nat) (listed : Array Bool) (a : Act) (w : World), Cl md ops listed →
      (∀ j oj, ops[j]? = some oj → j ≠ i → listed.getD j true = false → (∀ e ∈ oj.after, Region.binds md e = true → e.on ≠ i) → oi.apart ops oj = true) →
      i ∈ Region.ready md ops listed → YieldsIf P ops Sy oi v a → (listed.getD st false = false → S w) →
      wpAnyX P md ops Q S st fuel (listed.setIfInBounds i true) (a.put oi.dst v) w → wpAnyX P md ops Q S st (fuel + 1) listed a w := by
  intro fuel
  induction fuel with
  | zero =>
    intro listed a w hcl _ hr hy hS H
    refine ⟨fun h => (by rw [h] at hr; cases hr), fun j hj => ?_⟩
    by_cases hji : j = i
    · subst hji; exact hy.wpOp hi (hSy listed w hcl (unl (mem_ready.1 hr).1) hS) ⟨fun h => hS (unl_set' h), H⟩
    · have := ready_mono hj hji
      rw [H.1] at this
      cases this
  | succ fuel ih =>
    intro listed a w hcl hfree hr hy hS H
    refine ⟨fun h => (by rw [h] at hr; cases hr), fun j hj => ?_⟩
    by_cases hji : j = i
    · subst hji; exact hy.wpOp hi (hSy listed w hcl (unl (mem_ready.1 hr).1) hS) ⟨fun h => hS (unl_set' h), H⟩
    · have h1 := H.2 j (ready_mono hj hji)
      obtain ⟨hjun, oj, hoj, hall⟩ := mem_ready.1 hj
      have hnot : ∀ e ∈ oj.after, Region.binds md e = true → e.on ≠ i := fun e he hb heq => by
        have h1 := hall e he hb
        rw [heq, unl (mem_ready.1 hr).1] at h1
        cases h1
      have h2 := wpOp_putIf hoj (hfree j oj hoj hji hjun hnot) (fun cs b => hsel i oi cs b hi) (fun cs b => hsel j oj cs b hoj) hQ hy h1
      have hfree' : ∀ k ok, ops[k]? = some ok → k ≠ i → (listed.setIfInBounds j true).getD k true = false →
          (∀ e ∈ ok.after, Region.binds md e = true → e.on ≠ i) → oi.apart ops ok = true := fun k ok hk hki hun hno => hfree k ok hk hki (unl_set hun) hno
      have hcomm : (listed.setIfInBounds i true).setIfInBounds j true = (listed.setIfInBounds j true).setIfInBounds i true := Array.setIfInBounds_comm _ _ (Ne.symm hji)
      rw [hcomm] at h2
      refine wpOp_mono (fun a' w' h3 => ?_) h2
      have hS' : (listed.setIfInBounds j true).getD st false = false → S w' := fun h => h3.2.1 (by rw [getD_set_ne false hist]; exact h)
      exact ⟨hS', ih (listed.setIfInBounds j true) a' w' (cl_set hcl hj) hfree' (ready_mono hr (Ne.symm hji)) h3.1 hS' h3.2.2⟩

/-- a load that reads what S gives, and that st waits for, is taken first -/
theorem wpAnyX_take {i : Nat} {oi : Oper} {v : Value} {fuel : Nat} {listed : Array Bool} {a : Act} {w : World} (hi : ops[i]? = some oi)
    (hs : Region.noSelect ops = true) (hf : Region.free md ops listed i = true) (hr : (Region.ready md ops listed).contains i = true) (hT : (dep md ops i ops.size st && (ops[st]?).isSome && !(i == st)) = true) (hcl : clB md ops listed = true)
    (hQ : ∀ c a w, Q (.panic c) (a.put oi.dst v) w → Q (.panic c) a w) (hy : YieldsIf P ops S oi v a) (hS : S w)
    (h : wpAnyX P md ops Q S st fuel (listed.setIfInBounds i true) (a.put oi.dst v) w) : wpAnyX P md ops Q S st (fuel + 1) listed a w := by
  rw [Bool.and_eq_true, Bool.and_eq_true] at hT
  obtain ⟨os, hos⟩ := Option.isSome_iff_exists.1 hT.1.2
  refine wpAnyX_first (Sy := S) hi (Region.noSelect_spec hs) hQ (by simpa using hT.2) (fun l u hc hl hSl => hSl ?_) fuel listed a w (clB_spec hcl) (Region.free_spec hi hf) (by simpa using hr) hy (fun _ => hS) h
  cases hst : l.getD st false with
  | false => rfl
  | true =>
    exfalso
    obtain ⟨e, he, hb, hl2⟩ := dep_spec hc hl _ _ hT.1.1 os hos
    rw [hc st os hos hst e he hb] at hl2
    cases hl2
/-- an operation that yields in whatever world is taken first -/
theorem wpAnyX_pure {i : Nat} {oi : Oper} {v : Value} {fuel : Nat} {listed : Array Bool} {a : Act} {w : World} (hi : ops[i]? = some oi)
    (hs : Region.noSelect ops = true) (hf : Region.free md ops listed i = true) (hr : (Region.ready md ops listed).contains i = true) (hT : (!(i == st)) = true) (hcl : clB md ops listed = true)
    (hQ : ∀ c a w, Q (.panic c) (a.put oi.dst v) w → Q (.panic c) a w) (hy : YieldsIf P ops (fun _ => True) oi v a) (hS : listed.getD st false = false → S w)
    (h : wpAnyX P md ops Q S st fuel (listed.setIfInBounds i true) (a.put oi.dst v) w) : wpAnyX P md ops Q S st (fuel + 1) listed a w :=
  wpAnyX_first (Sy := fun _ => True) hi (Region.noSelect_spec hs) hQ (by simpa using hT) (fun _ _ _ _ _ => trivial) fuel listed a w (clB_spec hcl) (Region.free_spec hi hf) (by simpa using hr) hy hS h
/-- number i is the only one that may come up -/
theorem wpAnyX_one {i : Nat} {o : Oper} {fuel : Nat} {listed : Array Bool} {a : Act} {w : World} (hr : Region.ready md ops listed = [i]) (ho : ops[i]? = some o)
    (h : ∀ K : Act → World → Prop, Shut (∀ a w, ((listed.setIfInBounds i true).getD st false = false → S w) → wpAnyX P md ops Q S st fuel (listed.setIfInBounds i true) a w → K a w) → if Region.wanted o (yielded ops a.tmps) = true then Oper.wp P o a w K Q else K (a.put o.dst undef) w) :
    wpAnyX P md ops Q S st (fuel + 1) listed a w :=
  ⟨fun h0 => (by rw [hr] at h0; cases h0), fun j hj => by
    rw [hr, List.mem_singleton] at hj
    subst hj
    exact wpOp_step ho (fun K hK => h K (fun a w hS hW => hK a w ⟨hS, hW⟩))⟩
theorem wpAnyX_two {i j : Nat} {o o' : Oper} {fuel : Nat} {listed : Array Bool} {a : Act} {w : World} (hr : Region.ready md ops listed = [i, j]) (ho : ops[i]? = some o) (ho' : ops[j]? = some o')
    (h : ∀ K : Act → World → Prop, Shut (∀ a w, ((listed.setIfInBounds i true).getD st false = false → S w) → wpAnyX P md ops Q S st fuel (listed.setIfInBounds i true) a w → K a w) → if Region.wanted o (yielded ops a.tmps) = true then Oper.wp P o a w K Q else K (a.put o.dst undef) w)
    (h' : ∀ K : Act → World → Prop, Shut (∀ a w, ((listed.setIfInBounds j true).getD st false = false → S w) → wpAnyX P md ops Q S st fuel (listed.setIfInBounds j true) a w → K a w) → if Region.wanted o' (yielded ops a.tmps) = true then Oper.wp P o' a w K Q else K (a.put o'.dst undef) w) :
    wpAnyX P md ops Q S st (fuel + 1) listed a w :=
  ⟨fun h0 => (by rw [hr] at h0; cases h0), fun k hk => by
    rw [hr] at hk
    rcases List.mem_cons.1 hk with rfl | hk
    · exact wpOp_step ho (fun K hK => h K (fun a w hS hW => hK a w ⟨hS, hW⟩))
    · rw [List.mem_singleton] at hk
      subst hk
      exact wpOp_step ho' (fun K hK => h' K (fun a w hS hW => hK a w ⟨hS, hW⟩))⟩
theorem wpAnyX_done {listed : Array Bool} {a : Act} {w : World} (hr : Region.ready md ops listed = []) (h : Q .normal a w) : ∀ fuel, wpAnyX P md ops Q S st fuel listed a w
  | 0 => ⟨hr, h⟩
  | _ + 1 => ⟨fun _ => h, by rw [hr]; simp⟩
theorem wp_region_X {id : Nat} {a : Act} {w : World} (S : World → Prop) (st : Nat) (hm : P.follows .mixedOrders = true)
    (h : wpAnyX P .any ops Q S st ops.size (Array.replicate ops.size false) a w.drew) : (Code.region id ops true).wp P Q a w :=
  wp_region_any hm (wpAny_of_X _ _ _ _ h)
end

end Go.Proofs.YtnllocghmnhooaaDoor
