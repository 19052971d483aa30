/- Reconcile: the number of keys that differ. -/
import Derived.Test.YtnllocghmnhooaaDoorVd
namespace Go.Proofs.YtnllocghmnhooaaDoor
open Go.RowKit
set_option linter.unusedVariables false
namespace Rc
theorem lk_none_of {l : List Rec} {k : Bs} (h : has l k = false) : lk l k = none := lk_nope (has_not.1 h)
theorem lk_some_of {l : List Rec} {k : Bs} (h : has l k = true) : ∃ o, lk l k = some o := by
  cases e : lk l k with
  | some o => exact ⟨o, rfl⟩
  | none =>
    unfold lk at e
    rw [List.find?_eq_none] at e
    obtain ⟨x, hx, he⟩ := has_iff.1 h
    exact absurd (e x hx) (by simp [he])
theorem cnt_a (b : List Rec) (hb : ∀ x ∈ b, Val x) : ∀ (a : List Rec), (∀ x ∈ a, Val x) → 2 * (a.countP fun r => !(lk b (key r) == some r)) ≤ 2 * (dif a b).length + (conf a b).length
  | [], _ => by simp
  | r :: a, h => by
    have ih := cnt_a b hb a fun x hx => h x (List.mem_cons_of_mem _ hx)
    have e1 : conf (r :: a) b = cfl b r ++ conf a b := rfl
    rw [e1, List.length_append, List.countP_cons]
    have e2 : (dif (r :: a) b).length = (if has b (key r) = true then 0 else 1) + (dif a b).length := by
      unfold dif
      by_cases q : has b (key r) = true
      · rw [List.filter_cons_of_neg (by simp [q]), if_pos q]; omega
      · have q' : has b (key r) = false := by simpa using q
        rw [List.filter_cons_of_pos (by simp [q']), if_neg q, List.length_cons]; omega
    rw [e2]
    by_cases q : has b (key r) = true
    · rw [if_pos q]
      obtain ⟨o, ho⟩ := lk_some_of q
      by_cases e : o = r
      · have : (!(lk b (key r) == some r)) = false := by rw [ho, e]; simp
        rw [this, if_neg (by simp)]
        omega
      · obtain ⟨m1, m2⟩ := lk_of ho
        have hd : (lkv b (key r)).d ≠ r.d := by
          unfold lkv
          rw [ho]
          show o.d ≠ r.d
          exact fun k => e (rec_eq (hb o m1) (h r (by simp)) m2 k)
        have : (cfl b r).length = 2 := by
          unfold cfl
          rw [if_pos q, if_neg hd]
          rfl
        rw [this]
        split <;> omega
    · rw [if_neg q]
      split <;> omega
theorem inR_all (k : Bs) : inR [] [] k = true := by
  rw [inR_iff]
  exact ⟨(fun h => by cases h), Or.inl rfl⟩
theorem df_small {a b : List Rec} (sa : Srt a) (sb : Srt b) (ha : ∀ x ∈ a, Val x) (hb : ∀ x ∈ b, Val x) :
    df (a.map key ++ (dif b a).map key) b a [] [] ≤ (dif a b).length + (dif b a).length + (conf a b).length / 2 := by
  unfold df
  rw [List.countP_append]
  have h1 : (a.map key).countP (fun k => inR [] [] k && !(lk b k == lk a k)) = a.countP fun r => !(lk b (key r) == some r) := by
    rw [List.countP_map]
    refine List.countP_congr fun r hr => ?_
    simp only [Function.comp, inR_all, Bool.true_and, lk_mem sa hr]
  have h2 : ((dif b a).map key).countP (fun k => inR [] [] k && !(lk b k == lk a k)) ≤ (dif b a).length := by
    have := List.countP_le_length (p := fun k => inR [] [] k && !(lk b k == lk a k)) (l := (dif b a).map key)
    rwa [List.length_map] at this
  rw [h1]
  have h3 := cnt_a b hb a ha
  omega
theorem economy {a b : List Rec} (sa : Srt a) (sb : Srt b) (ha : ∀ x ∈ a, Val x) (hb : ∀ x ∈ b, Val x) (m n : Nat) (la : a.length ≤ 2 ^ n) (lb : b.length ≤ 2 ^ n) :
    1 ≤ (dlg Hd m b a (sm Hd a [] [])).2.2 ∧ (dlg Hd m b a (sm Hd a [] [])).2.2 ≤ 1 + 2 * (((dif a b).length + (dif b a).length + (conf a b).length / 2) * (2 * n + 4)) := by
  have hK : ∀ z ∈ a ++ b, key z ∈ a.map key ++ (dif b a).map key := fun z hz => by
    rcases List.mem_append.1 hz with hz | hz
    · exact List.mem_append.2 (Or.inl (List.mem_map.2 ⟨z, hz, rfl⟩))
    · by_cases q : has a (key z) = true
      · obtain ⟨x, hx, e⟩ := has_iff.1 q
        exact List.mem_append.2 (Or.inl (List.mem_map.2 ⟨x, hx, e⟩))
      · exact List.mem_append.2 (Or.inr (List.mem_map.2 ⟨z, List.mem_filter.2 ⟨hz, by simpa using q⟩, rfl⟩))
  obtain ⟨h1, h2⟩ := dlg_count Hd hK m n n b a [] [] ⟨sb, fun z hz => List.mem_append.2 (Or.inr hz)⟩ ⟨sa, fun z hz => List.mem_append.2 (Or.inl hz)⟩ (by rw [inn_all]; exact lb) (by rw [inn_all]; exact la)
  have h3 := df_small sa sb ha hb
  refine ⟨h1, Nat.le_trans h2 ?_⟩
  have h4 := Nat.mul_le_mul h3 (show n + n + 1 ≤ 2 * n + 4 by omega)
  omega
/-! own records stay: the greedy match -/
theorem sub_step_eq {x : Rec} {o l : List Rec} (h : (x :: o).Sublist (x :: l)) : o.Sublist l := List.Sublist.of_cons_cons h
theorem sub_step_ne {x y : Rec} {o l : List Rec} (h : (x :: o).Sublist (y :: l)) (e : y ≠ x) : (x :: o).Sublist l := by
  rcases List.sublist_cons_iff.1 h with h | ⟨r, e1, _⟩
  · exact h
  · injection e1 with e1 _
    exact absurd e1.symm e
/-- the contradictory records as the law looks for them -/
def wnt (b : List Rec) (r : Rec) : List Rec := b.flatMap fun s => if key r = key s ∧ r ≠ s then [r, s] else []
theorem wnt_eq {b : List Rec} (sb : Srt b) (hb : ∀ x ∈ b, Val x) {r : Rec} (hr : Val r) : wnt b r = cfl b r := by
  have none_ : ∀ (l : List Rec), (∀ x ∈ l, key x ≠ key r) → wnt l r = [] := fun l h => by
    unfold wnt
    rw [List.flatMap_eq_nil_iff]
    intro x hx
    rw [if_neg (fun e => h x hx e.1.symm)]
  by_cases q : has b (key r) = true
  · obtain ⟨o, ho⟩ := lk_some_of q
    obtain ⟨m1, m2⟩ := lk_of ho
    have hv : lkv b (key r) = o := by unfold lkv; rw [ho]; rfl
    unfold cfl
    rw [if_pos q, hv]
    obtain ⟨u, v, rfl⟩ := List.append_of_mem m1
    have hu : ∀ x ∈ u, key x ≠ key r := fun x hx e => by
      have := (List.pairwise_append.1 sb).2.2 x hx o (by simp)
      rw [e, m2] at this
      exact kirr _ this
    have hw : ∀ x ∈ v, key x ≠ key r := fun x hx e => by
      have := (List.pairwise_cons.1 (List.pairwise_append.1 sb).2.1).1 x hx
      rw [e, m2] at this
      exact kirr _ this
    have e1 : wnt (u ++ o :: v) r = wnt u r ++ ((if key r = key o ∧ r ≠ o then [r, o] else []) ++ wnt v r) := by simp [wnt]
    rw [e1, none_ u hu, none_ v hw]
    by_cases e : o.d = r.d
    · rw [if_pos e, if_neg (fun k => k.2 (rec_eq hr (hb o m1) m2.symm e.symm))]
      rfl
    · rw [if_neg e, if_pos ⟨m2.symm, fun k => e (by rw [k])⟩]
      rfl
  · have q' : has b (key r) = false := by simpa using q
    rw [none_ b (has_not.1 q')]
    unfold cfl
    rw [if_neg q]
end Rc
end Go.Proofs.YtnllocghmnhooaaDoor
