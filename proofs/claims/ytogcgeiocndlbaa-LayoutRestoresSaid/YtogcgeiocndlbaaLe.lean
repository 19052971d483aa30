/- Stripes in plain Lean: the blocks of a stream; what a [][]string of the call's own holds. A range over a function whose rounds know of what they are handed. -/
import Derived.Test.YtogcgeiocndlbaaLd
import Derived.Test.YtogcgeiocndlbaaRng
import Derived.Test.YtogcgeiocndlbaaSh
namespace Go.Proofs.Ytogcgeiocndlbaa
open Go.RowKit
set_option linter.unusedVariables false
namespace Ly

/-! plain -/
def blkAt (l : List UInt8) (k : Nat) : List UInt8 := (List.range 28).map fun i => l.getD (28 * k + i) 0
def dat (D : Nat) (l : List UInt8) (q : Nat) : List ByteArray := (List.range D).map fun b => ofL (blkAt l (q * D + b))
def strp (D S : Nat) (l : List UInt8) (q : Nat) : List ByteArray := dat D l q ++ sprs (dat D l q) S
def nst (D : Nat) (l : List UInt8) : Nat := (l.length + (28 * D - 1)) / (28 * D)
def strs (D S : Nat) (l : List UInt8) : List (List ByteArray) := (List.range (nst D l)).map (strp D S l)
theorem blkAt_len (l : List UInt8) (k : Nat) : (blkAt l k).length = 28 := by simp [blkAt]
theorem dat_len (D : Nat) (l : List UInt8) (q : Nat) : (dat D l q).length = D := by simp [dat]
theorem dat_size (D : Nat) (l : List UInt8) (q : Nat) : ∀ b ∈ dat D l q, b.size = 28 := fun b hb => by
  obtain ⟨j, _, rfl⟩ := List.mem_map.1 hb
  show (blkAt l (q * D + j)).toArray.size = 28
  rw [List.size_toArray, blkAt_len]
theorem dat_even (D : Nat) (l : List UInt8) (q : Nat) : (dat D l q).any (unev (dat D l q)) = false := any_false fun b hb => by
  unfold unev
  rw [dat_size D l q b hb, dat_size D l q _ (by
    cases h : dat D l q with
    | nil => rw [h] at hb; cases hb
    | cons x r => simp [List.getD])]
  simp
theorem strp_len (D S : Nat) (l : List UInt8) (q : Nat) : (strp D S l q).length = D + S := by unfold strp; rw [List.length_append, dat_len, sprs_len]
theorem nst_zero (D : Nat) (hD : 1 ≤ D) : nst D [] = 0 := by
  unfold nst
  rw [List.length_nil, Nat.zero_add]
  exact Nat.div_eq_of_lt (by omega)
/-- q stripes have come, something is left -/
theorem nst_lt {D : Nat} (hD : 1 ≤ D) {l : List UInt8} {q : Nat} (h : 28 * D * q < l.length) : q < nst D l := by
  unfold nst
  have h1 : 0 < 28 * D := by omega
  generalize 28 * D = c at *
  rw [Nat.lt_iff_add_one_le, Nat.le_div_iff_mul_le h1, Nat.add_mul, Nat.one_mul, Nat.mul_comm q]
  omega
theorem nst_le {D : Nat} (hD : 1 ≤ D) {l : List UInt8} {q : Nat} (h : l.length ≤ 28 * D * q) : nst D l ≤ q := by
  unfold nst
  have h1 : 0 < 28 * D := by omega
  generalize 28 * D = c at *
  rw [← Nat.lt_succ_iff, Nat.div_lt_iff_lt_mul h1, Nat.succ_mul, Nat.mul_comm q]
  omega
theorem blkAt_at {l : List UInt8} {k i : Nat} (h : i < (blkAt l k).length) : (blkAt l k)[i] = l.getD (28 * k + i) 0 := by simp [blkAt]
/-- the padded part of a stripe, cut -/
theorem cut_blk {D q b : Nat} {l p : List UInt8} (hb : b < D) (hp : ∀ j, j < 28 * D → p.getD j 0 = l.getD (28 * D * q + j) 0) (hl : p.length = 28 * D) : (p.drop (28 * b)).take 28 = blkAt l (q * D + b) := by
  have hle : 28 * b + 28 ≤ 28 * D := by omega
  refine List.ext_getElem (by rw [List.length_take, List.length_drop, blkAt_len, hl]; omega) fun i h1 h2 => ?_
  rw [blkAt_len] at h2
  have h3 := hp (28 * b + i) (by omega)
  rw [List.getElem_take, List.getElem_drop]
  rw [blkAt_at]
  have e : 28 * D * q + (28 * b + i) = 28 * (q * D + b) + i := by
    rw [Nat.mul_add, Nat.mul_assoc, Nat.mul_comm D q]; omega
  rw [e] at h3
  rw [← h3, List.getD, List.getElem?_eq_getElem (by rw [hl]; omega)]
  rfl

/-! rows of strings -/
def Row (W : World) (B : Nat) (v : Value) (l : List ByteArray) : Prop := W.ownsRow B 9 1 v l.length (l.map Value.string)
def RowsOk (W : World) (B : Nat) (vs : List Value) (L : List (List ByteArray)) : Prop := vs.length = L.length ∧ ∀ k (h : k < L.length), ∃ v, vs[k]? = some v ∧ Row W B v L[k]
theorem Row.keep {W W' : World} {B : Nat} {v : Value} {l : List ByteArray} (h : Row W B v l) (hs : W.heap.size ≤ W'.heap.size) (hk : ∀ k cs fz, B ≤ k → W.heap[k]? = some (.cells cs 9 fz) → W'.heap[k]? = W.heap[k]?) : Row W' B v l := by
  refine ⟨h.1, ?_⟩
  rcases h.2 with h2 | ⟨g, cap, cur, hv, hg, hb, r⟩
  · exact .inl h2
  · exact .inr ⟨g, cap, cur, hv, hg, (hk g _ _ hg hb).trans hb, r⟩
theorem Row.below {W W' : World} {B : Nat} {v : Value} {l : List ByteArray} (h : Row W B v l) (hb : Below W.heap.size W W') : Row W' B v l :=
  h.keep hb.size fun k cs fz _ hk => hb.block k (Array.getElem?_eq_some_iff.1 hk).1
theorem RowsOk.keep {W W' : World} {B : Nat} {vs : List Value} {L : List (List ByteArray)} (h : RowsOk W B vs L) (hs : W.heap.size ≤ W'.heap.size) (hk : ∀ k cs fz, B ≤ k → W.heap[k]? = some (.cells cs 9 fz) → W'.heap[k]? = W.heap[k]?) : RowsOk W' B vs L :=
  ⟨h.1, fun k hkl => by obtain ⟨v, h1, h2⟩ := h.2 k hkl; exact ⟨v, h1, h2.keep hs hk⟩⟩
theorem RowsOk.below {W W' : World} {B : Nat} {vs : List Value} {L : List (List ByteArray)} (h : RowsOk W B vs L) (hb : Below W.heap.size W W') : RowsOk W' B vs L :=
  h.keep hb.size fun k cs fz _ hk => hb.block k (Array.getElem?_eq_some_iff.1 hk).1
theorem RowsOk.nil (W : World) (B : Nat) : RowsOk W B [] [] := ⟨rfl, fun k h => absurd h (by simp)⟩
theorem RowsOk.snoc {W : World} {B : Nat} {vs : List Value} {L : List (List ByteArray)} (h : RowsOk W B vs L) {v : Value} {l : List ByteArray} (hr : Row W B v l) : RowsOk W B (vs ++ [v]) (L ++ [l]) := by
  refine ⟨by rw [List.length_append, List.length_append, h.1]; rfl, fun k hk => ?_⟩
  by_cases hkl : k < L.length
  · obtain ⟨u, h1, h2⟩ := h.2 k hkl
    exact ⟨u, by rw [List.getElem?_append_left (by rw [h.1]; exact hkl)]; exact h1, by rw [List.getElem_append_left hkl]; exact h2⟩
  · have : k = L.length := by simp at hk; omega
    subst this
    refine ⟨v, by rw [← h.1]; simp, ?_⟩
    rw [List.getElem_append_right (Nat.le_refl _)]
    simpa using hr
theorem RowsOk.mono {W : World} {B B' : Nat} {vs : List Value} {L : List (List ByteArray)} (h : RowsOk W B vs L) (hb : B' ≤ B) : RowsOk W B' vs L :=
  ⟨h.1, fun k hk => by obtain ⟨v, h1, h2⟩ := h.2 k hk; exact ⟨v, h1, own_mono h2 hb⟩⟩
/-- what a call that hands back a [][]string of its own and an error leaves -/
def GivesRR (L : List (List ByteArray)) (er : Int) (w : World) (e : Ending) (w' : World) : Prop :=
  ∃ v vs, e = .returned (.tuple #[v, .int .i64 er]) ∧ w'.ownsRow w.heap.size 40 1 v L.length vs ∧ RowsOk w' w.heap.size vs L ∧ Below w.heap.size w w'

/-- as range_all; the rounds may ask Hd of what they are handed -/
theorem range_has {F : Fence} {n : Nat} {P : Program} {α : Type} {g : Operand} {ps : Array Tmp} {assign body : Code} {Q : Exit → Act → World → Prop} {a : Act} {w : World}
    (hro : F.round = none) (h1 : 1 ≤ n) {gf : Nat} {lb : Array Value} (hg : a.eval g = .func (.func gf) #[] lb) (hFg : F.fn gf) (eg : ∀ args w, (callFunc gf args).run P w = .ok (.enter gf args) w)
    (enc : α → Array Value) (Hd : List α → α → World → Prop) (Kp : World → World → Prop) (S : List α → Prop)
    (hKt : ∀ {A B C : World}, Kp A B → Kp B C → Kp A C) (hKb : ∀ (W : World) (l : Nat) (o' : Obj), w.heap.size ≤ l → (∀ o, W.heap[l]? = some o → o.isCells = false) → Kp W (W.putObj l o')) (hps : ∀ x, (enc x).size = ps.size)
    (hHd : ∀ pre x W l o o', Hd pre x W → w.heap.size ≤ l → W.heap[l]? = some o → o.isCells = false → Hd pre x (W.putObj l o'))
    (I : List α → World → Prop) (hI : ∀ s W l o o', I s W → w.heap.size ≤ l → W.heap[l]? = some o → o.isCells = false → I s (W.putObj l o'))
    (h0 : ∀ o o' : Obj, I [] ((w.alloc o).alloc o')) (a₁ : α → Act)
    (hassign : ∀ (l : Nat) (x : α) (W : World) (K : Act → World → Prop), K (a₁ x) W →
      assign.wpIn (F.inRound l) (n - 1 - 1) P (Exit.then K (fun _ _ _ => False)) { tmps := (ps.zip (enc x)).foldl (fun t (p, v) => t.setIfInBounds p v) a.tmps, defers := [] } W)
    (hbody : ∀ (l : Nat) (pre : List α) (x : α) (W : World), I pre W → Hd pre x W → body.wpIn (F.inRound l) (n - 1 - 1) P (allPost w.heap.size Kp I (pre ++ [x]) W) (a₁ x) W)
    (hiter : ∀ (l : Nat) (J : List α → World → Prop) (W : World),
      (∀ s W, J s W → I s W ∧ ∃ o o' : Obj, W.heap[l]? = some o ∧ W.heap[w.heap.size]? = some o' ∧ o.isCells = false ∧ o'.isCells = false) →
      (∀ s W W', J s W → I s W' → W.heap.size ≤ W'.heap.size → (∀ k, w.heap.size ≤ k → ∀ o : Obj, W.heap[k]? = some o → o.isCells = false → W'.heap[k]? = some o) → J s W') →
      (∀ pre x W1, J pre W1 → Hd pre x W1 → YieldAt F (n - 1 - 1) P l (enc x) W1 fun e W' => e = .returned (.bool true) ∧ J (pre ++ [x]) W' ∧ Kp W1 W') →
      J [] W → (∃ o o' : Obj, W = (w.alloc o).alloc o') →
      CallsIn F (n - 1) P gf (#[.func (.yield l) #[] #[]] ++ lb) W fun e W' => (∃ v, e = .returned v) ∧ ∃ xs, S xs ∧ J xs W')
    (hdone : ∀ (xs : List α) (W : World), S xs → I xs W → W.heap[w.heap.size]? = some (.deferred (some [])) → Q .normal { a with defers := { target := .collected w.heap.size, args := #[] } :: a.defers } W) :
    (Code.rangeFunc g ps assign body).wpIn F n P Q a w := by
  refine wpIn_rangeFunc ?_
  intro fn hfn
  rw [hro]
  obtain ⟨rec, hrec⟩ : ∃ rec : LoopState → Option Code → Loop, rec = fun st pe => { state := st, pending := pe, fn, tmps := a.tmps, params := ps, assign, body, defers := w.heap.size } := ⟨_, rfl⟩
  obtain ⟨W1, hW1⟩ : ∃ W1, (w.alloc (.deferred (some []))).alloc (.loop (rec .ready none)) = W1 := ⟨_, rfl⟩
  have hL1 : W1.heap[w.heap.size + 1]? = some (.loop (rec .ready none)) := by
    rw [← hW1]; have := World.alloc_heap_new (w.alloc (.deferred (some []))) (.loop (rec .ready none)); rwa [World.size_alloc] at this
  have hK1 : W1.heap[w.heap.size]? = some (.deferred (some [])) := by
    rw [← hW1]; exact (Below.heap_alloc _ _ _ (by simp)).trans (World.alloc_heap_new w _)
  have hI1 : I [] W1 := by rw [← hW1]; exact h0 _ _
  refine ⟨w.heap.size + 1, [{ target := .collected w.heap.size, args := #[] }], W1, { target := .fn (.func gf) lb, args := #[.func (.yield (w.heap.size + 1)) #[] #[]] }, W1, gf,
    #[.func (.yield (w.heap.size + 1)) #[] #[]] ++ lb, W1, ?_, ?_, ?_, ?_, fun _ => h1, ?_⟩
  · rw [← hW1, hrec]; exact run_enterLoop_outer _ _ _ _ _
  · simp only [resolve, hg]
    simp [go_sem]
  · intro f' hf'; simp [Target.leads] at hf'; subst hf'; exact hFg
  · simp [invoke, go_sem, eg]
  · refine (hiter (w.heap.size + 1) (fun pre W => I pre W ∧ W.heap[w.heap.size + 1]? = some (.loop (rec .ready none)) ∧ W.heap[w.heap.size]? = some (.deferred (some []))) W1
      (fun s W h => ⟨h.1, _, _, h.2.1, h.2.2, rfl, rfl⟩)
      (fun s W W' h hi _ hk => ⟨hi, hk _ (by omega) _ h.2.1 rfl, hk _ (Nat.le_refl _) _ h.2.2 rfl⟩) ?_ ⟨hI1, hL1, hK1⟩ ⟨_, _, hW1.symm⟩).mono ?_
    · rintro pre x W ⟨hi, hl, hk⟩ hhd
      have hlt : w.heap.size + 1 < W.heap.size := (Array.getElem?_eq_some_iff.1 hl).1
      have hy := run_yield (P := P) (args := enc x) hl (by rw [hrec]; exact hps x)
      rw [hrec] at hy
      refine ⟨fn, _, assign, body, hy, roundIn_of_wpIn hfn (hassign _ x W _ ⟨_, run_beginRound hl (by rw [hrec]), ?_⟩)⟩
      have hl2 : (W.putObj (w.heap.size + 1) (.loop { rec .ready none with state := .busy })).heap[w.heap.size + 1]? = some (.loop { rec .ready none with state := .busy }) := World.putObj_heap_same hlt
      have hk2 : (W.putObj (w.heap.size + 1) (.loop { rec .ready none with state := .busy })).heap[w.heap.size]? = some (.deferred (some [])) := (World.putObj_heap_other (by omega)).trans hk
      refine wpIn_mono (hbody _ pre x _ (hI _ _ _ _ _ hi (by omega) hl rfl) (hHd _ _ _ _ _ _ hhd (by omega) hl rfl)) ?_
      rintro e a3 W3 hp
      cases e with
      | normal =>
        obtain ⟨hk3, hkp3, hi3⟩ := hp
        have hl3 := hk3.same _ _ (by omega) hl2 rfl
        have hr := run_endRound (P := P) none hl3
        have hk4 := hk3.same _ _ (Nat.le_refl _) hk2 rfl
        rw [hrec] at hr hl3
        refine ⟨_, _, hr, rfl, ⟨hI _ _ _ _ _ hi3 (by omega) hl3 rfl, ?_, (World.putObj_heap_other (by omega)).trans hk4⟩, hKt (hKt (hKb _ _ _ (by omega) (fun o ho => by rw [hl] at ho; injection ho with ho; subst ho; rfl)) hkp3) (hKb _ _ _ (by omega) (fun o ho => by rw [hl3] at ho; injection ho with ho; subst ho; rfl))⟩
        rw [hrec]
        exact World.putObj_heap_same (Array.getElem?_eq_some_iff.1 hl3).1
      | ret => exact hp.elim
      | exit id => exact hp.elim
      | goto t => exact hp.elim
      | panic ch => exact hp.elim
      | outgrown => exact hp.elim
    · rintro e W2 ⟨⟨v, rfl⟩, xs, hS, hi, hl, hk⟩
      have hr := run_endLoop (P := P) hl (by rw [hrec]; simp)
      rw [hrec] at hr
      exact ⟨none, _, hr, hdone xs _ hS (hI _ _ _ _ _ hi (by omega) hl rfl) ((World.putObj_heap_other (by omega)).trans hk)⟩

end Ly
end Go.Proofs.Ytogcgeiocndlbaa
