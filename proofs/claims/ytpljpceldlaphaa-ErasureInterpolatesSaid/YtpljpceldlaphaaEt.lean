/- append of some elements at a step of a region that draws its order; the shares in another order. -/
import Derived.Test.YtpljpceldlaphaaEs
namespace Go.Proofs.Ytpljpceldlaphaa
open Go.RowKit

theorem step_append_sl {P : Program} {t e : TypeId} {z : Value} {size bytes : Nat} (T : ElTy P t e z size bytes) {w : World} {ops : Array Oper} {o : Oper} {a : Act} {K : Act → World → Prop} {Q : Exit → Act → World → Prop} {E : Prop} (hgd : o.guard = none) (s x : Operand)
    (ho : o.op = .call { callee := .builtin .append, args := #[s, x], argTypes := #[t, t] })
    (base : Nat) (v : Value) (n : Nat) (xs : List Value) (hs : a.eval s = v) (hown : w.ownsRow base e size v n xs)
    (g m : Nat) (ys : List Value) (hx : a.eval x = .slice (some ⟨g, 0, none⟩) m m) (hl : ys.length = m * size) (hm : m ≤ maxLen) (hblk : Blk w g e ys.toArray) (hy : ∀ y ∈ ys, y.oneCell' = true) (hbase : base ≤ w.heap.size) (h63 : n + m ≤ maxLen) (hbytes : (n + m) * bytes ≤ 140737488355328)
    (h : ∀ v' w', w'.ownsRow base e size v' (n + m) (xs ++ ys) → w.grownBy w' v.ownBlock → (v'.ownBlock = v.ownBlock ∨ v'.ownBlock = some w.heap.size) → K (a.put o.dst v') w') :
    if Region.wanted o (yielded ops a.tmps) = true then Oper.wp P o a w K Q else E := by
  have hw : Region.wanted o (yielded ops a.tmps) = true := by simp [Region.wanted, hgd]
  rw [if_pos hw]
  obtain ⟨i, hi, hz, h1, hb⟩ := T.hi
  have hsl : Sl w size (some ⟨g, 0, none⟩) m m ys := by
    have := Blk.sl (size := size) (n := m) hblk (by simp [hl]) hm
    simpa using this
  obtain ⟨v', w', hrun, h2, h3, h4⟩ := run_append_sl (P := P) w base t o.type e i z size bytes T.ht hi hz h1 hb T.hz T.hp v n xs hown (some ⟨g, 0, none⟩) m m ys hsl hy h63 hbytes hbase
  unfold Oper.wp execOp
  simp only [ho, resolve, invoke, builtin, Sem.run_bind, Sem.run_pure, Result.andThen_ok, List.map_toArray, List.map_cons, List.map_nil, hs, hx, hrun]
  exact h v' w' h2 h3 h4

/-- the shares in another order, with repetitions -/
def mo (hv : List (Int × ByteArray)) (by_ k : Nat) : List (Int × ByteArray) := (List.range k).flatMap fun i => [hv.getD ((i + by_) % hv.length) default, hv.getD (hv.length - 1 - i) default]
theorem mo_len (hv : List (Int × ByteArray)) (b : Nat) : ∀ k, (mo hv b k).length = k * 2
  | 0 => rfl
  | k + 1 => by
    have ih := mo_len hv b k
    unfold mo at *
    rw [List.range_succ, List.flatMap_append, List.length_append, ih]
    simp; omega
theorem mo_succ (hv : List (Int × ByteArray)) (b k : Nat) : mo hv b (k + 1) = mo hv b k ++ [hv.getD ((k + b) % hv.length) default, hv.getD (hv.length - 1 - k) default] := by
  unfold mo
  rw [List.range_succ, List.flatMap_append]
  simp
theorem mo_mem {hv : List (Int × ByteArray)} {b : Nat} : ∀ x ∈ mo hv b hv.length, x ∈ hv := fun x hx => by
  unfold mo at hx
  obtain ⟨i, hi, hx⟩ := List.mem_flatMap.1 hx
  have hi := List.mem_range.1 hi
  have h1 : (i + b) % hv.length < hv.length := Nat.mod_lt _ (by omega)
  have h2 : hv.length - 1 - i < hv.length := by omega
  simp only [List.getD, List.getElem?_eq_getElem h1, List.getElem?_eq_getElem h2, Option.getD_some, List.mem_cons, List.not_mem_nil, or_false] at hx
  rcases hx with rfl | rfl
  · exact List.getElem_mem h1
  · exact List.getElem_mem h2
theorem mo_all {hv : List (Int × ByteArray)} {b : Nat} : ∀ x ∈ hv, x ∈ mo hv b hv.length := fun x hx => by
  obtain ⟨j, hj, rfl⟩ := List.mem_iff_getElem.1 hx
  unfold mo
  refine List.mem_flatMap.2 ⟨hv.length - 1 - j, List.mem_range.2 (by omega), ?_⟩
  have h2 : hv.length - 1 - (hv.length - 1 - j) = j := by omega
  rw [h2]
  simp [List.getD, List.getElem?_eq_getElem hj]
/-- the order and the repetition of shares have no effect -/
theorem mo_same (l : List ByteArray) {sp set b : Nat} (hsp : sp ≤ 7) : restE (mo (hvS l sp set) b (hvS l sp set).length) ((evn l).length : Int) = restE (hvS l sp set) ((evn l).length : Int) ∧
    restB (mo (hvS l sp set) b (hvS l sp set).length) ((evn l).length : Int) = restB (hvS l sp set) ((evn l).length : Int) := by
  have hon : OnStripe (stD l) (mo (hvS l sp set) b (hvS l sp set).length) := fun x hx => hvS_on l hsp x (mo_mem x hx)
  have hlt := chs_lt (data := (stD l).length) (hv := mo (hvS l sp set) b (hvS l sp set).length) (hvS_nd l (set := set) hsp) (fun i hi => by
    obtain ⟨x, hx, h⟩ := List.mem_map.1 hi
    exact ⟨x, mo_all x hx, h⟩) (fun x hx => List.mem_map.2 ⟨x, mo_mem x hx, rfl⟩)
  rw [List.length_map, stD_len] at hlt
  have hE := restE_stripe (stD_even l) hon
  rw [stD_len] at hE
  by_cases h : (hvS l sp set).length < (evn l).length
  · have h1 : restE (mo (hvS l sp set) b (hvS l sp set).length) ((evn l).length : Int) = 19 := by rw [hE, if_pos (hlt.2 h)]
    have h2 := hvS_E l (set := set) hsp
    rw [if_pos h] at h2
    refine ⟨by rw [h1, h2], ?_⟩
    unfold restB
    rw [h1, h2, if_neg (by decide), if_neg (by decide)]
  · have h1 : restE (mo (hvS l sp set) b (hvS l sp set).length) ((evn l).length : Int) = 0 := by rw [hE, if_neg fun h3 => h (hlt.1 h3)]
    have h2 := hvS_E l (set := set) hsp
    rw [if_neg h] at h2
    have hB := restB_stripe (stD_even l) hon (by rw [stD_len]; exact fun h3 => h (hlt.1 h3))
    rw [stD_len] at hB
    refine ⟨by rw [h1, h2], ?_⟩
    rw [hB, hvS_B l hsp h]
    unfold stD
    rw [List.map_map]
    exact (List.map_congr_left (fun s _ => ofL_bl s)).trans (List.map_id _)

/-! []byte of a string -/
theorem conv_bytes {P : Program} (w : World) (src dst e : TypeId) (s : ByteArray) (hs : P.underlying src = some .string) (hd : P.underlying dst = some (.slice e)) (he : P.underlying e = some (.int .u8)) (hm : s.size ≤ maxLen) :
    ∃ W cap, (convert src dst (.string s)).run P w = .ok (.slice (some ⟨w.heap.size, 0, none⟩) s.size cap) W ∧ Byt W (some ⟨w.heap.size, 0, none⟩) s.size cap (bl s) ∧ (∀ j, j < s.size → W.frozen? ⟨w.heap.size, j, none⟩ = false) ∧ Below w.heap.size w W ∧ W.heap.size = w.heap.size + 1 := by
  have hr := run_bytes_of_string (P := P) w src dst e s hs hd he
  obtain ⟨cap, hcap⟩ : ∃ cap, cap = grownCap w s.size 0 e := ⟨_, rfl⟩
  have hge : s.size ≤ cap := by rw [hcap]; exact grownCap_ge w s.size 0 e
  have hle : cap ≤ maxLen := by rw [hcap]; exact grownCap_le_maxLen w s.size 0 e hm
  rw [← hcap] at hr
  have hblk : (w.drew.alloc (.cells (bytesRow s cap) e ((bytesRow s cap).size, (bytesRow s cap).size + 1))).heap[w.heap.size]? = some (.cells (bytesRow s cap) e ((bytesRow s cap).size, (bytesRow s cap).size + 1)) := heap_alloc_new w.drew _
  have hsz : (bytesRow s cap).size = s.size + (cap - s.size) := by simp [bytesRow]
  have hdat : s.data.size = s.size := rfl
  refine ⟨_, cap, hr, ⟨hge, hle, by rw [bv_length, bl_length, Nat.mul_one], fun _ => ⟨_, rfl, by simp, fun j u hu => ?_⟩⟩, fun j hj => ?_, (Below.refl _ w).drew.alloc (Nat.le_refl _) _, by simp⟩
  · obtain ⟨hj, rfl⟩ := bv_get hu
    rw [bl_length] at hj
    rw [add_own, cell_of_row _ _ _ _ _ _ hblk, bytesRow_at s cap j (by rw [hdat]; exact hj)]
    rfl
  · unfold World.frozen?
    rw [hblk]
    simp
    omega
theorem byt_store {W : World} {b n c : Nat} {l : List UInt8} (h : Byt W (some ⟨b, 0, none⟩) n c l) {i : Nat} (hi : i < n) (v : UInt8) : Byt (W.setCell ⟨b, i, none⟩ (B v)) (some ⟨b, 0, none⟩) n c (l.set i v) := by
  have hn := h.len
  refine ⟨h.1, h.2.1, by rw [bv_length, List.length_set, Nat.mul_one]; exact hn.symm, fun h0 => ?_⟩
  obtain ⟨ad, e, hb, hc⟩ := h.2.2.2 h0
  injection e with e
  subst e
  refine ⟨_, rfl, by rw [setCell_size]; exact hb, fun j u hu => ?_⟩
  rw [add_own]
  unfold bv at hu
  rw [List.map_set] at hu
  by_cases hij : i = j
  · subst hij
    rw [List.getElem?_set_self (by rw [List.length_map, ← hn]; exact hi)] at hu
    injection hu with hu
    subst hu
    have h2 := hc i (B (l[i]'(by omega))) (by unfold bv; rw [List.getElem?_map, List.getElem?_eq_getElem (by omega)]; rfl)
    rw [add_own] at h2
    exact World.cell?_setCell_same _ _ _ h2
  · rw [List.getElem?_set_ne hij] at hu
    have h2 := hc j u hu
    rw [add_own] at h2
    rw [World.cell?_setCell_other _ _ _ _ (fun e => by injection e with _ e _; exact hij e)]
    exact h2

end Go.Proofs.Ytpljpceldlaphaa
