/- Walk of layout.Stripes. -/
import Derived.Test.YtogcgeiocndlbaaLf
import Derived.Test.YtogcgeiocndlbaaOi
import Derived.Deep.AppendSrc
import Derived.Deep.Upon
import Derived.ArgAppend
namespace Go.Proofs.Ytogcgeiocndlbaa
open Go.RowKit
set_option linter.unusedVariables false
attribute [local go_sem] Oper.semAt_some
namespace Ly

/-- append onto a block that is full: the block is handed back, or what it held and more lies in a new one -/
theorem run_app_full {P : Program} {t e : TypeId} {z : Value} {bytes : Nat} (T : OneTy P t e z bytes) (ty : TypeId) {w : World} (g n : Nat) {cs : List Value} (hb : Blk w g e cs.toArray) (hc : cs.length = n) (hn : n ≤ maxLen)
    (A : Option Addr) (m c : Nat) {news : List Value} (hr : Sl w 1 A m c news) (h1 : ∀ u ∈ news, u.oneCell' = true) (h63 : n + m ≤ maxLen) (hbytes : (n + m) * bytes ≤ 140737488355328) {B : Nat} (hB : B ≤ g) (hBw : B ≤ w.heap.size) :
    ∃ v' w', (Builtin.append_ #[t, t] ty #[.slice (some ⟨g, 0, none⟩) n n, .slice A m c]).run P w = .ok v' w' ∧ w'.ownsRow B e 1 v' (n + m) (cs ++ news) ∧ Below w.heap.size w w' := by
  obtain ⟨i, hi, hz, hs1, hby⟩ := T.hi
  rcases Nat.eq_zero_or_pos m with hm | hm
  · subst hm
    have hnn : news = [] := List.eq_nil_of_length_eq_zero (by simpa using hr.2.2.1)
    subst hnn
    refine ⟨_, w, run_append_nothing w t t ty e i T.ht hi (some ⟨g, 0, none⟩) n n (Nat.le_refl _) _ ?_, ?_, Below.refl _ _⟩
    · cases A with
      | none => exact Src.ofNil w T.ht c
      | some a => exact Src.ofSlice w T.ht a 0 c [] (by simp) (fun j u h => by simp at h) (fun u h => by simp at h)
    · have := Blk.own (size := 1) (n := n) (base := B) hb hB (by simpa using hc) hn
      simpa using this
  · obtain ⟨ad, rfl, hab, hcell⟩ := hr.2.2.2 hm
    obtain ⟨v', w', hrun, h2, h3⟩ := run_append_arg_grows (P := P) w t ty e i z 1 bytes T.ht hi hz hs1 hby T.hz (by omega) ⟨g, 0, none⟩ n n cs (by omega) (fun j u hu => by rw [add_own, hb.cell]; simpa using hu) ad m c news hr.2.2.1 hcell (by omega) h63 hbytes
    exact ⟨v', w', hrun, own_mono h2 hBw, ⟨h3.os, h3.tape, h3.output, h3.size, fun k hk => h3.block k hk (by simp)⟩⟩
theorem step_app_full {P : Program} {t e : TypeId} {z : Value} {bytes : Nat} (T : OneTy P t e z bytes) {w : World} {ops : Array Oper} {o : Oper} {a : Act} {K : Act → World → Prop} {Q : Exit → Act → World → Prop} {E : Prop} (hgd : o.guard = none) (s x : Operand)
    (ho : o.op = .call { callee := .builtin .append, args := #[s, x], argTypes := #[t, t] }) (g n : Nat) {cs : List Value} (hs : a.eval s = .slice (some ⟨g, 0, none⟩) n n) (hb : Blk w g e cs.toArray) (hc : cs.length = n) (hn : n ≤ maxLen)
    (A : Option Addr) (m c : Nat) {news : List Value} (hx : a.eval x = .slice A m c) (hr : Sl w 1 A m c news) (h1 : ∀ u ∈ news, u.oneCell' = true) (h63 : n + m ≤ maxLen) (hbytes : (n + m) * bytes ≤ 140737488355328) {B : Nat} (hB : B ≤ g) (hBw : B ≤ w.heap.size)
    (h : ∀ v' w', w'.ownsRow B e 1 v' (n + m) (cs ++ news) → Below w.heap.size w w' → K (a.put o.dst v') w') :
    if Region.wanted o (yielded ops a.tmps) = true then Oper.wp P o a w K Q else E := by
  have hw : Region.wanted o (yielded ops a.tmps) = true := by simp [Region.wanted, hgd]
  rw [if_pos hw]
  obtain ⟨v', w', hrun, h2, h3⟩ := run_app_full T o.type g n hb hc hn A m c hr h1 h63 hbytes hB hBw
  unfold Oper.wp execOp
  simp only [ho, resolve, invoke, builtin, Sem.run_bind, Sem.run_pure, Result.andThen_ok, List.map_toArray, List.map_cons, List.map_nil, hs, hx, hrun]
  exact h v' w' h2 h3
/-- append of one element that lies in a block of its own, at a step of a region that draws its order -/
theorem step_push {P : Program} {t e : TypeId} {z : Value} {bytes : Nat} (T : OneTy P t e z bytes) {w : World} {ops : Array Oper} {o : Oper} {a : Act} {K : Act → World → Prop} {Q : Exit → Act → World → Prop} {E : Prop} (hgd : o.guard = none) (s x : Operand)
    (ho : o.op = .call { callee := .builtin .append, args := #[s, x], argTypes := #[t, t] })
    (base : Nat) (v : Value) (n : Nat) (xs : List Value) (hs : a.eval s = v) (hown : w.ownsRow base e 1 v n xs)
    (g : Nat) (y : Value) (hx : a.eval x = .slice (some ⟨g, 0, none⟩) 1 1) (hblk : Blk w g e #[y]) (hy : y.oneCell' = true) (hbase : base ≤ w.heap.size) (h63 : n + 1 ≤ maxLen) (hbytes : (n + 1) * bytes ≤ 140737488355328)
    (h : ∀ v' w', w'.ownsRow base e 1 v' (n + 1) (xs ++ [y]) → w.grownBy w' v.ownBlock → (v'.ownBlock = v.ownBlock ∨ v'.ownBlock = some w.heap.size) → K (a.put o.dst v') w') :
    if Region.wanted o (yielded ops a.tmps) = true then Oper.wp P o a w K Q else E := by
  have hw : Region.wanted o (yielded ops a.tmps) = true := by simp [Region.wanted, hgd]
  rw [if_pos hw]
  obtain ⟨i, hi, hz, h1, hb⟩ := T.hi
  obtain ⟨v', w', hrun, h2, h3, h4⟩ := run_append_sl (P := P) w base t o.type e i z 1 bytes T.ht hi hz h1 hb T.hz (by omega) v n xs hown (some ⟨g, 0, none⟩) 1 1 [y] (Blk.sl (n := 1) hblk rfl (by unfold maxLen; omega)) (by simpa using hy) h63 hbytes hbase
  unfold Oper.wp execOp
  simp only [ho, resolve, invoke, builtin, Sem.run_bind, Sem.run_pure, Result.andThen_ok, List.map_toArray, List.map_cons, List.map_nil, hs, hx, hrun]
  exact h v' w' h2 h3 h4

theorem ty_s : OneTy Try.prog 40 9 (.string ⟨#[]⟩) 16 := ⟨Try.underlying40, info_parts info_str, rfl⟩
theorem info_ss : (Try.prog.info? 40).map (fun i => (i.zero, i.size, i.bytes)) = some (some (.slice none 0 0), 1, 24) := by kernel_rfl
theorem ty_ss : OneTy Try.prog 25 40 (.slice none 0 0) 24 := ⟨Try.underlying25, info_parts info_ss, rfl⟩

/-- the stripe of a row of data blocks -/
def full (S : Nat) (x : Value × List ByteArray) : List ByteArray := x.2 ++ sprs x.2 S
/-- what holds between two rounds -/
def SI (w w0 : World) (bo bs D S : Nat) (pre : List (Value × List ByteArray)) (W : World) : Prop :=
  ∃ v vs, Boxed W bo 25 v ∧ W.ownsRow w0.heap.size 40 1 v pre.length vs ∧ RowsOk W w0.heap.size vs (pre.map (full S)) ∧
    (∀ k, k < w0.heap.size → k ≠ bo → k ≠ bs → W.heap[k]? = w0.heap[k]?) ∧ w0.heap.size ≤ W.heap.size ∧ Below w.heap.size w W ∧ pre.length ≤ 100000 ∧ ∀ x ∈ pre, x.2.length = D ∧ ∀ b ∈ x.2, b.size = 28

theorem keeps_below {W W' : World} (h : Below W.heap.size W W') : KeepsOthers W W' := ⟨h.size, fun k o hk _ => (h.block k (Array.getElem?_eq_some_iff.1 hk).1).trans hk⟩
theorem own_cells {W : World} {B n : Nat} {e : TypeId} {v : Value} {xs : List Value} (h : W.ownsRow B e 1 v n xs) {g : Nat} (hg : v.ownBlock = some g) : B ≤ g ∧ ∃ cs fz, W.heap[g]? = some (.cells cs e fz) := by
  rcases h.2 with ⟨rfl, _⟩ | ⟨g1, cap, cur, rfl, hb, hc, _⟩
  · cases hg
  · have : g1 = g := by injection hg
    subst this
    exact ⟨hb, _, _, hc⟩
theorem own_gr {w w' : World} {b s n : Nat} {e : TypeId} {v : Value} {xs : List Value} {row : Option Nat} (h : w.ownsRow b e s v n xs) (hg : w.grownBy w' row) (hne : ∀ g, row = some g → v.ownBlock ≠ some g) : w'.ownsRow b e s v n xs :=
  h.kept hg (by
    cases hv : v.ownBlock with
    | none => exact .inl rfl
    | some g => exact .inr fun e => hne g e.symm hv)
/-- a round: from its memory's turns to what holds behind it -/
theorem si_next {w w0 W W2 W3 W5 : World} {bo bs bL D S : Nat} {pre : List (Value × List ByteArray)} {x : Value × List ByteArray} {v v3 v5 : Value} {vs : List Value}
    (ho : bo < w0.heap.size) (hs : bs < w0.heap.size) (hL : bL < w0.heap.size) (hos : bo ≠ bs) (hoL : bo ≠ bL) (hwo : w.heap.size ≤ bo)
    (hbox : Boxed W bo 25 v) (hown : W.ownsRow w0.heap.size 40 1 v pre.length vs) (hrows : RowsOk W w0.heap.size vs (pre.map (full S)))
    (hkeep : ∀ k, k < w0.heap.size → k ≠ bo → k ≠ bs → W.heap[k]? = w0.heap[k]?) (hsz : w0.heap.size ≤ W.heap.size) (hbel : Below w.heap.size w W) (hpl : pre.length + 1 ≤ 100000) (hpx : ∀ x ∈ pre, x.2.length = D ∧ ∀ b ∈ x.2, b.size = 28)
    (hx : x.2.length = D ∧ ∀ b ∈ x.2, b.size = 28) (hb2 : Below W.heap.size W W2) (hb3 : Below W2.heap.size W2.drew W3) (h3 : W3.ownsRow w0.heap.size 9 1 v3 (D + S) (x.2.map Value.string ++ (sprs x.2 S).map Value.string))
    (h5 : W5.ownsRow w0.heap.size 40 1 v5 (pre.length + 1) (vs ++ [v3])) (hg5 : (W3.alloc (.cells #[v3] 40)).grownBy W5 v.ownBlock) :
    KeepsFrom w0.heap.size W (W5.setCell ⟨bo, 0, none⟩ v5) ∧ ((W5.setCell ⟨bo, 0, none⟩ v5).heap[bs]? = W.heap[bs]? ∧ (W5.setCell ⟨bo, 0, none⟩ v5).heap[bL]? = W.heap[bL]?) ∧ SI w w0 bo bs D S (pre ++ [x]) (W5.setCell ⟨bo, 0, none⟩ v5) := by
  have hb3' : Below W.heap.size W W3 := hb2.trans (Below.mono (show Below W2.heap.size W2 W3 from (Below.refl _ _).drew.trans hb3) hb2.size)
  have hb4 : Below W.heap.size W (W3.alloc (.cells #[v3] 40)) := hb3'.alloc hb3'.size _
  have hown4 := own_below hown hb4
  have hsz4 : W.heap.size ≤ (W3.alloc (.cells #[v3] 40)).heap.size := hb4.size
  have hne : ∀ g, v.ownBlock = some g → w0.heap.size ≤ g ∧ ∃ cs fz, W.heap[g]? = some (.cells cs 40 fz) := fun g hg => own_cells hown hg
  have key : ∀ k, k < W.heap.size → k ≠ bo → (∀ cs fz, W.heap[k]? ≠ some (.cells cs 40 fz)) → (W5.setCell ⟨bo, 0, none⟩ v5).heap[k]? = W.heap[k]? := by
    intro k hk hko hkt
    rw [Below.heap_setCell _ _ _ _ (by exact hko), hg5.block k (Nat.lt_of_lt_of_le hk hsz4) (fun e => by
      obtain ⟨_, cs, fz, h⟩ := hne k e.symm
      exact hkt cs fz h), hb4.block k hk]
  have key0 : ∀ k, k < w0.heap.size → k ≠ bo → (W5.setCell ⟨bo, 0, none⟩ v5).heap[k]? = W.heap[k]? := by
    intro k hk hko
    rw [Below.heap_setCell _ _ _ _ (by exact hko), hg5.block k (by omega) (fun e => by
      obtain ⟨h, _⟩ := hne k e.symm
      omega), hb4.block k (by omega)]
  have hboxt := hbox
  have hsz5 : W.heap.size ≤ (W5.setCell ⟨bo, 0, none⟩ v5).heap.size := by
    rw [show (W5.setCell ⟨bo, 0, none⟩ v5).heap.size = W5.heap.size by simp [World.setCell]]
    exact Nat.le_trans hsz4 hg5.size
  refine ⟨(((keeps_below hb4).trans (KeepsOthers.of_grownBy hg5 ?_)).trans (KeepsOthers.setCell _ _ _)).from _, ⟨key0 bs hs (Ne.symm hos), key0 bL hL (Ne.symm hoL)⟩, v5, vs ++ [v3], ?_, ?_, ?_, ?_, by omega, ?_, ?_, ?_⟩
  · intro j o hj ho
    obtain ⟨_, cs, fz, h⟩ := own_cells hown4 hj
    rw [h] at ho
    injection ho with ho
    subst ho
    rfl
  · have hbo : Boxed W5 bo 25 v := by
      refine (hg5.block bo (by omega) (fun e => ?_)).trans ((hb4.block bo (by omega)).trans hbox)
      obtain ⟨h, _⟩ := hne bo e.symm
      omega
    exact hbo.set v5
  · rw [List.length_append]
    have := own_gr h5 (w' := W5.setCell ⟨bo, 0, none⟩ v5) (row := some bo) ⟨rfl, rfl, rfl, by simp [World.setCell], fun k _ hk => Below.heap_setCell _ _ _ _ (fun e => hk (by simp [e]))⟩ (fun g hg e => by
      injection hg with hg
      subst hg
      obtain ⟨h, _⟩ := own_cells h5 e
      omega)
    exact this
  · rw [List.map_append]
    refine RowsOk.snoc ?_ ?_
    · refine hrows.keep hsz5 fun k cs fz hk hc => ?_
      refine key k (Array.getElem?_eq_some_iff.1 hc).1 (fun e => by omega) (fun cs' fz' h => ?_)
      rw [hc] at h
      injection h with h
      injection h with _ h _
      exact absurd h (by decide)
    · have h34 := own_alloc h3 (.cells #[v3] 40)
      have h35 := own_gr h34 hg5 (fun g hg e => by
        obtain ⟨_, cs, fz, h1⟩ := own_cells hown4 hg
        obtain ⟨_, cs', fz', h2⟩ := own_cells h34 e
        rw [h1] at h2
        injection h2 with h2
        injection h2 with _ h2 _
        exact absurd h2 (by decide))
      have h36 := own_gr h35 (w' := W5.setCell ⟨bo, 0, none⟩ v5) (row := some bo) ⟨rfl, rfl, rfl, by simp [World.setCell], fun k _ hk => Below.heap_setCell _ _ _ _ (fun e => hk (by simp [e]))⟩ (fun g hg e => by
        injection hg with hg
        subst hg
        obtain ⟨h, _⟩ := own_cells h35 e
        omega)
      unfold Row full
      rw [List.length_append, sprs_len, hx.1, List.map_append]
      exact h36
  · intro k hk hko hks
    rw [key0 k hk hko]
    exact hkeep k hk hko hks
  · exact ((hbel.trans (hb4.mono hbel.size)).grown hg5 (Nat.le_trans hbel.size hsz4) (fun k hk => by
      obtain ⟨h, _⟩ := hne k hk
      omega)).setCell (by exact hwo) _
  · rw [List.length_append]; exact hpl
  · intro y hy
    rcases List.mem_append.1 hy with hy | hy
    · exact hpx y hy
    · rw [List.mem_singleton] at hy; subst hy; exact hx

theorem own_keepG {W W' : World} {B n : Nat} {e : TypeId} {v : Value} {xs : List Value} (h : W.ownsRow B e 1 v n xs) (hk : ∀ k cs fz, B ≤ k → W.heap[k]? = some (.cells cs e fz) → W'.heap[k]? = W.heap[k]?) : W'.ownsRow B e 1 v n xs := by
  refine ⟨h.1, ?_⟩
  rcases h.2 with h2 | ⟨g, cap, cur, hv, hg, hb, r⟩
  · exact .inl h2
  · exact .inr ⟨g, cap, cur, hv, hg, (hk g _ _ hg hb).trans hb, r⟩
theorem SI.stable {w w0 W W' : World} {bo bs D S : Nat} {pre : List (Value × List ByteArray)} (h : SI w w0 bo bs D S pre W) (hbo : bo < w0.heap.size) (hbs : bs < w0.heap.size) (hos : bo ≠ bs) (hs : W.heap.size ≤ W'.heap.size)
    (hk : ∀ k cs t fz, W.heap[k]? = some (.cells cs t fz) → k ≠ bs → W'.heap[k]? = W.heap[k]?) (hk0 : ∀ k, k < w0.heap.size → k ≠ bs → W'.heap[k]? = W.heap[k]?) (hb : Below w.heap.size W W') : SI w w0 bo bs D S pre W' := by
  obtain ⟨v, vs, h1, h2, h3, h4, h5, h6, h7, h8⟩ := h
  exact ⟨v, vs, (hk0 bo hbo hos).trans h1, own_keepG h2 fun k cs fz hB hc => hk k cs _ fz hc (by omega), h3.keep hs fun k cs fz hB hc => hk k cs _ fz hc (by omega),
    fun k hkk ho hss => (hk0 k hkk hss).trans (h4 k hkk ho hss), by omega, h6.trans hb, h7, h8⟩
theorem put_ne {W : World} {l k : Nat} {o o' : Obj} {cs : Array Value} {t : TypeId} {fz : Nat × Nat} (hl : W.heap[l]? = some o) (ho : o.isCells = false) (hk : W.heap[k]? = some (.cells cs t fz)) : (W.putObj l o').heap[k]? = W.heap[k]? := by
  refine World.putObj_heap_other ?_
  rintro rfl
  rw [hk] at hl
  injection hl with hl
  subst hl
  cases ho

theorem mkblocks (d t : Int) (st : ByteArray) (W : World) : Calls Try.prog 24 #[.agg #[.int .i64 d, .int .i64 t], .string st] W fun e W' =>
    e = .returned (.func (.func 35) #[] #[.pointer (some ⟨W.heap.size, 0, none⟩), .pointer (some ⟨W.heap.size + 1, 0, none⟩)]) ∧ W' = (W.alloc (.cells #[.int .i64 d, .int .i64 t] 23)).alloc (.cells #[.string st] 9) := by
  go_enter Try.func24, Try.ntmps24
  go_wp2
  go_ret
  exact ⟨rfl, rfl⟩

set_option maxRecDepth 100000 in
set_option maxHeartbeats 2000000 in
theorem stripes_try (D S : Nat) (hD : 1 ≤ D) (hD8 : D ≤ 8) (hS : S ≤ 7) (s : ByteArray) (hs : s.size ≤ 100000) (w : World) :
    Calls Try.prog 11 #[.agg #[.int .i64 (D : Int), .int .i64 (S : Int)], .string s] w (GivesRR (strs D S (bl s)) 0 w) := by
  have HC := Lib.hid (fun W => check_yes (D : Int) (S : Int) ⟨by omega, by omega, by omega, by omega⟩ W)
  have hs2 : ¬ 65536 * (D : Int) * 28 < (s.size : Int) := by omega
  refine (callsIn_wide (n := 10)).1 ?_
  refine callsIn_of_wp_marks Try.func11 rfl trivial ?_ rfl
  simp only [Try.ntmps11, List.size_toArray, List.length_cons, List.length_nil, Nat.reduceAdd, Nat.reduceSub, Array.replicate_succ, Array.replicate_zero, List.push_toArray, List.append_toArray, List.nil_append, List.cons_append]
  gi_wp2
  refine ⟨trivial, (callsIn_wide.2 (HC.out _)).mono ?_⟩
  rintro e w1 ⟨rfl, hb⟩
  have HL := Lib.hid ((Blk.new w 23 #[.int .i64 (D : Int), .int .i64 (S : Int)]).below hb)
  have HB1 := Lib.hid (((Below.refl w.heap.size w).alloc (Nat.le_refl _) (.cells #[.int .i64 (D : Int), .int .i64 (S : Int)] 23)).trans (hb.mono (by simp)))
  clear hb
  have c0 := HL.out.cell 0
  have c1 := HL.out.cell 1
  simp only [List.getElem?_toArray, List.getElem?_cons_zero, List.getElem?_cons_succ] at c0 c1
  have hlt := HL.out.lt
  gi_wp2
  refine ⟨trivial, (callsIn_wide.2 (mkblocks (D : Int) (S : Int) s _)).mono ?_⟩
  rintro e w2 ⟨rfl, rfl⟩
  gi_wp2
  have hBo := ((Boxed.new w1 25 (.slice none 0 0)).alloc (.cells #[.int .i64 (D : Int), .int .i64 (S : Int)] 23)).alloc (.cells #[.string s] 9)
  have hBl := (blk_new1 w1 (.cells #[.slice none 0 0] 25) 23 #[.int .i64 (D : Int), .int .i64 (S : Int)]).alloc (.cells #[.string s] 9)
  have hBs := blk_new1 (w1.alloc (.cells #[.slice none 0 0] 25)) (.cells #[.int .i64 (D : Int), .int .i64 (S : Int)] 23) 9 #[.string s]
  rw [World.size_alloc] at hBs
  have hL0 := ((HL.out.alloc (.cells #[.slice none 0 0] 25)).alloc (.cells #[.int .i64 (D : Int), .int .i64 (S : Int)] 23)).alloc (.cells #[.string s] 9)
  have hB0 := ((HB1.out.alloc HB1.out.size (.cells #[.slice none 0 0] 25)).alloc (by have := HB1.out.size; simp; omega) (.cells #[.int .i64 (D : Int), .int .i64 (S : Int)] 23)).alloc (by have := HB1.out.size; simp; omega) (.cells #[.string s] 9)
  have hsz0 : (((w1.alloc (.cells #[.slice none 0 0] 25)).alloc (.cells #[.int .i64 (D : Int), .int .i64 (S : Int)] 23)).alloc (.cells #[.string s] 9)).heap.size = w1.heap.size + 3 := by simp
  generalize ((w1.alloc (.cells #[.slice none 0 0] 25)).alloc (.cells #[.int .i64 (D : Int), .int .i64 (S : Int)] 23)).alloc (.cells #[.string s] 9) = w0 at *
  have HBO := Lib.hid hBo
  have HBL := Lib.hid hBl
  have HBS := Lib.hid hBs
  have HL0 := Lib.hid hL0
  have HB0 := Lib.hid hB0
  have HSZ := Lib.hid hsz0
  have HW1 := Lib.hid HB1.out.size
  clear hBo hBl hBs hL0 hB0 hsz0 c0 c1 HL HB1 HC
  refine range_has rfl (by omega) (gf := 35) (lb := #[.pointer (some ⟨w1.heap.size + 1, 0, none⟩), .pointer (some ⟨w1.heap.size + 1 + 1, 0, none⟩)]) rfl trivial (enters_of Try.func35 (by kernel_rfl) rfl)
    (fun x : Value × List ByteArray => #[x.1]) (Hd w0.heap.size D) (fun W W' => W'.heap[w1.heap.size + 1 + 1]? = W.heap[w1.heap.size + 1 + 1]? ∧ W'.heap[w1.heap.size + 1]? = W.heap[w1.heap.size + 1]?)
    (fun xs => xs.map (·.2) = (List.range (nst D (bl s))).map (dat D (bl s)))
    (fun h k => ⟨k.1.trans h.1, k.2.trans h.2⟩) ?hKb (fun _ => rfl) ?hHd
    (SI w w0 w1.heap.size (w1.heap.size + 1 + 1) D S) ?hI ?h0
    (fun x => { tmps := #[.agg #[.int .i64 (D : Int), .int .i64 (S : Int)], .string s, .pointer (some ⟨w.heap.size, 0, none⟩), undef, .slice none 0 0, .int .i64 0, .int .i64 0, .pointer (some ⟨w1.heap.size, 0, none⟩), x.1, undef, undef,
          .agg #[.int .i64 (D : Int), .int .i64 (S : Int)], .int .i64 0, .int .i64 0, .bool false, undef, .string s, .int .i64 (s.size : Int), .pointer (some ⟨w.heap.size, 0, none⟩), .int .i64 (D : Int),
          .int .i64 (65536 * (D : Int)), .int .i64 (65536 * (D : Int) * 28), .bool (decide (65536 * (D : Int) * 28 < (s.size : Int))), .agg #[.int .i64 (D : Int), .int .i64 (S : Int)], .string s,
          .func (.func 35) #[] #[.pointer (some ⟨w1.heap.size + 1, 0, none⟩), .pointer (some ⟨w1.heap.size + 1 + 1, 0, none⟩)], x.1,
          undef, undef, undef, undef, undef, undef, undef, undef, undef, undef, undef, undef, undef, undef], defers := [] }) ?hassign ?hbody ?hiter ?hdone
  case hKb =>
    intro W l o' hl ho
    have := HSZ.out
    exact ⟨World.putObj_heap_other (by omega), World.putObj_heap_other (by omega)⟩
  case hHd =>
    rintro pre x W l o o' ⟨h0, g, h1, h2, h3, h4, h5⟩ hl hlo hc
    exact ⟨h0, g, h1, h2, (put_ne hlo hc h3).trans h3, h4, h5⟩
  case hI =>
    intro s W l o o' h hl hlo hc
    have := HSZ.out
    exact h.stable (by omega) (by omega) (by omega) (by simp) (fun k cs t fz hk _ => put_ne hlo hc hk) (fun k hk _ => World.putObj_heap_other (by omega)) (below_put (Below.refl _ _) (by have := HW1.out; omega) _)
  case h0 =>
    intro o o'
    have := HSZ.out
    have h1 : Below w0.heap.size w0 ((w0.alloc o).alloc o') := ((Below.refl _ _).alloc (Nat.le_refl _) o).alloc (by simp) o'
    exact ⟨.slice none 0 0, [], (HBO.out.alloc o).alloc o', World.ownsRow_nil _ _ _ _, RowsOk.nil _ _, fun k hk _ _ => h1.block k hk, h1.size, HB0.out.trans (h1.mono HB0.out.size), by simp, fun x hx => by cases hx⟩
  case hassign =>
    intro l x W K hK
    gi_wp2
    exact hK
  case hbody =>
    rintro l pre ⟨xv, ds⟩ W ⟨v, vs, hbox, hown, hrows, hkeep, hsz, hbel, hpl, hpx⟩ ⟨hpl1, g, hx1, hg, hblk, hlen, hs28⟩
    simp only at hx1 hblk hlen hs28
    subst hx1
    obtain ⟨Ao, co, rfl, _, _⟩ := own_form hown
    have hw1 := HW1.out
    have hz := HSZ.out
    have hLw : Blk W w.heap.size 23 #[.int .i64 (D : Int), .int .i64 (S : Int)] := (hkeep w.heap.size (by omega) (by omega) (by omega)).trans HL0.out
    have c1 := hLw.cell 1
    simp only [List.getElem?_toArray, List.getElem?_cons_zero, List.getElem?_cons_succ] at c1
    have hlst : Lst Value.string W (some ⟨g, 0, none⟩) D D ds := by
      have := Blk.sl (size := 1) (n := D) hblk (by simp [hlen]) (by unfold maxLen; omega)
      simpa [Lst] using this
    have hds0 : ∀ b ∈ ds, b.size = (ds.getD 0 default).size := fun b hb => by
      rw [hs28 b hb]
      cases ds with
      | nil => cases hb
      | cons y r => exact (hs28 y (by simp)).symm
    have HEC := Lib.hid (encode_ok W (some ⟨g, 0, none⟩) D D ds hlst S (by omega) (by omega) (by omega) (any_false fun b hb => by unfold unev; simp [hds0 b hb]) 28 (by omega) (by cases ds with | nil => simp at hlen; omega | cons y r => exact hs28 y (by simp)))
    have HBX := Lib.hid hbox
    have HOW := Lib.hid hown
    have HRO := Lib.hid hrows
    have HKE := Lib.hid hkeep
    have HBE := Lib.hid hbel
    have HPX := Lib.hid hpx
    have HBK := Lib.hid hblk
    have H28 := Lib.hid hs28
    have HDL := Lib.hid hlen
    clear hbox hown hrows hkeep hbel hpx hblk hs28 hlen hlst hds0 hLw hw1 hz
    gi_wp2
    refine ⟨trivial, (CallsIn.inRound l (callsIn_wide.2 HEC.out)).mono ?_⟩
    rintro e W2 ⟨sv, rfl, hso, hb2⟩
    rw [sprs_len] at hso
    obtain ⟨As, cs, rfl, hsl, _⟩ := own_form hso
    have HSL := Lib.hid hsl
    have HB2 := Lib.hid hb2
    clear hso hsl hb2 c1
    gi_wp2
    refine wp_region_Xin (fun V => V.cell? ⟨w1.heap.size, 0, none⟩ = some (.slice Ao pre.length co)) 6 (by kernel_rfl) (by rintro ⟨a, w, h⟩; exact h) (by kernel_rfl) ?_
    show wpAnyX _ _ _ _ _ _ 7 _ _ _
    have hS0 : W2.drew.cell? ⟨w1.heap.size, 0, none⟩ = some (.slice Ao pre.length co) := Boxed.cell (W := W2) ((HB2.out.block w1.heap.size (Boxed.lt HBX.out)).trans HBX.out)
    refine wpAnyX_take (i := 0) (v := ?_) rfl (by kernel_rfl) (by kernel_rfl) (by kernel_rfl) (by kernel_rfl) (by kernel_rfl) (fun _ _ _ h => h) (Or.inl ⟨by rfl, ?_⟩) (by exact hS0) ?_
    rotate_left
    · intro w hSw; (try dsimp only at hSw); go_simp; (try with_reducible rfl)
    try simp only [List.getElem_toArray, List.getElem_cons_zero, Act.put, List.setIfInBounds_toArray, List.set_cons_zero, List.set_cons_succ]
    refine wpAnyX_pure (i := 1) (v := ?_) rfl (by kernel_rfl) (by kernel_rfl) (by kernel_rfl) (by kernel_rfl) (by kernel_rfl) (fun _ _ _ h => h) (Or.inl ⟨by rfl, ?_⟩) (fun _ => by exact hS0) ?_
    rotate_left
    · intro w hSw; (try dsimp only at hSw); go_simp; (try with_reducible rfl)
    try simp only [List.getElem_toArray, List.getElem_cons_zero, List.getElem_cons_succ, Act.put, List.setIfInBounds_toArray, List.set_cons_zero, List.set_cons_succ]
    refine wpAnyX_pure (i := 2) (v := ?_) rfl (by kernel_rfl) (by kernel_rfl) (by kernel_rfl) (by kernel_rfl) (by kernel_rfl) (fun _ _ _ h => h) (Or.inl ⟨by rfl, ?_⟩) (fun _ => by exact hS0) ?_
    rotate_left
    · intro w hSw; (try dsimp only at hSw); go_simp; (try with_reducible rfl)
    try simp only [List.getElem_toArray, List.getElem_cons_zero, List.getElem_cons_succ, Act.put, List.setIfInBounds_toArray, List.set_cons_zero, List.set_cons_succ]
    refine wpAnyX_one (i := 3) (by kernel_rfl) rfl (fun K hK => ?_)
    refine step_app_full ty_s rfl (.tmp 35) (.tmp 36) rfl g D rfl (HBK.out.below HB2.out).drew (by rw [List.length_map]; exact HDL.out) (by unfold maxLen; omega) As S cs rfl (show Sl W2.drew 1 As S cs _ from HSL.out) (fun u hu => by obtain ⟨b, _, rfl⟩ := List.mem_map.1 hu; rfl) (by unfold maxLen; omega) (by omega) (B := w0.heap.size) hg (Nat.le_trans hsz HB2.out.size) ?_
    intro v3 W3 hown3 hb3
    obtain ⟨A3, c3, rfl, _, _⟩ := own_form hown3
    have HO3 := Lib.hid hown3
    have HB3 := Lib.hid hb3
    have hbx2 : Boxed W2.drew w1.heap.size 25 (.slice Ao pre.length co) := (HB2.out.block w1.heap.size (Boxed.lt HBX.out)).trans HBX.out
    have hbx3 : Boxed W3 w1.heap.size 25 (.slice Ao pre.length co) := (hb3.block w1.heap.size (Boxed.lt hbx2)).trans hbx2
    have HX3 := Lib.hid hbx3
    refine hK.out _ _ (fun _ => by exact HX3.out.cell) ?_
    clear hown3 hb3 hK K hbx2 hbx3
    try simp only [List.getElem_toArray, List.getElem_cons_zero, List.getElem_cons_succ, Act.put, List.setIfInBounds_toArray, List.set_cons_zero, List.set_cons_succ]
    refine wpAnyX_one (i := 4) (by kernel_rfl) rfl (fun K hK => ?_)
    go_simp
    have HX4 := Lib.hid (HX3.out.alloc (.cells #[.slice A3 (D + S) c3] 40))
    refine hK.out _ _ (fun _ => by exact HX4.out.cell) ?_
    clear hK K
    try simp only [List.getElem_toArray, List.getElem_cons_zero, List.getElem_cons_succ, Act.put, List.setIfInBounds_toArray, List.set_cons_zero, List.set_cons_succ]
    have hb34 : Below W.heap.size W (W3.alloc (.cells #[.slice A3 (D + S) c3] 40)) := ((HB2.out.drew.trans (HB3.out.mono HB2.out.size))).alloc (Nat.le_trans HB2.out.size HB3.out.size) _
    have HB34 := Lib.hid hb34
    clear hb34
    refine wpAnyX_one (i := 5) (by kernel_rfl) rfl (fun K hK => ?_)
    refine step_push ty_ss rfl (.tmp 34) (.tmp 38) rfl w0.heap.size (.slice Ao pre.length co) pre.length vs rfl (own_below HOW.out HB34.out) W3.heap.size (.slice A3 (D + S) c3) rfl (Blk.new _ _ _) rfl (Nat.le_trans hsz HB34.out.size) (by unfold maxLen; omega) (by omega) ?_
    intro v5 W5 hown5 hg5 _
    obtain ⟨A5, c5, rfl, _, _⟩ := own_form hown5
    have HO5 := Lib.hid hown5
    have HG5 := Lib.hid hg5
    have hbx5 : Boxed W5 w1.heap.size 25 (.slice Ao pre.length co) := HX4.out.kept hg5 (fun e => by
      obtain ⟨h, _⟩ := own_cells HOW.out e.symm
      have := HSZ.out
      omega)
    have HX5 := Lib.hid hbx5
    refine hK.out _ _ (fun _ => by exact HX5.out.cell) ?_
    clear hown5 hg5 hbx5 hK K
    try simp only [List.getElem_toArray, List.getElem_cons_zero, List.getElem_cons_succ, Act.put, List.setIfInBounds_toArray, List.set_cons_zero, List.set_cons_succ]
    have b0 := HX5.out.cell
    have f0 := HX5.out.frozen
    refine wpAnyX_one (i := 6) (by kernel_rfl) rfl (fun K hK => ?_)
    go_simp
    refine hK.out _ _ (fun h => absurd h (by decide)) ?_
    clear hK K b0 f0
    refine wpAnyX_done (by kernel_rfl) ?_ _
    have hz := HSZ.out
    have hw1 := HW1.out
    exact si_next (W := W) (W2 := W2) (W3 := W3) (bs := w1.heap.size + 1 + 1) (bL := w1.heap.size + 1) (by omega) (by omega) (by omega) (by omega) (by omega) hw1 HBX.out HOW.out HRO.out HKE.out hsz HBE.out hpl1 HPX.out ⟨HDL.out, H28.out⟩ HB2.out HB3.out HO3.out HO5.out HG5.out
  case hiter =>
    intro l J W hJ1 hJ2 hY hJ0 hW
    obtain ⟨o, o', hW⟩ := hW
    have hz := HSZ.out
    refine blocks_it (10 - 1) D S hD hD8 s hs l (w1.heap.size + 1) (w1.heap.size + 1 + 1) w0.heap.size (by omega) J ?_ ?_ ?_ hY W ?_ (by omega) ?_ hJ0
    · intro pre W v hj hb u
      exact hJ2 _ _ _ hj ((hJ1 _ _ hj).1.stable (by omega) (by omega) (by omega) (by rw [setCell_size]; exact Nat.le_refl _) (fun k cs t fz hk hne => Below.heap_setCell _ _ _ _ (by exact hne)) (fun k hk hne => Below.heap_setCell _ _ _ _ (by exact hne)) ((Below.refl _ _).setCell (by show w.heap.size ≤ w1.heap.size + 1 + 1; have := HW1.out; omega) _)) (by rw [setCell_size]; exact Nat.le_refl _) (fun k _ o hk ho => (KeepsOthers.setCell W _ u).same k o hk ho)
    · intro pre W W' hj hb
      have hi := (hJ1 _ _ hj).1
      have hsz := hi.choose_spec.choose_spec.2.2.2.2.1
      exact hJ2 _ _ _ hj (hi.stable (by omega) (by omega) (by omega) hb.size (fun k cs t fz hk _ => hb.block k (Array.getElem?_eq_some_iff.1 hk).1) (fun k hk _ => hb.block k (by omega)) (hb.mono (by have := HW1.out; omega))) hb.size (fun k _ o hk ho => (keeps_below hb).same k o hk ho)
    · intro pre W hj
      exact (hJ1 _ _ hj).1.choose_spec.choose_spec.2.2.2.2.1
    · rw [hW]; exact (HBL.out.alloc o).alloc o'
    · rw [hW]; exact Boxed.alloc (Boxed.alloc (show Boxed w0 _ _ _ from HBS.out) o) o'
  case hdone =>
    rintro xs W hS ⟨v, vs, hbox, hown, hrows, hkeep, hsz, hbel, hpl, hpx⟩ hDf
    obtain ⟨A, c, rfl, _, _⟩ := own_form hown
    have cP := hbox.cell
    have hl : xs.map (full S) = strs D S (bl s) := by
      have e : xs.map (full S) = (xs.map (·.2)).map fun d => d ++ sprs d S := by rw [List.map_map]; rfl
      rw [e, hS, List.map_map]
      rfl
    have hxl : xs.length = (strs D S (bl s)).length := by rw [← hl, List.length_map]
    have HX := Lib.hid (show GivesRR (strs D S (bl s)) 0 w (.returned (.tuple #[.slice A xs.length c, .int .i64 0])) (W.putObj w0.heap.size (.deferred none)) from by
      have hz := HSZ.out
      have hw1 := HW1.out
      refine ⟨_, vs, rfl, ?_, ?_, ?_⟩
      · rw [← hxl]
        exact own_mono (own_keepG hown fun k cs fz hB hc => put_ne hDf rfl hc) (by omega)
      · rw [← hl]
        exact (hrows.keep (by simp) fun k cs fz hB hc => put_ne hDf rfl hc).mono (by omega)
      · exact below_put hbel (by omega) _)
    clear hown hrows hkeep hbel hS hl hxl hbox hsz hpl hpx
    gi_wp2
    refine ⟨by simp, .inl ⟨_, _, rfl, run_takeDeferred hDf, ?_⟩⟩
    exact ⟨.tuple #[.slice A xs.length c, .int .i64 0], by simp [results, Try.results11, go_sem], HX.out⟩

end Ly
end Go.Proofs.Ytogcgeiocndlbaa
