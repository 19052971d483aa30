/- Reconcile: Difference and merge of the reference. -/
import Derived.Test.YtnllocghmnhooaaDoorUq
namespace Go.Proofs.YtnllocghmnhooaaDoor
open Go.RowKit
set_option linter.unusedVariables false
set_option linter.unusedSimpArgs false
namespace Rc
open Bk (bl bl_len bl_ofL ofL_bl ofL_size ofL_append)

theorem wpl_app' {ops : Array Oper} {rest : List Oper} {o : Oper} {a : Act} {Q : Exit → Act → World → Prop} {w W : World} (hgd : o.guard = none) (s x : Operand)
    (ho : o.op = .call { callee := .builtin .append, args := #[s, x], argTypes := #[25, 25] })
    (v : Value) (l : List Rec) (r : Rec) (hs : a.eval s = v) (hown : Own W w.heap.size v l) (m : Nat) (hx : a.eval x = .slice (some ⟨m, 0, none⟩) 1 1) (hm : m = W.heap.size) (hl : l.length ≤ 1000000) (hb : Below w.heap.size w W)
    (h : ∀ v' w', Own w' w.heap.size v' (l ++ [r]) → Below w.heap.size w w' → wpList Tryd.prog ops Q rest (a.put o.dst v') w') :
    wpList Tryd.prog ops Q (o :: rest) a (W.alloc (.cells #[.int .u32 (r.a : Int), .int .i64 (r.s : Int), .string (ofL r.d)] 42)) := by
  subst hm
  exact wpl_app hgd s x ho v l r hs hown hx hl hb h

set_option maxRecDepth 100000 in
set_option maxHeartbeats 4000000 in
theorem rdiff_f (a b : List Rec) (hva : ∀ x ∈ a, Val x) (hvb : ∀ x ∈ b, Val x) (w : World) (A B : Option Addr) (ca cb : Nat) (ha : Rcs w A ca a) (hb : Rcs w B cb b) (hla : a.length ≤ 100000) (hlb : b.length ≤ 100000) :
    Calls Tryd.prog 21 #[.slice A a.length ca, .slice B b.length cb] w (OwnPost w (dif a b)) := by
  have HR := Lib.hid (fun W (h : Below w.heap.size w W) => ha.below h)
  have HK := Lib.hid (fun k (hk : k < a.length) W => rkey_f a[k] (hva _ (List.getElem_mem hk)) W)
  have HLK := Lib.hid (fun k W (h : Below w.heap.size w W) => rlookup_f b hvb k W B cb (hb.below h) hlb)
  unfold rv at HLK
  unfold dif
  obtain ⟨p, hp⟩ : ∃ p : Rec → Bool, p = fun x => !has b (key x) := ⟨_, rfl⟩
  have HP := Lib.hid (fun x => congrFun hp x)
  rw [← hp]
  have HF := Lib.hid (fun k (hk : k < a.length) => flt_snoc hk p)
  have HFL := Lib.hid (fun k => flt_len a k p)
  have HFE := Lib.hid (show a.filter p = (a.take a.length).filter p by rw [List.take_length])
  have hca : ca ≤ 9223372036854775807 := ha.max
  have hlca := ha.le
  obtain ⟨n, hn⟩ : ∃ n, n = a.length := ⟨_, rfl⟩
  obtain ⟨m, hm⟩ : ∃ m, m = b.length := ⟨_, rfl⟩
  have HN := Lib.hid hn
  rw [← hn] at hla hlca HFL HFE ⊢
  rw [← hm] at HLK ⊢
  clear hp hn hm hva hvb ha hb hlb
  go_enter Tryd.func21, Tryd.ntmps21
  go_wp2_with fail
  go_loopw [5, 6] (fun y x W => ∃ k : Nat, k ≤ n ∧ x = .int .i64 (k : Int) ∧ Hid (Own W w.heap.size y ((a.take k).filter p)) ∧ Hid (Below w.heap.size w W)) (fun _ x _ => n - (intOf x).toNat)
  case atStart => exact ⟨0, Nat.zero_le _, rfl, Lib.hid (own_zero _ (Nat.le_refl _)), Lib.hid ((Below.refl _ _).alloc (Nat.le_refl _) _)⟩
  case round =>
    obtain ⟨k, hk, rfl, HO, HB⟩ := hrel
    by_cases hkn : k < n
    · have hkl : k < a.length := by rw [← HN.out]; exact hkn
      obtain ⟨g, o, rfl, hat⟩ := (HR.out _ HB.out).mem (by omega)
      obtain ⟨c0, c1, c2⟩ := hat.2 k hkl
      have HKX := Lib.hid (HK.out k hkl)
      have HF1 := Lib.hid (HF.out k hkl)
      obtain ⟨r, hr⟩ : ∃ r, a[k] = r := ⟨_, rfl⟩
      rw [hr] at c0 c1 c2 HKX HF1
      have hgl := hat.1
      clear hat hr
      have HL1 := Lib.hid (HFL.out k)
      have hp1 := HP.out r
      have HG := Lib.hid hgl
      have HC0 := Lib.hid (And.intro c0 (And.intro c1 c2))
      unfold rv at HKX
      go_wp2_with fail
      refine (HKX.out _).mono ?_
      rintro e w3 ⟨rfl, hb3⟩
      have HB3 := Lib.hid (HB.out.trans (hb3.mono HB.out.size))
      have HC3 := Lib.hid hb3
      clear hb3 c0 c1 c2
      go_wp2_with fail
      refine (HLK.out (key r) _ HB3.out).mono ?_
      rintro e w4 ⟨rfl, hb4⟩
      have HB4 := Lib.hid (HB3.out.trans (hb4.mono HB3.out.size))
      have HC4 := Lib.hid (HC3.out.trans (hb4.mono HC3.out.size))
      clear hb4 HB3 HC3
      obtain ⟨z, hz⟩ : ∃ z, z = lkv b (key r) := ⟨_, rfl⟩
      rw [← hz]
      clear hz
      have HB5 := Lib.hid (HB4.out.alloc HB4.out.size (.cells #[.int .u32 (z.a : Int), .int .i64 (z.s : Int), .string (ofL z.d)] 42))
      have HC5 := Lib.hid (HC4.out.alloc HC4.out.size (.cells #[.int .u32 (z.a : Int), .int .i64 (z.s : Int), .string (ofL z.d)] 42))
      have c0 := (HC5.out.cell (p := ⟨g, _, none⟩) HG.out).trans HC0.out.1
      have c1 := (HC5.out.cell (p := ⟨g, _, none⟩) HG.out).trans HC0.out.2.1
      have c2 := (HC5.out.cell (p := ⟨g, _, none⟩) HG.out).trans HC0.out.2.2
      have HO5 := Lib.hid (Own.below HO.out HC5.out)
      by_cases q1 : has b (key r) = true
      · have hpf : p r = false := by rw [hp1, q1]; rfl
        rw [hpf, if_neg (by simp), List.append_nil] at HF1
        clear hp1 hpf
        go_wp2_with fail
        go_roundw
        case rel => exact ⟨k + 1, by omega, by go_num, by rw [HF1.out]; exact HO5, HB5⟩
        case measure => simp [intOf]; omega
      · have q1 : has b (key r) = false := by simpa using q1
        have hpf : p r = true := by rw [hp1, q1]; rfl
        rw [hpf, if_pos rfl] at HF1
        clear hp1 hpf
        go_wp2_with (at_builtin; refine wpl_app' rfl _ _ rfl _ ((a.take k).filter p) r rfl HO5.out _ rfl (by rw [asz]) (by have := HL1.out; omega) HB5.out ?_; intro v' w8 hown hb8)
        have HO9 := Lib.hid hown
        have HB9 := Lib.hid hb8
        clear hown hb8
        go_wp2_with fail
        go_roundw
        case rel => exact ⟨k + 1, by omega, by go_num, by rw [HF1.out]; exact HO9, HB9⟩
        case measure => simp [intOf]; omega
    · obtain rfl : n = k := by omega
      go_wp2_with fail
      go_ret
      exact ⟨_, rfl, by rw [HFE.out]; exact HO.out, HB.out⟩

/-- state of a merging -/
structure Mg (T L q : List Rec) (B : Nat) : Prop where
  eq : mrgR L q = T
  srt : Srt L
  val : ∀ x ∈ L, Val x
  qv : ∀ x ∈ q, Val x
  len : L.length + q.length ≤ B
theorem Mg.keep {T L q : List Rec} {r : Rec} {B : Nat} (h : Mg T L (r :: q) B) (e : has L (key r) = true) : Mg T L q B :=
  ⟨by have := h.eq; unfold mrgR at this; rw [if_pos e] at this; exact this, h.srt, h.val, fun x hx => h.qv x (List.mem_cons_of_mem _ hx), by have := h.len; simp at this; omega⟩
theorem Mg.step {T L q : List Rec} {r : Rec} {B : Nat} (h : Mg T L (r :: q) B) (e : has L (key r) = false) : Mg T (ins r L) q B :=
  ⟨by have := h.eq; unfold mrgR at this; rw [if_neg (by rw [e]; simp)] at this; exact this, ins_srt h.srt e, ins_val (h.qv r (by simp)) h.val, fun x hx => h.qv x (List.mem_cons_of_mem _ hx), by have := h.len; rw [ins_len]; simp at this; omega⟩

set_option maxRecDepth 100000 in
set_option maxHeartbeats 4000000 in
theorem rmerge_f (l d : List Rec) (hvl : ∀ x ∈ l, Val x) (hvd : ∀ x ∈ d, Val x) (hsl : Srt l) (hsd : Srt d) (w : World) (A D : Option Addr) (ca cd : Nat) (ha : Rcs w A ca l) (hd : Rcs w D cd d) (hlen : l.length + d.length ≤ 100000) :
    Calls Tryd.prog 54 #[.slice A l.length ca, .slice D d.length cd] w (RcsPost w (mrg l d)) := by
  have HA0 := Lib.hid (show Mg (mrg l d) l d 100000 from ⟨mrgR_eq hsd, hsl, hvl, hvd, hlen⟩)
  have HL0 := Lib.hid ha
  have HR := Lib.hid (fun W (h : Below w.heap.size w W) => hd.below h)
  have HK := Lib.hid (fun k (hk : k < d.length) W => rkey_f d[k] (hvd _ (List.getElem_mem hk)) W)
  obtain ⟨T, hT⟩ : ∃ T, T = mrg l d := ⟨_, rfl⟩
  rw [← hT] at HA0 ⊢
  have HDR := Lib.hid (fun k (hk : k < d.length) => (List.drop_eq_getElem_cons hk : d.drop k = d[k] :: d.drop (k + 1)))
  have HDE := Lib.hid (show d.drop d.length = [] from List.drop_length)
  have HD0 := Lib.hid (show d.drop 0 = d from List.drop_zero)
  have hcd : cd ≤ 9223372036854775807 := hd.max
  have hlcd := hd.le
  obtain ⟨nl, hnl⟩ : ∃ n, n = l.length := ⟨_, rfl⟩
  have HNL := Lib.hid hnl
  rw [← hnl] at ⊢
  obtain ⟨n, hn⟩ : ∃ n, n = d.length := ⟨_, rfl⟩
  have HN := Lib.hid hn
  rw [← hn] at hlcd HDE hlen ⊢
  have hn9 : n ≤ 100000 := by omega
  clear hT hvl hvd hsl hsd ha hd hlen hnl hn
  go_enter Tryd.func54, Tryd.ntmps54
  go_wp2_with fail
  go_loopw [0, 5] (fun y x W => ∃ (k : Nat) (L : List Rec) (a : Option Addr) (c : Nat), k ≤ n ∧ x = .int .i64 (k : Int) ∧ y = .slice a L.length c ∧ Hid (Rcs W a c L) ∧ Hid (Mg T L (d.drop k) 100000) ∧ Hid (Below w.heap.size w W)) (fun _ x _ => n - (intOf x).toNat)
  case atStart => exact ⟨0, l, A, ca, Nat.zero_le _, rfl, by rw [HNL.out], HL0, Lib.hid (by rw [HD0.out]; exact HA0.out), Lib.hid (Below.refl _ _)⟩
  case round =>
    obtain ⟨k, L, a, c, hk, rfl, rfl, HRL, HA, HB⟩ := hrel
    by_cases hkn : k < n
    · have hkl : k < d.length := by rw [← HN.out]; exact hkn
      obtain ⟨g, o, rfl, hat⟩ := (HR.out _ HB.out).mem (by omega)
      obtain ⟨c0, c1, c2⟩ := hat.2 k hkl
      have HKX := Lib.hid (HK.out k hkl)
      have HDK := Lib.hid (HDR.out k hkl)
      obtain ⟨r, hr⟩ : ∃ r, d[k] = r := ⟨_, rfl⟩
      rw [hr] at c0 c1 c2 HKX HDK
      have hgl := hat.1
      clear hat hr
      rw [HDK.out] at HA
      have HLK := Lib.hid (fun k W (h : Below wr.heap.size wr W) => rlookup_f L HA.out.val k W a c (HRL.out.below h) (by have := HA.out.len; omega))
      have HAD := Lib.hid (fun (q : has L (key r) = false) W (h : Below wr.heap.size wr W) => radd_f L r HA.out.val (HA.out.qv r (by simp)) HA.out.srt q W a c (HRL.out.below h) (by have := HA.out.len; simp at this; omega))
      unfold rv at HLK HAD
      have HA1 := Lib.hid (fun q => HA.out.keep q)
      have HA2 := Lib.hid (fun q => HA.out.step q)
      have HG := Lib.hid hgl
      have HC0 := Lib.hid (And.intro c0 (And.intro c1 c2))
      unfold rv at HKX
      go_wp2_with fail
      refine (HKX.out _).mono ?_
      rintro e w3 ⟨rfl, hb3⟩
      have HB3 := Lib.hid (HB.out.trans (hb3.mono HB.out.size))
      have HC3 := Lib.hid hb3
      clear hb3 c0 c1 c2
      go_wp2_with fail
      refine (HLK.out (key r) _ HC3.out).mono ?_
      rintro e w4 ⟨rfl, hb4⟩
      have HB4 := Lib.hid (HB3.out.trans (hb4.mono HB3.out.size))
      have HC4 := Lib.hid (HC3.out.trans (hb4.mono HC3.out.size))
      clear hb4 HB3
      obtain ⟨z, hz⟩ : ∃ z, z = lkv L (key r) := ⟨_, rfl⟩
      rw [← hz]
      clear hz
      have HB5 := Lib.hid (HB4.out.alloc HB4.out.size (.cells #[.int .u32 (z.a : Int), .int .i64 (z.s : Int), .string (ofL z.d)] 42))
      have HC5 := Lib.hid (HC4.out.alloc HC4.out.size (.cells #[.int .u32 (z.a : Int), .int .i64 (z.s : Int), .string (ofL z.d)] 42))
      have c0 := (HC5.out.cell (p := ⟨g, _, none⟩) HG.out).trans HC0.out.1
      have c1 := (HC5.out.cell (p := ⟨g, _, none⟩) HG.out).trans HC0.out.2.1
      have c2 := (HC5.out.cell (p := ⟨g, _, none⟩) HG.out).trans HC0.out.2.2
      by_cases q1 : has L (key r) = true
      · go_wp2_with fail
        go_roundw
        case rel => exact ⟨k + 1, L, a, c, by omega, by go_num, rfl, Lib.hid (HRL.out.below HC5.out), Lib.hid (HA1.out q1), HB5⟩
        case measure => simp [intOf]; omega
      · have q1 : has L (key r) = false := by simpa using q1
        go_wp2_with fail
        refine (HAD.out q1 _ HC5.out).mono ?_
        rintro e w6 ⟨v2, rfl, ho2, hb6⟩
        obtain ⟨a2, c2', rfl, hr2⟩ := ho2.rcs
        have HR2 := Lib.hid hr2
        have HB6 := Lib.hid (HB5.out.trans (hb6.mono HB5.out.size))
        clear ho2 hb6 hr2 c0 c1 c2
        go_wp2_with fail
        go_roundw
        case rel => exact ⟨k + 1, ins r L, a2, c2', by omega, by go_num, rfl, HR2, Lib.hid (HA2.out q1), HB6⟩
        case measure => simp [intOf]; omega
    · obtain rfl : n = k := by omega
      rw [HDE.out] at HA
      have HAE := Lib.hid (show L = T from HA.out.eq)
      go_wp2_with fail
      go_ret
      refine ⟨a, c, ?_, ?_, HB.out⟩
      · rw [← HAE.out]; rfl
      · rw [← HAE.out]; exact HRL.out
end Rc
end Go.Proofs.YtnllocghmnhooaaDoor
