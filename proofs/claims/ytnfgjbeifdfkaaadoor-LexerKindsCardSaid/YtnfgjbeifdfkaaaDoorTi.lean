/- The lexer's walks: Tokens. -/
import Derived.Test.YtnfgjbeifdfkaaaDoorTh
namespace Go.Proofs.YtnfgjbeifdfkaaaDoor
open Go.RowKit
set_option linter.unusedVariables false
namespace Lx

def tc (t : Tk) : List Value := [.int .i64 (t.kind : Int), .string (ofL t.text), .int .i64 (t.line : Int)]
def tv (l : List Tk) : List Value := l.flatMap tc
theorem tv_app (a b : List Tk) : tv (a ++ b) = tv a ++ tv b := by simp [tv]
theorem tv_len (l : List Tk) : (tv l).length = l.length * 3 := by
  induction l with
  | nil => rfl
  | cons t l ih =>
    show (tc t ++ tv l).length = _
    rw [List.length_append, ih]
    simp [tc]; omega
theorem tv_one (l : List Tk) : ∀ u ∈ tv l, u.oneCell' = true := by
  intro u hu
  obtain ⟨t, _, h⟩ := List.mem_flatMap.1 hu
  simp [tc] at h
  rcases h with rfl | rfl | rfl <;> rfl
/-- what Tokens hands back -/
def TokP (w : World) (o : O) (e : Ending) (w' : World) : Prop := match o with
  | .ok l => ∃ v, e = .returned (.tuple #[v, .int .i64 0, .int .i64 0]) ∧ w'.ownsRow w.heap.size 33 3 v l.length (tv l) ∧ Below w.heap.size w w'
  | .err n x => e = .returned (.tuple #[.slice none 0 0, .int .i64 (n : Int), .int .i64 (x : Int)]) ∧ Below w.heap.size w w'
theorem info_tok : (Tryd.prog.info? 33).map (fun i => (i.zero, i.size, i.bytes)) = some (some (.agg #[.int .i64 0, .string ⟨#[]⟩, .int .i64 0]), 3, 32) := by kernel_rfl
set_option maxRecDepth 100000 in
theorem tokens_big (s : ByteArray) (hs : 60000 < s.size) (w : World) :
    Calls Tryd.prog 9 #[.string s] w fun e w' => e = .returned (.tuple #[.slice none 0 0, .int .i64 0, .int .i64 6]) ∧ w' = w := by
  have h : (60000 : Int) < (s.size : Int) := by omega
  go_enter Tryd.func9, Tryd.ntmps9
  go_wp2_with fail
  go_ret3
  exact ⟨rfl, rfl⟩
theorem O.pre_pre (a b : List Tk) (o : O) : (o.pre b).pre a = o.pre (a ++ b) := by cases o <;> simp [O.pre]
theorem empty_of (r : ByteArray) (h : r.size = 0) : bl r = [] := by
  apply List.eq_nil_of_length_eq_zero
  rw [bl_len]; exact h
set_option maxRecDepth 100000 in
set_option maxHeartbeats 4000000 in
theorem tokens_f (s : ByteArray) (hs : s.size ≤ 60000) (w : World) (ht : Tab w) :
    Calls Tryd.prog 9 #[.string s] w (TokP w (lex (bl s) 1)) := by
  obtain ⟨i0, hi', hz0, hz1, hz2⟩ := info_parts info_tok
  have HT := Lib.hid ht
  have h6 : ¬ (60000 : Int) < (s.size : Int) := by omega
  obtain ⟨O0, hO⟩ : ∃ o, o = lex (bl s) 1 := ⟨_, rfl⟩
  have HO0 := Lib.hid hO
  rw [← hO]
  clear ht hO
  go_enter Tryd.func9, Tryd.ntmps9
  go_wp2_with fail
  go_loopw [5, 6, 7] (fun x5 x6 x7 W => ∃ (r : ByteArray) (L : Nat) (l : List Tk), x6 = .int .i64 (L : Int) ∧ x7 = .string r ∧ r.size ≤ s.size ∧ L ≤ 1 + (s.size - r.size) ∧ l.length ≤ s.size - r.size ∧ Hid (W.ownsRow w.heap.size 33 3 x5 l.length (tv l)) ∧ Hid (Below w.heap.size w W) ∧ Hid (O0 = (lex (bl r) L).pre l)) (fun _ _ x7 _ => (match x7 with | .string r => r.size | _ => 0))
  case atStart => exact ⟨s, 1, [], rfl, rfl, by omega, by omega, by simp, Lib.hid (World.ownsRow_nil w w.heap.size 33 3), Lib.hid (Below.refl _ _), Lib.hid (by rw [HO0.out, O.pre_nil])⟩
  case round =>
    obtain ⟨r, L, l, rfl, rfl, hr, hL, hl, HOW, HB, HLX⟩ := hrel
    have HRT := Lib.hid (toList_bl r)
    by_cases hr0 : r.size = 0
    · have he : r.toList = [] := by rw [HRT.out]; exact empty_of r hr0
      have HE := Lib.hid (show O0 = .ok l by
        rw [HLX.out, empty_of r hr0, lex_nil]
        simp [O.pre])
      go_wp2_with fail
      go_ret3
      rw [HE.out]
      exact ⟨_, rfl, HOW.out, HB.out⟩
    · have hne : bl r ≠ [] := fun e => hr0 (by rw [← bl_len, e]; rfl)
      have he : ¬ r.toList = [] := by rw [HRT.out]; exact hne
      have he2 : (!r.toList.isEmpty) = true := by
        rw [HRT.out]
        cases h : bl r with
        | nil => exact absurd h hne
        | cons a b => rfl
      have he3 : r.toList.isEmpty = false := by
        rw [HRT.out]
        cases h : bl r with
        | nil => exact absurd h hne
        | cons a b => rfl
      have HNE := Lib.hid hne
      have HSK := Lib.hid (fun w => skip_f r (by omega) w)
      have HSL := Lib.hid (show skp (bl r) ≤ r.size by have := skp_le (bl r); rwa [bl_len] at this)
      have hcap : skp (bl r) ≤ r.size := HSL.out
      obtain ⟨n, hn⟩ : ∃ n, n = skp (bl r) := ⟨_, rfl⟩
      rw [← hn] at HSK hcap
      have HN := Lib.hid hn
      clear hn hne
      have rest : ∀ m, 1 ≤ m → m ≤ r.size → ∃ (y z : ByteArray), r.extract 0 m = y ∧ r.extract m r.size = z ∧ bl y = (bl r).take m ∧ bl z = (bl r).drop m ∧ z.size < r.size ∧ nls (bl y) ≤ r.size - z.size := fun m h1 h2 => by
        refine ⟨_, _, rfl, rfl, ?_, ?_, ?_, ?_⟩
        · rw [cut_to, bl_ofL]
        · rw [cut_from, bl_ofL]
        · rw [ByteArray.size_extract]; omega
        · rw [cut_to, bl_ofL, ByteArray.size_extract]
          have : nls ((bl r).take m) ≤ ((bl r).take m).length := List.count_le_length
          rw [List.length_take] at this
          omega
      by_cases hn0 : n = 0
      · have HN0 := Lib.hid (show skp (bl r) = 0 by rw [← HN.out]; exact hn0)
        have hnb : ((n : Int) == 0) = true := by simp; omega
        have HTK := Lib.hid (fun V (hV : Tab V) => (⟨fun k t m h => token_ok_f r (by omega) (by omega) V hV h, fun x h => token_err_f r (by omega) (by omega) V hV h⟩ : (∀ k t m, token (bl r) = .ok k t m → _) ∧ (∀ x, token (bl r) = .err x → _)))
        cases htk : token (bl r) with
        | err x =>
          have HX := Lib.hid (show O0 = .err L x by
            rw [HLX.out, lex_err HNE.out HN0.out htk]; rfl)
          have HC := Lib.hid ((HTK.out wr (HT.out.bel HB.out)).2 x htk)
          have hx := ((lex_props (bl r).length (bl r) L (Nat.le_refl _)).2 L x (lex_err HNE.out HN0.out htk L)).2.2
          have hxb : ((x : Int) != 0) = true := by simp; omega
          clear htk hx hn0
          go_wp2_with fail
          refine (HSK.out _).mono ?_
          rintro e w' ⟨rfl, rfl⟩
          go_wp2_with fail
          refine HC.out.mono ?_
          rintro e w1 ⟨rfl, hb1⟩
          have HB1 := Lib.hid (HB.out.trans (hb1.mono HB.out.size))
          clear hb1
          go_wp2_with fail
          go_ret3
          rw [HX.out]
          exact ⟨rfl, HB1.out.alloc HB1.out.size _⟩
        | ok k t m =>
          have hm := token_size HNE.out htk
          rw [bl_len] at hm
          obtain ⟨hm1, hm2⟩ := hm
          obtain ⟨y, z, hy, hz, hby, hbz, hzs, hnl⟩ := rest m hm1 hm2
          have HC := Lib.hid ((HTK.out wr (HT.out.bel HB.out)).1 k t m htk)
          have HCO := Lib.hid (fun w => count_f y w)
          obtain ⟨q, hq⟩ : ∃ q, q = nls (bl y) := ⟨_, rfl⟩
          rw [← hq] at HCO hnl
          have HX := Lib.hid (show O0 = (lex (bl z) (L + q)).pre (l ++ [⟨k, t, L⟩]) by
            rw [HLX.out, lex_tok HNE.out HN0.out htk, hbz, hq, hby, ← O.pre_pre, O.pre_cons, O.pre_nil])
          clear htk hn0 rest hbz hby hq
          go_wp2_with fail
          refine (HSK.out _).mono ?_
          rintro e w' ⟨rfl, rfl⟩
          go_wp2_with fail
          refine HC.out.mono ?_
          rintro e w1 ⟨rfl, hb1⟩
          have HB1 := Lib.hid (HB.out.trans (hb1.mono HB.out.size))
          have HO1 := Lib.hid (own_below HOW.out hb1)
          clear hb1
          have HO2 := Lib.hid (own_alloc (own_alloc HO1.out (.cells #[.int .i64 (k : Int), .string (ofL t), .int .i64 (L : Int)] 33)) (.cells #[.int .i64 (k : Int), .string (ofL t), .int .i64 (L : Int)] 33))
          have HB2 := Lib.hid ((HB1.out.alloc HB1.out.size (.cells #[.int .i64 (k : Int), .string (ofL t), .int .i64 (L : Int)] 33)).alloc (Nat.le_trans HB1.out.size (by rw [asz]; omega)) (.cells #[.int .i64 (k : Int), .string (ofL t), .int .i64 (L : Int)] 33))
          have HSL2 := Lib.hid (show Sl ((w1.alloc (.cells #[.int .i64 (k : Int), .string (ofL t), .int .i64 (L : Int)] 33)).alloc (.cells #[.int .i64 (k : Int), .string (ofL t), .int .i64 (L : Int)] 33)) 3 (some ⟨w1.heap.size + 1, 0, none⟩) 1 1 (tv [⟨k, t, L⟩]) by
            have hb := Blk.new (w1.alloc (.cells #[.int .i64 (k : Int), .string (ofL t), .int .i64 (L : Int)] 33)) 33 #[.int .i64 (k : Int), .string (ofL t), .int .i64 (L : Int)]
            rw [asz] at hb
            exact Blk.sl (n := 1) (size := 3) hb rfl (by unfold maxLen; omega))
          go_wp2_with (at_builtin; refine wpl_append_sl _ rfl _ _ _ rfl w.heap.size 33 i0 (.agg #[.int .i64 0, .string ⟨#[]⟩, .int .i64 0]) 3 32 Tryd.underlying24 hi' hz0 hz1 hz2 rfl (by decide) _ l.length (tv l) rfl HO2.out (some ⟨w1.heap.size + 1, 0, none⟩) 1 1 (tv [⟨k, t, L⟩]) rfl HSL2.out (tv_one _) (by unfold maxLen; omega) (by omega) HB2.out.size ?_; intro v' w8 hown hgrow _)
          have HO9 := Lib.hid (show w8.ownsRow w.heap.size 33 3 v' (l ++ [(⟨k, t, L⟩ : Tk)]).length (tv (l ++ [(⟨k, t, L⟩ : Tk)])) by rw [tv_app, List.length_append]; exact hown)
          have HB9 := Lib.hid (show Below w.heap.size w w8 from HB2.out.grown hgrow HB2.out.size (fun j e => (HO2.out.lt j e).1))
          clear hown hgrow
          go_wp2_with fail
          refine (HCO.out _).mono ?_
          rintro e w' ⟨rfl, rfl⟩
          go_wp2_with fail
          go_roundw
          case rel => exact ⟨z, L + q, l ++ [⟨k, t, L⟩], by go_num, rfl, by omega, by omega, by simp; omega, HO9, HB9, HX⟩
          case measure => exact hzs
      · have hnb : ((n : Int) == 0) = false := by simp; omega
        obtain ⟨y, z, hy, hz, hby, hbz, hzs, hnl⟩ := rest n (by omega) hcap
        have HCO := Lib.hid (fun w => count_f y w)
        obtain ⟨q, hq⟩ : ∃ q, q = nls (bl y) := ⟨_, rfl⟩
        rw [← hq] at HCO hnl
        have HX := Lib.hid (show O0 = (lex (bl z) (L + q)).pre l by
          rw [HLX.out, lex_skip (by rw [← HN.out]; exact hn0), ← HN.out, hbz, hq, hby])
        clear rest hbz hby hq
        go_wp2_with fail
        refine (HSK.out _).mono ?_
        rintro e w' ⟨rfl, rfl⟩
        go_wp2_with fail
        refine (HCO.out _).mono ?_
        rintro e w' ⟨rfl, rfl⟩
        go_wp2_with fail
        go_roundw
        case rel => exact ⟨z, L + q, l, by go_num, rfl, by omega, by omega, by omega, HOW, HB, HX⟩
        case measure => exact hzs
end Lx
end Go.Proofs.YtnfgjbeifdfkaaaDoor
