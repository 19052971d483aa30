/- The reading machine in plain Lean: its state, one step, a run, the texts that are placed. -/
import Derived.Test.YtfjjdogjihpbnaaDoorBase
namespace Go.Proofs.YtfjjdogjihpbnaaDoor
open Go.RowKit
namespace Mc

/-- the state; the tops of both stacks come first -/
structure St where
  mem : Nat → Int
  pc : Int
  data : List Int
  calls : List Int
  input : List Int
  out : List UInt8
  digit : Bool

def u32 (x : Int) : Int := x % 4294967296
def byte (x : Int) : UInt8 := UInt8.ofNat (x % 256).toNat
def psh (s : St) (v : Int) : Option St := if s.data.length < 256 then some { s with data := v :: s.data } else none
/-- an instruction with two operands: a below b -/
def bin (c a b : Int) : Option Int :=
  if c = 43 then some (u32 (a + b)) else if c = 45 then some (u32 (a - b)) else if c = 42 then some (u32 (a * b)) else if c = 94 then some ((a.toNat ^^^ b.toNat : Nat) : Int)
  else if c = 60 then some (if a < b then 1 else 0) else if b = 0 then none else if c = 47 then some (a / b) else if c = 37 then some (a % b) else none
def isBin (c : Int) : Prop := c = 43 ∨ c = 45 ∨ c = 42 ∨ c = 47 ∨ c = 37 ∨ c = 94 ∨ c = 60
instance (c : Int) : Decidable (isBin c) := by unfold isBin; exact inferInstance
def isDig (c : Int) : Prop := 48 ≤ c ∧ c ≤ 57
instance (c : Int) : Decidable (isDig c) := by unfold isDig; exact inferInstance
def put (m : Nat → Int) (a : Nat) (v : Int) : Nat → Int := fun i => if i = a then v else m i

def stDig (s : St) (c : Int) : Option St :=
  match s.digit, s.data with
  | true, x :: l => some { s with data := u32 (u32 (u32 (x * 10) + c) - 48) :: l }
  | true, [] => none
  | false, _ => psh s (c - 48)
def stBin (s : St) (c : Int) : Option St :=
  match s.data with
  | b :: a :: l => match bin c a b with
    | some v => some { s with data := v :: l }
    | none => none
  | _ => none
def stLoad (s : St) : Option St :=
  match s.data with
  | a :: l => if 262144 ≤ a then none else some { s with data := s.mem a.toNat :: l }
  | _ => none
def stStore (s : St) : Option St :=
  match s.data with
  | a :: v :: l => if 262144 ≤ a then none else some { s with mem := put s.mem a.toNat v, data := l }
  | _ => none
def stJump (s : St) : Option St :=
  match s.data with
  | t :: x :: l => some { s with pc := if x = 0 then t else s.pc, data := l }
  | _ => none
def stCall (s : St) : Option St :=
  match s.data with
  | t :: l => if s.calls.length < 64 then some { s with calls := s.pc :: s.calls, pc := t, data := l } else none
  | _ => none
def stBack (s : St) : Option St :=
  match s.calls with
  | p :: l => some { s with pc := p, calls := l }
  | _ => none
def stRead (s : St) : Option St :=
  match s.input with
  | [] => psh s 4294967295
  | x :: l => psh { s with input := l } x
def stOut (s : St) : Option St :=
  match s.data with
  | x :: l => some { s with out := s.out ++ [byte x], data := l }
  | _ => none
/-- one step, other than '$'; the address of the next instruction stands in pc already -/
def stp (s : St) (c : Int) : Option St :=
  if isDig c then stDig s c
  else if c = 32 ∨ c = 10 then some s
  else if isBin c then stBin s c
  else if c = 64 then stLoad s
  else if c = 33 then stStore s
  else if c = 63 then stJump s
  else if c = 58 then stCall s
  else if c = 59 then stBack s
  else if c = 44 then stRead s
  else if c = 46 then stOut s
  else none
abbrev Res := List UInt8 × Int × Int
def nxt (s : St) (c : Int) : Option St := (stp { s with pc := s.pc + 1 } c).map fun t => { t with digit := decide (isDig c) }
/-- k steps more, n were made -/
def runM : Nat → Nat → St → Res
  | 0, n, s => (s.out, 13, (n : Int))
  | k + 1, n, s =>
    if 262144 ≤ s.pc then (s.out, 12, ((n + 1 : Nat) : Int))
    else if s.mem s.pc.toNat = 36 then (s.out, 0, ((n + 1 : Nat) : Int))
    else match nxt s (s.mem s.pc.toNat) with
      | some t => runM k (n + 1) t
      | none => (s.out, 12, ((n + 1 : Nat) : Int))

/-! texts -/
abbrev Txt := Int × ByteArray
def badT (t : Txt) : Bool := decide (t.1 < 0) || decide (262144 - (t.2.size : Int) < t.1)
def putT (m : Nat → Int) (t : Txt) : Nat → Int := fun i => if t.1.toNat ≤ i ∧ i < t.1.toNat + t.2.size then ((t.2.data.getD (i - t.1.toNat) 0).toNat : Int) else m i
def memT (ts : List Txt) : Nat → Int := ts.foldl putT fun _ => 0
def start (ts : List Txt) (at_ : Int) (input : List Int) : St := ⟨memT ts, at_, [], [], input, [], false⟩
def runT (ts : List Txt) (at_ : Int) (input : List Int) (steps : Int) : Res :=
  if at_ < 0 ∨ 262144 ≤ at_ ∨ ts.any badT = true then ([], 2, 0)
  else if 100000000 < steps then ([], 6, 0)
  else runM steps.toNat 0 (start ts at_ input)

/-! what is always so -/
def W32 (x : Int) : Prop := 0 ≤ x ∧ x ≤ 4294967295
structure Ok (s : St) : Prop where
  mem : ∀ i, W32 (s.mem i)
  pc : W32 s.pc
  data : ∀ x ∈ s.data, W32 x
  dlen : s.data.length ≤ 256
  calls : ∀ x ∈ s.calls, W32 x
  clen : s.calls.length ≤ 64
  input : ∀ x ∈ s.input, W32 x
  digit : s.digit = true → s.data ≠ []
theorem w32_u32 (x : Int) : W32 (u32 x) := by unfold W32 u32; omega
theorem putT_w32 {m : Nat → Int} (h : ∀ i, W32 (m i)) (t : Txt) : ∀ i, W32 (putT m t i) := by
  intro i
  unfold putT
  split
  · unfold W32; have := (t.2.data.getD (i - t.1.toNat) 0).toNat_lt; omega
  · exact h i
theorem memT_w32 (ts : List Txt) : ∀ i, W32 (memT ts i) := by
  have key : ∀ (l : List Txt) (m : Nat → Int), (∀ i, W32 (m i)) → ∀ i, W32 (l.foldl putT m i) := by
    intro l
    induction l with
    | nil => exact fun m h => h
    | cons t l ih => exact fun m h => ih _ (putT_w32 h t)
  exact key ts _ fun _ => by unfold W32; omega
theorem start_ok (ts : List Txt) {at_ : Int} (ha : 0 ≤ at_ ∧ at_ < 262144) {input : List Int} (hi : ∀ x ∈ input, W32 x) : Ok (start ts at_ input) :=
  ⟨memT_w32 ts, by unfold W32 start; simp only; omega, by simp [start], by simp [start], by simp [start], by simp [start], hi, by simp [start]⟩
theorem bin_w32 {c a b v : Int} (ha : W32 a) (hb : W32 b) (h : bin c a b = some v) : W32 v := by
  unfold bin at h
  have hx : W32 ((a.toNat ^^^ b.toNat : Nat) : Int) := by
    have h2 : a.toNat ^^^ b.toNat < 2 ^ 32 := Nat.xor_lt_two_pow (by have := ha.2; have := ha.1; omega) (by have := hb.2; have := hb.1; omega)
    unfold W32; omega
  repeat' split at h
  all_goals (first | (injection h with h; subst h) | cases h)
  all_goals first
    | exact w32_u32 _
    | exact hx
    | (unfold W32; omega)
    | skip
  · have h0 := ha.1
    have h1 := ha.2
    have h2 := hb.1
    exact ⟨Int.ediv_nonneg h0 h2, Int.le_trans (Int.ediv_le_self _ h0) h1⟩
  · have h2 := hb.1
    have hb0 : b ≠ 0 := by assumption
    have h3 := hb.2
    have h4 := Int.emod_nonneg a hb0
    have h5 := Int.emod_lt_of_pos a (show 0 < b by omega)
    exact ⟨h4, by omega⟩

end Mc
end Go.Proofs.YtfjjdogjihpbnaaDoor
