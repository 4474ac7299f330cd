/- Plain lemmas (no program in sight): rounds from some number on, whole numbers that wrap, bytes. -/
import Derived.Test.YtkckdibalopagaaVWMore
import Derived.Laws.BitsLemmas
import Derived.Lib.Strings
import Derived.Lib.Bytes
namespace Go.Proofs.Ytkckdibalopagaa.Base
open Go.RowKit Go.Proofs.YtkckdibalopagaaW.PrintWords Go.Proofs.YtkckdibalopagaaW.PrintLast Go.Proofs.YtkckdibalopagaaW.PrintMore
set_option linter.unusedVariables false
set_option linter.unusedSimpArgs false

theorem w64 {x : Int} (h0 : -9223372036854775808 ≤ x) (h1 : x ≤ 9223372036854775807) : wrap64 x = x := by unfold wrap64; omega

theorem evT {α : Type} {c : Prop} [Decidable c] {g f : Nat → Option α} {r : α} (h : c) (e : Ev g r) : Ev (fun k => if c then g k else f k) r := by
  obtain ⟨K, e⟩ := e
  exact ⟨K, fun k hk => by simp only [if_pos h]; exact e k hk⟩
theorem evF {α : Type} {c : Prop} [Decidable c] {g f : Nat → Option α} {r : α} (h : ¬ c) (e : Ev f r) : Ev (fun k => if c then g k else f k) r := by
  obtain ⟨K, e⟩ := e
  exact ⟨K, fun k hk => by simp only [if_neg h]; exact e k hk⟩
theorem ev_end {α : Type} {g : Nat → Option α} {r : α} (h : ∀ k, g (k + 1) = some r) : Ev g r := Ev.step h (Ev.now r)
theorem ev_some {α : Type} {a : Option α} {r : α} (h : a = some r) : Ev (fun _ => a) r := ⟨0, fun _ _ => h⟩
/-- one bind whose first part has no rounds -/
theorem ev_now {α β : Type} {a : Option α} {x : α} {f : Nat → α → Option β} {r : β} (h : a = some x) (e : Ev (fun k => f k x) r) : Ev (fun k => a.bind (f k)) r := by
  subst h
  exact e
theorem ev_cast {α : Type} {g : Nat → Option α} {r r' : α} (e : Ev g r) (h : r = r') : Ev g r' := h ▸ e

/-! bytes -/
/-! strings of numbers -/
/-! numbers in bytes of seven bits -/
def varN (n : Nat) : List Int := if n > 127 then ((n % 128 + 128 : Nat) : Int) :: varN (n / 128) else [(n : Int)]
/-! reading a number -/
/-- the raw reading of at most f bytes: the value and how many bytes -/
def rv : Nat → List Int → Option (Nat × Nat)
  | 0, _ => none
  | _ + 1, [] => none
  | f + 1, c :: l => if c > 127 then (rv f l).map (fun p => ((c % 128).toNat + 128 * p.1, p.2 + 1)) else some (c.toNat, 1)
/-- what ReadVar tells of the bytes from the place on -/
def readV (l : List Int) (at_ : Int) : Int × Int × Bool :=
  match rv 5 l with
  | none => (0, 0, false)
  | some (v, m) => if v ≤ 1000000000 ∧ varN v = l.take m then ((v : Int), at_ + (m : Int), true) else (0, 0, false)
def readVar (s : ByteArray) (at_ : Int) : Int × Int × Bool := if 0 ≤ at_ ∧ at_ ≤ s.size then readV ((bytesOf s).drop at_.toNat) at_ else (0, 0, false)

/-- the same, from the place j behind the first byte on, of what was read before -/
def readVj (L l : List Int) (at_ : Int) (j : Nat) (n : Int) : Int × Int × Bool :=
  match rv (5 - j) l with
  | none => (0, 0, false)
  | some (v, m) => if n + 128 ^ j * (v : Int) ≤ 1000000000 ∧ varN (n + 128 ^ j * (v : Int)).toNat = L.take (j + m) then (n + 128 ^ j * (v : Int), at_ + ((j + m : Nat) : Int), true) else (0, 0, false)
/-- ReadShort, out of ReadVar -/
def readShort (s : ByteArray) (a : Int) : ByteArray × Int × Bool :=
  if (readVar s a).2.2 = true then
    if (readVar s a).1 > 20000 ∨ (readVar s a).1 > (s.size : Int) - (readVar s a).2.1 then ((⟨#[]⟩ : ByteArray), 0, false)
    else (s.extract (readVar s a).2.1.toNat ((readVar s a).2.1 + (readVar s a).1).toNat, (readVar s a).2.1 + (readVar s a).1, true)
  else ((⟨#[]⟩ : ByteArray), 0, false)

/-! hex figures -/
def fig (x : Int) : Int := if x < 10 then 48 + x else 87 + x
def hexL : List Int → List Int
  | [] => []
  | c :: l => fig (c / 16) :: fig (c % 16) :: hexL l
/-- a hex figure's value; -1: it is none -/
def val (c : Int) : Int := if 48 ≤ c ∧ c ≤ 57 then c - 48 else if 97 ≤ c ∧ c ≤ 102 then c - 87 else -1
def unhexL : List Int → Option (List Int)
  | c :: d :: l => if val c < 0 ∨ val d < 0 then none else (unhexL l).map (fun t => (16 * val c + val d) :: t)
  | _ => some []
/-! windows -/
def winOk (t s : Int) : Bool := if (-1 ≤ t ∧ t ≤ 9999) ∧ (0 ≤ s ∧ s ≤ 65535) then (if t < 0 then s == 0 else decide (s % 2 = 1) && (decide (t ≥ 15) || decide (s < 2 ^ (t + 1).toNat))) else false
def winFresh (t s q : Int) : Bool := winOk t s && (decide (0 ≤ q) && decide (q ≤ 9999)) && (decide (q > t) || (decide (t - q < 16) && (shr .i64 s (t - q) % 2 == 0)))

/-- the bits of a window that is moved up by a, the lowest one set -/
def moved (s : Nat) (a : Nat) : Nat := ((s * 2 ^ a) &&& 65535) ||| 1
/-- the bits of a window with one more set -/
def winSet (s b : Int) : Int := Go.bits .or .i64 s (shl .i64 1 b)
/-- what Noted tells -/
def winNoted (t s q : Int) : Int × Int × Bool :=
  if winFresh t s q = true then (if q < t then (t, winSet s (t - q), true) else (q, (moved s.toNat (mn (q - t) 16).toNat : Int), true)) else (t, s, false)
/-- a number that was taken: below the window, or marked in it -/
def Taken (t s m : Int) : Prop := m ≤ t ∧ (16 ≤ t - m ∨ s.toNat.testBit (t - m).toNat = true)
/-! draws -/
/-- a cursor's list and place -/
def Cur (l : List Int) (i : Int) : Prop := 0 ≤ i ∧ i ≤ l.length ∧ l.length ≤ 140737488351232
theorem and255 (x : Int) : 0 ≤ Go.bits .and .i64 x 255 ∧ Go.bits .and .i64 x 255 ≤ 255 := by
  unfold Go.bits
  simp only [IntKind.wrap_i64]
  have h : (BitVec.ofInt IntKind.i64.bits x &&& BitVec.ofInt IntKind.i64.bits 255).toNat ≤ 255 := by
    rw [BitVec.toNat_and]
    have : (BitVec.ofInt IntKind.i64.bits 255).toNat = 255 := by decide
    rw [this]
    exact Nat.and_le_right
  omega

/-! the sum -/
def sone (x : Int) : Int := if Int.tmod x 2 = 1 then Go.bits .xor .u32 ((Int.tdiv x 2) % 4294967296) 3558460437 else (Int.tdiv x 2) % 4294967296
def sit : Nat → Int → Int
  | 0, x => x
  | n + 1, x => sit n (sone x)
def sstep (x c : Int) : Int := sit 8 (Go.bits .xor .u32 x (c % 4294967296))
def sumL (x : Int) (l : List Int) : Int := l.foldl sstep x
/-- the four bytes of a sum, the highest first -/
def four (x : Int) : List Int := [(x / 16777216) % 256, (x / 65536) % 256, (x / 256) % 256, x % 256]
end Go.Proofs.Ytkckdibalopagaa.Base
