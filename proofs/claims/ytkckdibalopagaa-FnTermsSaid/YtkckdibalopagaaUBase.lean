/- Plain lemmas (no program in sight): rounds from some number on, whole numbers that wrap, bytes. -/
import Derived.Test.YtkckdibalopagaaUWMore
import Derived.Laws.BitsLemmas
import Derived.Lib.Strings
import Derived.Lib.Bytes
namespace Go.Proofs.Ytkckdibalopagaa.Base
open Go.RowKit Go.Proofs.YtkckdibalopagaaW.PrintWords Go.Proofs.YtkckdibalopagaaW.PrintLast Go.Proofs.YtkckdibalopagaaW.PrintMore
set_option linter.unusedVariables false
set_option linter.unusedSimpArgs false

theorem w64 {x : Int} (h0 : -9223372036854775808 ≤ x) (h1 : x ≤ 9223372036854775807) : wrap64 x = x := by unfold wrap64; omega

theorem evT {α : Type} {c : Prop} [Decidable c] {g f : Nat → Option α} {r : α} (h : c) (e : Ev g r) : Ev (fun k => if c then g k else f k) r := by
  obtain ⟨K, e⟩ := e
  exact ⟨K, fun k hk => by simp only [if_pos h]; exact e k hk⟩
theorem evF {α : Type} {c : Prop} [Decidable c] {g f : Nat → Option α} {r : α} (h : ¬ c) (e : Ev f r) : Ev (fun k => if c then g k else f k) r := by
  obtain ⟨K, e⟩ := e
  exact ⟨K, fun k hk => by simp only [if_neg h]; exact e k hk⟩
theorem ev_end {α : Type} {g : Nat → Option α} {r : α} (h : ∀ k, g (k + 1) = some r) : Ev g r := Ev.step h (Ev.now r)
theorem ev_some {α : Type} {a : Option α} {r : α} (h : a = some r) : Ev (fun _ => a) r := ⟨0, fun _ _ => h⟩
/-- one bind whose first part has no rounds -/
theorem ev_now {α β : Type} {a : Option α} {x : α} {f : Nat → α → Option β} {r : β} (h : a = some x) (e : Ev (fun k => f k x) r) : Ev (fun k => a.bind (f k)) r := by
  subst h
  exact e
theorem ev_cast {α : Type} {g : Nat → Option α} {r r' : α} (e : Ev g r) (h : r = r') : Ev g r' := h ▸ e

/-! bytes -/
theorem bt_lt {s : ByteArray} {i : Nat} (h : i < s.size) : bt s (i : Int) = ((s[i]'h).toNat : Int) := by
  have := bt_at s (i : Int) (by simpa using h)
  rw [← this]
  rfl
theorem bytesOf_get {s : ByteArray} {i : Nat} (h : i < s.size) : (bytesOf s)[i]'(by rw [bytesOf_length]; exact h) = bt s (i : Int) := by
  rw [bt_lt h]
  simp [bytesOf]
  rfl
theorem bytesOf_drop {s : ByteArray} {i : Nat} (h : i < s.size) : (bytesOf s).drop i = bt s (i : Int) :: (bytesOf s).drop (i + 1) := by
  rw [List.drop_eq_getElem_cons (by rw [bytesOf_length]; exact h), bytesOf_get h]
theorem bytesOf_all {s : ByteArray} {i : Nat} (h : s.size ≤ i) : (bytesOf s).drop i = [] := List.drop_eq_nil_of_le (by rw [bytesOf_length]; exact h)
theorem bytesOf_range {s : ByteArray} {x : Int} (h : x ∈ bytesOf s) : 0 ≤ x ∧ x ≤ 255 := by
  simp only [bytesOf, List.mem_map] at h
  obtain ⟨b, _, rfl⟩ := h
  have := b.toNat_lt
  omega

/-! strings of numbers -/
theorem bytesOf_str {xs : List Int} (h : ∀ x ∈ xs, 0 ≤ x ∧ x ≤ 255) : bytesOf (strOfNums xs) = xs := by
  simp only [bytesOf, strOfNums, List.toList_toArray, List.map_map]
  conv => rhs; rw [← List.map_id xs]
  refine List.map_congr_left fun x hx => ?_
  have := h x hx
  simp only [Function.comp, id]
  have : (UInt8.ofNat x.toNat).toNat = x.toNat := by
    rw [UInt8.toNat_ofNat']
    exact Nat.mod_eq_of_lt (by omega)
  omega
theorem str_bytesOf (s : ByteArray) : strOfNums (bytesOf s) = s := by
  cases s with
  | mk d =>
    simp only [strOfNums, bytesOf, List.map_map]
    congr 1
    have : (fun n : Int => UInt8.ofNat n.toNat) ∘ (fun b : UInt8 => (b.toNat : Int)) = id := by
      funext b
      simp
    rw [this]
    simp
theorem bytesOf_inj {s t : ByteArray} (h : bytesOf s = bytesOf t) : s = t := by rw [← str_bytesOf s, h, str_bytesOf]
/-! numbers in bytes of seven bits -/
def varN (n : Nat) : List Int := if n > 127 then ((n % 128 + 128 : Nat) : Int) :: varN (n / 128) else [(n : Int)]
theorem varN_big {n : Nat} (h : n > 127) : varN n = ((n % 128 + 128 : Nat) : Int) :: varN (n / 128) := by rw [varN, if_pos h]
theorem varN_small {n : Nat} (h : n ≤ 127) : varN n = [(n : Int)] := by rw [varN, if_neg (by omega)]
theorem varN_length (d : Nat) : ∀ n, n < 128 ^ (d + 1) → 1 ≤ (varN n).length ∧ (varN n).length ≤ d + 1 := by
  induction d with
  | zero => intro n h; rw [varN_small (by omega)]; simp
  | succ d ih =>
    intro n h
    by_cases hn : n > 127
    · rw [varN_big hn]
      have := ih (n / 128) (by rw [Nat.div_lt_iff_lt_mul (by omega)]; rw [Nat.pow_succ] at h; exact h)
      simp only [List.length_cons]
      omega
    · rw [varN_small (by omega)]; simp
theorem varN_range (n : Nat) : ∀ x ∈ varN n, 0 ≤ x ∧ x ≤ 255 := by
  induction n using Nat.strongRecOn with
  | _ n ih =>
    intro x hx
    by_cases hn : n > 127
    · rw [varN_big hn] at hx
      rcases List.mem_cons.1 hx with rfl | hx
      · omega
      · exact ih (n / 128) (by omega) x hx
    · rw [varN_small (by omega)] at hx
      have := List.mem_singleton.1 hx
      omega

theorem bytesOf_extract (s : ByteArray) (a b : Nat) : bytesOf (s.extract a b) = ((bytesOf s).drop a).take (b - a) := by
  simp only [bytesOf, Go.Lib.extract_data, List.map_take, List.map_drop]
theorem toList_iff {s t : ByteArray} : s.toList = t.toList ↔ bytesOf s = bytesOf t := by
  constructor
  · intro h
    rw [Go.Lib.toList_data, Go.Lib.toList_data] at h
    simp only [bytesOf, h]
  · intro h
    rw [bytesOf_inj h]
theorem str_ext_iff {xs : List Int} (h : ∀ x ∈ xs, 0 ≤ x ∧ x ≤ 255) (s : ByteArray) (a b : Nat) : (strOfNums xs).toList = (s.extract a b).toList ↔ xs = ((bytesOf s).drop a).take (b - a) := by
  rw [toList_iff, bytesOf_str h, bytesOf_extract]

/-! reading a number -/
/-- the raw reading of at most f bytes: the value and how many bytes -/
def rv : Nat → List Int → Option (Nat × Nat)
  | 0, _ => none
  | _ + 1, [] => none
  | f + 1, c :: l => if c > 127 then (rv f l).map (fun p => ((c % 128).toNat + 128 * p.1, p.2 + 1)) else some (c.toNat, 1)
theorem rv_pos {f : Nat} : ∀ {l : List Int} {v m : Nat}, rv f l = some (v, m) → 1 ≤ m ∧ m ≤ f ∧ m ≤ l.length := by
  induction f with
  | zero => intro l v m h; simp [rv] at h
  | succ f ih =>
    intro l v m h
    cases l with
    | nil => simp [rv] at h
    | cons c l =>
      rw [rv] at h
      split at h
      · obtain ⟨p, hp, he⟩ := Option.map_eq_some_iff.1 h
        have := ih (v := p.1) (m := p.2) hp
        simp only [Prod.mk.injEq] at he
        simp only [List.length_cons]
        omega
      · simp only [Option.some.injEq, Prod.mk.injEq] at h
        simp only [List.length_cons]
        omega
/-- the bytes that were read are the number's own, just where the last one is not an idle zero -/
theorem rv_canon {f : Nat} : ∀ {l : List Int} {v m : Nat}, (∀ x ∈ l, 0 ≤ x ∧ x ≤ 255) → rv f l = some (v, m) → (varN v = l.take m ↔ ¬ (m > 1 ∧ l[m - 1]? = some 0)) := by
  induction f with
  | zero => intro l v m _ h; simp [rv] at h
  | succ f ih =>
    intro l v m hr h
    cases l with
    | nil => simp [rv] at h
    | cons c l =>
      have hc := hr c (by simp)
      rw [rv] at h
      split at h
      · rename_i hgt
        obtain ⟨p, hp, he⟩ := Option.map_eq_some_iff.1 h
        obtain ⟨v', m'⟩ := p
        have hi := ih (v := v') (m := m') (fun x hx => hr x (by simp [hx])) hp
        have hpos := rv_pos hp
        simp only [Prod.mk.injEq] at he
        obtain ⟨rfl, rfl⟩ := he
        obtain ⟨q, rfl⟩ : ∃ q, m' = q + 1 := ⟨m' - 1, by omega⟩
        have e1 : ((c % 128).toNat + 128 * v') % 128 = (c % 128).toNat := by omega
        have e2 : ((c % 128).toNat + 128 * v') / 128 = v' := by omega
        have e3 : (((c % 128).toNat + 128 : Nat) : Int) = c := by omega
        simp only [Nat.add_sub_cancel, List.getElem?_cons_succ, List.take_succ_cons] at hi ⊢
        by_cases hv : v' = 0
        · subst hv
          have h0 : ¬ (c % 128).toNat + 128 * 0 > 127 := by omega
          rw [varN_small (by omega)]
          rw [varN_small (by omega)] at hi
          constructor
          · intro he
            have h2 : l.take (q + 1) = [] := ((List.cons.inj he).2).symm
            have h3 := congrArg List.length h2
            rw [List.length_take, List.length_nil] at h3
            omega
          · intro hn
            exfalso
            apply hn
            refine ⟨by omega, ?_⟩
            have hlt : q < l.length := by omega
            -- the value is nought: every byte is idle
            have key : ∀ (f : Nat) (l : List Int) (m : Nat), (∀ x ∈ l, 0 ≤ x ∧ x ≤ 255) → rv f l = some (0, m + 1) → l[m]? = some 0 := by
              intro f
              induction f with
              | zero => intro l m _ h; simp [rv] at h
              | succ f ihf =>
                intro l m hr h
                cases l with
                | nil => simp [rv] at h
                | cons c l =>
                  have hc := hr c (by simp)
                  rw [rv] at h
                  split at h
                  · obtain ⟨⟨v', m'⟩, hp, he⟩ := Option.map_eq_some_iff.1 h
                    simp only [Prod.mk.injEq] at he
                    have hpos := rv_pos hp
                    obtain ⟨q, rfl⟩ : ∃ q, m' = q + 1 := ⟨m' - 1, by omega⟩
                    have hv0 : v' = 0 := by omega
                    subst hv0
                    obtain rfl : m = q + 1 := by omega
                    rw [List.getElem?_cons_succ]
                    exact ihf l q (fun x hx => hr x (by simp [hx])) hp
                  · simp only [Option.some.injEq, Prod.mk.injEq] at h
                    obtain ⟨h1, h2⟩ := h
                    obtain rfl : m = 0 := by omega
                    simp
                    omega
            exact key f l q (fun x hx => hr x (by simp [hx])) hp
        · rw [varN_big (by omega), e1, e2, e3]
          constructor
          · intro he
            have he' : varN v' = l.take (q + 1) := by
              have := List.cons.inj he
              exact this.2
            intro hh
            refine hi.1 he' ⟨?_, hh.2⟩
            rcases Nat.eq_zero_or_pos q with rfl | hq
            · exfalso
              have hh2 := hh.2
              -- one byte, and it is nought: then the value is nought
              cases l with
              | nil => simp at hh2
              | cons d l =>
                simp only [List.getElem?_cons_zero, Option.some.injEq] at hh2
                subst hh2
                rw [show f = (f - 1) + 1 by omega, rv] at hp
                simp at hp
                omega
            · omega
          · intro hn
            congr 1
            apply hi.2
            intro hh
            exact hn ⟨by omega, hh.2⟩
      · simp only [Option.some.injEq, Prod.mk.injEq] at h
        obtain ⟨rfl, rfl⟩ := h
        rw [varN_small (by omega)]
        constructor
        · intro _ hh
          omega
        · intro _
          simp
          omega
theorem varN_pos (n : Nat) : 1 ≤ (varN n).length := by
  rw [varN]
  split <;> simp
theorem rv_varN {f : Nat} : ∀ {n : Nat} (t : List Int), (varN n).length ≤ f → rv f (varN n ++ t) = some (n, (varN n).length) := by
  induction f with
  | zero => intro n t h; have := varN_pos n; omega
  | succ f ih =>
    intro n t h
    by_cases hn : n > 127
    · rw [varN_big hn] at h ⊢
      simp only [List.length_cons] at h ⊢
      rw [List.cons_append, rv, if_pos (by omega), ih t (by omega)]
      simp only [Option.map_some, Option.some.injEq, Prod.mk.injEq, and_true]
      omega
    · rw [varN_small (by omega)] at h ⊢
      rw [List.cons_append, rv, if_neg (by omega)]
      simp
/-- what ReadVar tells of the bytes from the place on -/
def readV (l : List Int) (at_ : Int) : Int × Int × Bool :=
  match rv 5 l with
  | none => (0, 0, false)
  | some (v, m) => if v ≤ 1000000000 ∧ varN v = l.take m then ((v : Int), at_ + (m : Int), true) else (0, 0, false)
def readVar (s : ByteArray) (at_ : Int) : Int × Int × Bool := if 0 ≤ at_ ∧ at_ ≤ s.size then readV ((bytesOf s).drop at_.toNat) at_ else (0, 0, false)

/-- the same, from the place j behind the first byte on, of what was read before -/
def readVj (L l : List Int) (at_ : Int) (j : Nat) (n : Int) : Int × Int × Bool :=
  match rv (5 - j) l with
  | none => (0, 0, false)
  | some (v, m) => if n + 128 ^ j * (v : Int) ≤ 1000000000 ∧ varN (n + 128 ^ j * (v : Int)).toNat = L.take (j + m) then (n + 128 ^ j * (v : Int), at_ + ((j + m : Nat) : Int), true) else (0, 0, false)
theorem readVj_zero (l : List Int) (at_ : Int) : readVj l l at_ 0 0 = readV l at_ := by
  unfold readVj readV
  cases rv 5 l with
  | none => rfl
  | some p =>
    obtain ⟨v, m⟩ := p
    have : (v : Int) ≤ 1000000000 ↔ v ≤ 1000000000 := by omega
    simp [this]
theorem readVj_end (L l : List Int) (at_ : Int) (n : Int) : readVj L l at_ 5 n = (0, 0, false) := rfl
theorem readVj_nil (L : List Int) (at_ : Int) (j : Nat) (n : Int) : readVj L [] at_ j n = (0, 0, false) := by
  unfold readVj
  cases h : 5 - j <;> rfl
theorem readVj_big (L l : List Int) (at_ : Int) (j : Nat) (n c : Int) (hj : j < 5) (h0 : 0 ≤ c) (hc : c > 127) : readVj L (c :: l) at_ j n = readVj L l at_ (j + 1) (n + 128 ^ j * (c % 128)) := by
  unfold readVj
  rw [show 5 - j = (5 - (j + 1)) + 1 by omega, rv, if_pos hc]
  cases rv (5 - (j + 1)) l with
  | none => rfl
  | some p =>
    obtain ⟨v, m⟩ := p
    simp only [Option.map_some]
    have e1 : n + 128 ^ j * (((c % 128).toNat + 128 * v : Nat) : Int) = n + 128 ^ j * (c % 128) + 128 ^ (j + 1) * (v : Int) := by
      rw [Int.natCast_add, Int.toNat_of_nonneg (by omega), Int.natCast_mul, Int.pow_succ, Int.mul_add, show ((128 : Nat) : Int) = 128 from rfl, Int.mul_assoc, Int.add_assoc]
    have e2 : j + (m + 1) = j + 1 + m := by omega
    rw [e1, e2]
theorem readVj_small (L l : List Int) (at_ : Int) (j : Nat) (n c : Int) (hj : j < 5) (h0 : 0 ≤ c) (hc : ¬ c > 127) : readVj L (c :: l) at_ j n = if n + 128 ^ j * c ≤ 1000000000 ∧ varN (n + 128 ^ j * c).toNat = L.take (j + 1) then (n + 128 ^ j * c, at_ + ((j + 1 : Nat) : Int), true) else (0, 0, false) := by
  unfold readVj
  rw [show 5 - j = (5 - (j + 1)) + 1 by omega, rv, if_neg hc]
  simp only [Int.toNat_of_nonneg h0]

/-- ReadShort, out of ReadVar -/
def readShort (s : ByteArray) (a : Int) : ByteArray × Int × Bool :=
  if (readVar s a).2.2 = true then
    if (readVar s a).1 > 20000 ∨ (readVar s a).1 > (s.size : Int) - (readVar s a).2.1 then ((⟨#[]⟩ : ByteArray), 0, false)
    else (s.extract (readVar s a).2.1.toNat ((readVar s a).2.1 + (readVar s a).1).toNat, (readVar s a).2.1 + (readVar s a).1, true)
  else ((⟨#[]⟩ : ByteArray), 0, false)

/-! hex figures -/
def fig (x : Int) : Int := if x < 10 then 48 + x else 87 + x
def hexL : List Int → List Int
  | [] => []
  | c :: l => fig (c / 16) :: fig (c % 16) :: hexL l
/-- a hex figure's value; -1: it is none -/
def val (c : Int) : Int := if 48 ≤ c ∧ c ≤ 57 then c - 48 else if 97 ≤ c ∧ c ≤ 102 then c - 87 else -1
def unhexL : List Int → Option (List Int)
  | c :: d :: l => if val c < 0 ∨ val d < 0 then none else (unhexL l).map (fun t => (16 * val c + val d) :: t)
  | _ => some []
/-! windows -/
def winOk (t s : Int) : Bool := if (-1 ≤ t ∧ t ≤ 9999) ∧ (0 ≤ s ∧ s ≤ 65535) then (if t < 0 then s == 0 else decide (s % 2 = 1) && (decide (t ≥ 15) || decide (s < 2 ^ (t + 1).toNat))) else false
def winFresh (t s q : Int) : Bool := winOk t s && (decide (0 ≤ q) && decide (q ≤ 9999)) && (decide (q > t) || (decide (t - q < 16) && (shr .i64 s (t - q) % 2 == 0)))

/-- the bits of a window that is moved up by a, the lowest one set -/
def moved (s : Nat) (a : Nat) : Nat := ((s * 2 ^ a) &&& 65535) ||| 1
/-- the bits of a window with one more set -/
def winSet (s b : Int) : Int := Go.bits .or .i64 s (shl .i64 1 b)
/-- what Noted tells -/
def winNoted (t s q : Int) : Int × Int × Bool :=
  if winFresh t s q = true then (if q < t then (t, winSet s (t - q), true) else (q, (moved s.toNat (mn (q - t) 16).toNat : Int), true)) else (t, s, false)
/-- a number that was taken: below the window, or marked in it -/
def Taken (t s m : Int) : Prop := m ≤ t ∧ (16 ≤ t - m ∨ s.toNat.testBit (t - m).toNat = true)
/-! draws -/
/-- a cursor's list and place -/
def Cur (l : List Int) (i : Int) : Prop := 0 ≤ i ∧ i ≤ l.length ∧ l.length ≤ 140737488351232
theorem and255 (x : Int) : 0 ≤ Go.bits .and .i64 x 255 ∧ Go.bits .and .i64 x 255 ≤ 255 := by
  unfold Go.bits
  simp only [IntKind.wrap_i64]
  have h : (BitVec.ofInt IntKind.i64.bits x &&& BitVec.ofInt IntKind.i64.bits 255).toNat ≤ 255 := by
    rw [BitVec.toNat_and]
    have : (BitVec.ofInt IntKind.i64.bits 255).toNat = 255 := by decide
    rw [this]
    exact Nat.and_le_right
  omega

/-! the sum -/
def sone (x : Int) : Int := if Int.tmod x 2 = 1 then Go.bits .xor .u32 ((Int.tdiv x 2) % 4294967296) 3558460437 else (Int.tdiv x 2) % 4294967296
def sit : Nat → Int → Int
  | 0, x => x
  | n + 1, x => sit n (sone x)
def sstep (x c : Int) : Int := sit 8 (Go.bits .xor .u32 x (c % 4294967296))
def sumL (x : Int) (l : List Int) : Int := l.foldl sstep x
/-- the four bytes of a sum, the highest first -/
def four (x : Int) : List Int := [(x / 16777216) % 256, (x / 65536) % 256, (x / 256) % 256, x % 256]
end Go.Proofs.Ytkckdibalopagaa.Base
