/- Plain lemmas (no program in sight): rounds from some number on, whole numbers that wrap, bytes. -/
import Derived.Test.YtdhpcchmhikgeaaWMore
import Derived.Laws.BitsLemmas
import Derived.Lib.Strings
import Derived.Lib.Bytes
namespace Go.Proofs.Ytdhpcchmhikgeaa.Base
open Go.RowKit Go.Proofs.YtdhpcchmhikgeaaW.PrintWords Go.Proofs.YtdhpcchmhikgeaaW.PrintLast Go.Proofs.YtdhpcchmhikgeaaW.PrintMore
set_option linter.unusedVariables false
set_option linter.unusedSimpArgs false

theorem w64 {x : Int} (h0 : -9223372036854775808 ≤ x) (h1 : x ≤ 9223372036854775807) : wrap64 x = x := by unfold wrap64; omega

theorem wf64 {x : Int} (h : (Lit.int .i64 x).wf = true) : -9223372036854775808 ≤ x ∧ x ≤ 9223372036854775807 := by
  simpa [Lit.wf, IntKind.min, IntKind.max, IntKind.signed, IntKind.bits] using h

theorem evT {α : Type} {c : Prop} [Decidable c] {g f : Nat → Option α} {r : α} (h : c) (e : Ev g r) : Ev (fun k => if c then g k else f k) r := by
  obtain ⟨K, e⟩ := e
  exact ⟨K, fun k hk => by simp only [if_pos h]; exact e k hk⟩
theorem evF {α : Type} {c : Prop} [Decidable c] {g f : Nat → Option α} {r : α} (h : ¬ c) (e : Ev f r) : Ev (fun k => if c then g k else f k) r := by
  obtain ⟨K, e⟩ := e
  exact ⟨K, fun k hk => by simp only [if_neg h]; exact e k hk⟩
theorem ev_end {α : Type} {g : Nat → Option α} {r : α} (h : ∀ k, g (k + 1) = some r) : Ev g r := Ev.step h (Ev.now r)
theorem ev_some {α : Type} {a : Option α} {r : α} (h : a = some r) : Ev (fun _ => a) r := ⟨0, fun _ _ => h⟩
/-- one bind whose first part has no rounds -/
theorem ev_now {α β : Type} {a : Option α} {x : α} {f : Nat → α → Option β} {r : β} (h : a = some x) (e : Ev (fun k => f k x) r) : Ev (fun k => a.bind (f k)) r := by
  subst h
  exact e
theorem ev_eq {α : Type} {g f : Nat → Option α} {r : α} (e : Ev f r) (h : ∀ k, g k = f k) : Ev g r := Ev.congr h e
theorem ev_cast {α : Type} {g : Nat → Option α} {r r' : α} (e : Ev g r) (h : r = r') : Ev g r' := h ▸ e

/-! bytes -/
theorem bt_lt {s : ByteArray} {i : Nat} (h : i < s.size) : bt s (i : Int) = ((s[i]'h).toNat : Int) := by
  have := bt_at s (i : Int) (by simpa using h)
  rw [← this]
  rfl
theorem bytesOf_get {s : ByteArray} {i : Nat} (h : i < s.size) : (bytesOf s)[i]'(by rw [bytesOf_length]; exact h) = bt s (i : Int) := by
  rw [bt_lt h]
  simp [bytesOf]
  rfl
theorem bytesOf_drop {s : ByteArray} {i : Nat} (h : i < s.size) : (bytesOf s).drop i = bt s (i : Int) :: (bytesOf s).drop (i + 1) := by
  rw [List.drop_eq_getElem_cons (by rw [bytesOf_length]; exact h), bytesOf_get h]
theorem bytesOf_all {s : ByteArray} {i : Nat} (h : s.size ≤ i) : (bytesOf s).drop i = [] := List.drop_eq_nil_of_le (by rw [bytesOf_length]; exact h)
theorem bytesOf_range {s : ByteArray} {x : Int} (h : x ∈ bytesOf s) : 0 ≤ x ∧ x ≤ 255 := by
  simp only [bytesOf, List.mem_map] at h
  obtain ⟨b, _, rfl⟩ := h
  have := b.toNat_lt
  omega

/-! strings of numbers -/
theorem str_eq {xs ys : List Int} (h : xs = ys) : (strOfNums xs).toList = (strOfNums ys).toList := by rw [h]
theorem bytesOf_str {xs : List Int} (h : ∀ x ∈ xs, 0 ≤ x ∧ x ≤ 255) : bytesOf (strOfNums xs) = xs := by
  simp only [bytesOf, strOfNums, List.toList_toArray, List.map_map]
  conv => rhs; rw [← List.map_id xs]
  refine List.map_congr_left fun x hx => ?_
  have := h x hx
  simp only [Function.comp, id]
  have : (UInt8.ofNat x.toNat).toNat = x.toNat := by
    rw [UInt8.toNat_ofNat']
    exact Nat.mod_eq_of_lt (by omega)
  omega
theorem str_bytesOf (s : ByteArray) : strOfNums (bytesOf s) = s := by
  cases s with
  | mk d =>
    simp only [strOfNums, bytesOf, List.map_map]
    congr 1
    have : (fun n : Int => UInt8.ofNat n.toNat) ∘ (fun b : UInt8 => (b.toNat : Int)) = id := by
      funext b
      simp
    rw [this]
    simp
theorem bytesOf_inj {s t : ByteArray} (h : bytesOf s = bytesOf t) : s = t := by rw [← str_bytesOf s, h, str_bytesOf]
theorem bytesOf_append (s t : ByteArray) : bytesOf (s ++ t) = bytesOf s ++ bytesOf t := by simp [bytesOf, ByteArray.data_append]

/-! numbers in bytes of seven bits -/
def varN (n : Nat) : List Int := if n > 127 then ((n % 128 + 128 : Nat) : Int) :: varN (n / 128) else [(n : Int)]
theorem varN_big {n : Nat} (h : n > 127) : varN n = ((n % 128 + 128 : Nat) : Int) :: varN (n / 128) := by rw [varN, if_pos h]
theorem varN_small {n : Nat} (h : n ≤ 127) : varN n = [(n : Int)] := by rw [varN, if_neg (by omega)]
theorem varN_length (d : Nat) : ∀ n, n < 128 ^ (d + 1) → 1 ≤ (varN n).length ∧ (varN n).length ≤ d + 1 := by
  induction d with
  | zero => intro n h; rw [varN_small (by omega)]; simp
  | succ d ih =>
    intro n h
    by_cases hn : n > 127
    · rw [varN_big hn]
      have := ih (n / 128) (by rw [Nat.div_lt_iff_lt_mul (by omega)]; rw [Nat.pow_succ] at h; exact h)
      simp only [List.length_cons]
      omega
    · rw [varN_small (by omega)]; simp
theorem varN_range (n : Nat) : ∀ x ∈ varN n, 0 ≤ x ∧ x ≤ 255 := by
  induction n using Nat.strongRecOn with
  | _ n ih =>
    intro x hx
    by_cases hn : n > 127
    · rw [varN_big hn] at hx
      rcases List.mem_cons.1 hx with rfl | hx
      · omega
      · exact ih (n / 128) (by omega) x hx
    · rw [varN_small (by omega)] at hx
      have := List.mem_singleton.1 hx
      omega

theorem bytesOf_extract (s : ByteArray) (a b : Nat) : bytesOf (s.extract a b) = ((bytesOf s).drop a).take (b - a) := by
  simp only [bytesOf, Go.Lib.extract_data, List.map_take, List.map_drop]
theorem toList_iff {s t : ByteArray} : s.toList = t.toList ↔ bytesOf s = bytesOf t := by
  constructor
  · intro h
    rw [Go.Lib.toList_data, Go.Lib.toList_data] at h
    simp only [bytesOf, h]
  · intro h
    rw [bytesOf_inj h]
theorem str_ext_iff {xs : List Int} (h : ∀ x ∈ xs, 0 ≤ x ∧ x ≤ 255) (s : ByteArray) (a b : Nat) : (strOfNums xs).toList = (s.extract a b).toList ↔ xs = ((bytesOf s).drop a).take (b - a) := by
  rw [toList_iff, bytesOf_str h, bytesOf_extract]

/-! reading a number -/
/-- the raw reading of at most f bytes: the value and how many bytes -/
def rv : Nat → List Int → Option (Nat × Nat)
  | 0, _ => none
  | _ + 1, [] => none
  | f + 1, c :: l => if c > 127 then (rv f l).map (fun p => ((c % 128).toNat + 128 * p.1, p.2 + 1)) else some (c.toNat, 1)
theorem rv_pos {f : Nat} : ∀ {l : List Int} {v m : Nat}, rv f l = some (v, m) → 1 ≤ m ∧ m ≤ f ∧ m ≤ l.length := by
  induction f with
  | zero => intro l v m h; simp [rv] at h
  | succ f ih =>
    intro l v m h
    cases l with
    | nil => simp [rv] at h
    | cons c l =>
      rw [rv] at h
      split at h
      · obtain ⟨p, hp, he⟩ := Option.map_eq_some_iff.1 h
        have := ih (v := p.1) (m := p.2) hp
        simp only [Prod.mk.injEq] at he
        simp only [List.length_cons]
        omega
      · simp only [Option.some.injEq, Prod.mk.injEq] at h
        simp only [List.length_cons]
        omega
theorem rv_val {f : Nat} : ∀ {l : List Int} {v m : Nat}, (∀ x ∈ l, 0 ≤ x ∧ x ≤ 255) → rv f l = some (v, m) → v < 128 ^ m := by
  induction f with
  | zero => intro l v m _ h; simp [rv] at h
  | succ f ih =>
    intro l v m hr h
    cases l with
    | nil => simp [rv] at h
    | cons c l =>
      have hc := hr c (by simp)
      rw [rv] at h
      split at h
      · obtain ⟨p, hp, he⟩ := Option.map_eq_some_iff.1 h
        have := ih (v := p.1) (m := p.2) (fun x hx => hr x (by simp [hx])) hp
        simp only [Prod.mk.injEq] at he
        obtain ⟨rfl, rfl⟩ := he
        rw [Nat.pow_succ]
        omega
      · simp only [Option.some.injEq, Prod.mk.injEq] at h
        obtain ⟨rfl, rfl⟩ := h
        omega
/-- the bytes that were read are the number's own, just where the last one is not an idle zero -/
theorem rv_canon {f : Nat} : ∀ {l : List Int} {v m : Nat}, (∀ x ∈ l, 0 ≤ x ∧ x ≤ 255) → rv f l = some (v, m) → (varN v = l.take m ↔ ¬ (m > 1 ∧ l[m - 1]? = some 0)) := by
  induction f with
  | zero => intro l v m _ h; simp [rv] at h
  | succ f ih =>
    intro l v m hr h
    cases l with
    | nil => simp [rv] at h
    | cons c l =>
      have hc := hr c (by simp)
      rw [rv] at h
      split at h
      · rename_i hgt
        obtain ⟨p, hp, he⟩ := Option.map_eq_some_iff.1 h
        obtain ⟨v', m'⟩ := p
        have hi := ih (v := v') (m := m') (fun x hx => hr x (by simp [hx])) hp
        have hpos := rv_pos hp
        simp only [Prod.mk.injEq] at he
        obtain ⟨rfl, rfl⟩ := he
        obtain ⟨q, rfl⟩ : ∃ q, m' = q + 1 := ⟨m' - 1, by omega⟩
        have e1 : ((c % 128).toNat + 128 * v') % 128 = (c % 128).toNat := by omega
        have e2 : ((c % 128).toNat + 128 * v') / 128 = v' := by omega
        have e3 : (((c % 128).toNat + 128 : Nat) : Int) = c := by omega
        simp only [Nat.add_sub_cancel, List.getElem?_cons_succ, List.take_succ_cons] at hi ⊢
        by_cases hv : v' = 0
        · subst hv
          have h0 : ¬ (c % 128).toNat + 128 * 0 > 127 := by omega
          rw [varN_small (by omega)]
          rw [varN_small (by omega)] at hi
          constructor
          · intro he
            have h2 : l.take (q + 1) = [] := ((List.cons.inj he).2).symm
            have h3 := congrArg List.length h2
            rw [List.length_take, List.length_nil] at h3
            omega
          · intro hn
            exfalso
            apply hn
            refine ⟨by omega, ?_⟩
            have hlt : q < l.length := by omega
            -- the value is nought: every byte is idle
            have key : ∀ (f : Nat) (l : List Int) (m : Nat), (∀ x ∈ l, 0 ≤ x ∧ x ≤ 255) → rv f l = some (0, m + 1) → l[m]? = some 0 := by
              intro f
              induction f with
              | zero => intro l m _ h; simp [rv] at h
              | succ f ihf =>
                intro l m hr h
                cases l with
                | nil => simp [rv] at h
                | cons c l =>
                  have hc := hr c (by simp)
                  rw [rv] at h
                  split at h
                  · obtain ⟨⟨v', m'⟩, hp, he⟩ := Option.map_eq_some_iff.1 h
                    simp only [Prod.mk.injEq] at he
                    have hpos := rv_pos hp
                    obtain ⟨q, rfl⟩ : ∃ q, m' = q + 1 := ⟨m' - 1, by omega⟩
                    have hv0 : v' = 0 := by omega
                    subst hv0
                    obtain rfl : m = q + 1 := by omega
                    rw [List.getElem?_cons_succ]
                    exact ihf l q (fun x hx => hr x (by simp [hx])) hp
                  · simp only [Option.some.injEq, Prod.mk.injEq] at h
                    obtain ⟨h1, h2⟩ := h
                    obtain rfl : m = 0 := by omega
                    simp
                    omega
            exact key f l q (fun x hx => hr x (by simp [hx])) hp
        · rw [varN_big (by omega), e1, e2, e3]
          constructor
          · intro he
            have he' : varN v' = l.take (q + 1) := by
              have := List.cons.inj he
              exact this.2
            intro hh
            refine hi.1 he' ⟨?_, hh.2⟩
            rcases Nat.eq_zero_or_pos q with rfl | hq
            · exfalso
              have hh2 := hh.2
              -- one byte, and it is nought: then the value is nought
              cases l with
              | nil => simp at hh2
              | cons d l =>
                simp only [List.getElem?_cons_zero, Option.some.injEq] at hh2
                subst hh2
                rw [show f = (f - 1) + 1 by omega, rv] at hp
                simp at hp
                omega
            · omega
          · intro hn
            congr 1
            apply hi.2
            intro hh
            exact hn ⟨by omega, hh.2⟩
      · simp only [Option.some.injEq, Prod.mk.injEq] at h
        obtain ⟨rfl, rfl⟩ := h
        rw [varN_small (by omega)]
        constructor
        · intro _ hh
          omega
        · intro _
          simp
          omega
theorem varN_pos (n : Nat) : 1 ≤ (varN n).length := by
  rw [varN]
  split <;> simp
theorem rv_varN {f : Nat} : ∀ {n : Nat} (t : List Int), (varN n).length ≤ f → rv f (varN n ++ t) = some (n, (varN n).length) := by
  induction f with
  | zero => intro n t h; have := varN_pos n; omega
  | succ f ih =>
    intro n t h
    by_cases hn : n > 127
    · rw [varN_big hn] at h ⊢
      simp only [List.length_cons] at h ⊢
      rw [List.cons_append, rv, if_pos (by omega), ih t (by omega)]
      simp only [Option.map_some, Option.some.injEq, Prod.mk.injEq, and_true]
      omega
    · rw [varN_small (by omega)] at h ⊢
      rw [List.cons_append, rv, if_neg (by omega)]
      simp
/-- what ReadVar tells of the bytes from the place on -/
def readV (l : List Int) (at_ : Int) : Int × Int × Bool :=
  match rv 5 l with
  | none => (0, 0, false)
  | some (v, m) => if v ≤ 1000000000 ∧ varN v = l.take m then ((v : Int), at_ + (m : Int), true) else (0, 0, false)
def readVar (s : ByteArray) (at_ : Int) : Int × Int × Bool := if 0 ≤ at_ ∧ at_ ≤ s.size then readV ((bytesOf s).drop at_.toNat) at_ else (0, 0, false)

/-- the same, from the place j behind the first byte on, of what was read before -/
def readVj (L l : List Int) (at_ : Int) (j : Nat) (n : Int) : Int × Int × Bool :=
  match rv (5 - j) l with
  | none => (0, 0, false)
  | some (v, m) => if n + 128 ^ j * (v : Int) ≤ 1000000000 ∧ varN (n + 128 ^ j * (v : Int)).toNat = L.take (j + m) then (n + 128 ^ j * (v : Int), at_ + ((j + m : Nat) : Int), true) else (0, 0, false)
theorem readVj_zero (l : List Int) (at_ : Int) : readVj l l at_ 0 0 = readV l at_ := by
  unfold readVj readV
  cases rv 5 l with
  | none => rfl
  | some p =>
    obtain ⟨v, m⟩ := p
    have : (v : Int) ≤ 1000000000 ↔ v ≤ 1000000000 := by omega
    simp [this]
theorem readVj_end (L l : List Int) (at_ : Int) (n : Int) : readVj L l at_ 5 n = (0, 0, false) := rfl
theorem readVj_nil (L : List Int) (at_ : Int) (j : Nat) (n : Int) : readVj L [] at_ j n = (0, 0, false) := by
  unfold readVj
  cases h : 5 - j <;> rfl
theorem readVj_big (L l : List Int) (at_ : Int) (j : Nat) (n c : Int) (hj : j < 5) (h0 : 0 ≤ c) (hc : c > 127) : readVj L (c :: l) at_ j n = readVj L l at_ (j + 1) (n + 128 ^ j * (c % 128)) := by
  unfold readVj
  rw [show 5 - j = (5 - (j + 1)) + 1 by omega, rv, if_pos hc]
  cases rv (5 - (j + 1)) l with
  | none => rfl
  | some p =>
    obtain ⟨v, m⟩ := p
    simp only [Option.map_some]
    have e1 : n + 128 ^ j * (((c % 128).toNat + 128 * v : Nat) : Int) = n + 128 ^ j * (c % 128) + 128 ^ (j + 1) * (v : Int) := by
      rw [Int.natCast_add, Int.toNat_of_nonneg (by omega), Int.natCast_mul, Int.pow_succ, Int.mul_add, show ((128 : Nat) : Int) = 128 from rfl, Int.mul_assoc, Int.add_assoc]
    have e2 : j + (m + 1) = j + 1 + m := by omega
    rw [e1, e2]
theorem readVj_small (L l : List Int) (at_ : Int) (j : Nat) (n c : Int) (hj : j < 5) (h0 : 0 ≤ c) (hc : ¬ c > 127) : readVj L (c :: l) at_ j n = if n + 128 ^ j * c ≤ 1000000000 ∧ varN (n + 128 ^ j * c).toNat = L.take (j + 1) then (n + 128 ^ j * c, at_ + ((j + 1 : Nat) : Int), true) else (0, 0, false) := by
  unfold readVj
  rw [show 5 - j = (5 - (j + 1)) + 1 by omega, rv, if_neg hc]
  simp only [Int.toNat_of_nonneg h0]

theorem readVar_ok {s : ByteArray} {a : Int} (h : (readVar s a).2.2 = true) : 0 ≤ (readVar s a).1 ∧ (readVar s a).1 ≤ 1000000000 ∧ 0 ≤ a ∧ a < (readVar s a).2.1 ∧ (readVar s a).2.1 ≤ s.size := by
  unfold readVar at h ⊢
  by_cases ha : 0 ≤ a ∧ a ≤ s.size
  · rw [if_pos ha] at h ⊢
    unfold readV at h ⊢
    cases hr : rv 5 ((bytesOf s).drop a.toNat) with
    | none => rw [hr] at h; cases h
    | some p =>
      obtain ⟨v, m⟩ := p
      rw [hr] at h
      simp only at h ⊢
      have hp := rv_pos hr
      rw [List.length_drop, bytesOf_length] at hp
      by_cases hc : v ≤ 1000000000 ∧ varN v = List.take m ((bytesOf s).drop a.toNat)
      · rw [if_pos hc]
        simp only
        omega
      · rw [if_neg hc] at h
        cases h
  · rw [if_neg ha] at h
    cases h
/-- ReadShort, out of ReadVar -/
def readShort (s : ByteArray) (a : Int) : ByteArray × Int × Bool :=
  if (readVar s a).2.2 = true then
    if (readVar s a).1 > 20000 ∨ (readVar s a).1 > (s.size : Int) - (readVar s a).2.1 then ((⟨#[]⟩ : ByteArray), 0, false)
    else (s.extract (readVar s a).2.1.toNat ((readVar s a).2.1 + (readVar s a).1).toNat, (readVar s a).2.1 + (readVar s a).1, true)
  else ((⟨#[]⟩ : ByteArray), 0, false)

/-! hex figures -/
def fig (x : Int) : Int := if x < 10 then 48 + x else 87 + x
def hexL : List Int → List Int
  | [] => []
  | c :: l => fig (c / 16) :: fig (c % 16) :: hexL l
theorem hexL_length (l : List Int) : (hexL l).length = 2 * l.length := by
  induction l with
  | nil => rfl
  | cons c l ih => simp only [hexL, List.length_cons, ih]; omega
theorem hex_at : ∀ n : Fin 16, bt (⟨#[48, 49, 50, 51, 52, 53, 54, 55, 56, 57, 97, 98, 99, 100, 101, 102]⟩ : ByteArray) ((n : Nat) : Int) = fig ((n : Nat) : Int) := by decide
theorem hex_fig {x : Int} (h0 : 0 ≤ x) (h1 : x < 16) : bt (⟨#[48, 49, 50, 51, 52, 53, 54, 55, 56, 57, 97, 98, 99, 100, 101, 102]⟩ : ByteArray) x = fig x := by
  obtain ⟨n, rfl⟩ := Int.eq_ofNat_of_zero_le h0
  exact hex_at ⟨n, by omega⟩
theorem fig_range {x : Int} (h0 : 0 ≤ x) (h1 : x < 16) : 0 ≤ fig x ∧ fig x ≤ 255 := by unfold fig; split <;> omega

/-- a hex figure's value; -1: it is none -/
def val (c : Int) : Int := if 48 ≤ c ∧ c ≤ 57 then c - 48 else if 97 ≤ c ∧ c ≤ 102 then c - 87 else -1
def unhexL : List Int → Option (List Int)
  | c :: d :: l => if val c < 0 ∨ val d < 0 then none else (unhexL l).map (fun t => (16 * val c + val d) :: t)
  | _ => some []
theorem val_fig {x : Int} (h0 : 0 ≤ x) (h1 : x < 16) : val (fig x) = x := by
  unfold fig
  split
  · unfold val; rw [if_pos (by omega)]; omega
  · unfold val; rw [if_neg (by omega), if_pos (by omega)]; omega
theorem val_range (c : Int) : -1 ≤ val c ∧ val c < 16 := by
  unfold val
  split
  · omega
  · split <;> omega
theorem unhex_hex {l : List Int} (h : ∀ x ∈ l, 0 ≤ x ∧ x ≤ 255) : unhexL (hexL l) = some l := by
  induction l with
  | nil => rfl
  | cons c l ih =>
    have hc := h c (by simp)
    rw [hexL, unhexL, val_fig (by omega) (by omega), val_fig (by omega) (by omega), if_neg (by omega), ih (fun x hx => h x (by simp [hx]))]
    simp only [Option.map_some, Option.some.injEq, List.cons.injEq, and_true]
    omega

/-! windows -/
theorem shl_one {n : Int} (h0 : 0 ≤ n) (h1 : n ≤ 20) : shl .i64 1 n = 2 ^ n.toNat := by
  obtain ⟨m, rfl⟩ := Int.eq_ofNat_of_zero_le h0
  have h : ∀ m : Fin 21, shl .i64 1 ((m : Nat) : Int) = 2 ^ ((m : Nat) : Int).toNat := by decide
  exact h ⟨m, by omega⟩
def winOk (t s : Int) : Bool := if (-1 ≤ t ∧ t ≤ 9999) ∧ (0 ≤ s ∧ s ≤ 65535) then (if t < 0 then s == 0 else decide (s % 2 = 1) && (decide (t ≥ 15) || decide (s < 2 ^ (t + 1).toNat))) else false
theorem winOk_range {t s : Int} (h : winOk t s = true) : (-1 ≤ t ∧ t ≤ 9999) ∧ (0 ≤ s ∧ s ≤ 65535) := by
  unfold winOk at h
  split at h
  · assumption
  · cases h
theorem shr_small16 {x y : Int} (h0 : 0 ≤ x) (h1 : x ≤ 65535) (h2 : 0 ≤ y) (h3 : y < 16) : 0 ≤ shr .i64 x y ∧ shr .i64 x y ≤ 65535 := by
  unfold shr
  have hp : (0 : Int) < 2 ^ (min y.toNat IntKind.i64.bits) := Int.pow_pos (by omega)
  exact ⟨Int.ediv_nonneg h0 (Int.le_of_lt hp), Int.le_trans (Int.ediv_le_self _ h0) h1⟩
theorem and_one {x : Int} (h0 : 0 ≤ x) (h1 : x ≤ 9223372036854775807) : Go.bits .and .i64 x 1 = x % 2 := by
  have := bits_mask .i64 63 (by decide) (fun n h0 h1 => by rw [IntKind.wrap_i64]; omega) 1 (by decide) x h0 (by omega)
  simpa using this
def winFresh (t s q : Int) : Bool := winOk t s && (decide (0 ≤ q) && decide (q ≤ 9999)) && (decide (q > t) || (decide (t - q < 16) && (shr .i64 s (t - q) % 2 == 0)))

theorem or_nat {x y : Nat} (hx : x < 2 ^ 63) (hy : y < 2 ^ 63) : Go.bits .or .i64 (x : Int) (y : Int) = ((x ||| y : Nat) : Int) :=
  (bits_nat .i64 63 (by decide) (fun n h0 h1 => by rw [IntKind.wrap_i64]; omega) x y hx hy).2
theorem and_nat {x y : Nat} (hx : x < 2 ^ 63) (hy : y < 2 ^ 63) : Go.bits .and .i64 (x : Int) (y : Int) = ((x &&& y : Nat) : Int) :=
  (bits_nat .i64 63 (by decide) (fun n h0 h1 => by rw [IntKind.wrap_i64]; omega) x y hx hy).1
theorem mask_or (x : Nat) : (x ||| 1) &&& 65535 = (x &&& 65535) ||| 1 := by
  rw [Nat.and_or_distrib_right, show (1 &&& 65535) = 1 from rfl]
/-- the bits of a window that is moved up by a, the lowest one set -/
def moved (s : Nat) (a : Nat) : Nat := ((s * 2 ^ a) &&& 65535) ||| 1
theorem pow16 {a : Nat} (h : a ≤ 16) : 2 ^ a ≤ 65536 := by
  have : 2 ^ a ≤ 2 ^ 16 := Nat.pow_le_pow_right (by omega) h
  omega
theorem moved_bound {s a : Nat} (hs : s ≤ 65535) (ha : a ≤ 16) : s * 2 ^ a ≤ 4294901760 := by
  have := Nat.mul_le_mul hs (pow16 ha)
  omega
theorem moved_impl {s a : Nat} (hs : s ≤ 65535) (ha : a ≤ 16) : Go.bits .and .i64 (Go.bits .or .i64 (wrap64 ((s : Int) * 2 ^ a)) 1) 65535 = (moved s a : Int) := by
  have hb := moved_bound hs ha
  have e : (s : Int) * 2 ^ a = ((s * 2 ^ a : Nat) : Int) := by simp
  rw [e, w64 (by omega) (by omega)]
  have := or_nat (x := s * 2 ^ a) (y := 1) (by omega) (by omega)
  rw [show ((1 : Nat) : Int) = 1 from rfl] at this
  rw [this]
  have hlt : s * 2 ^ a ||| 1 < 2 ^ 63 := Nat.or_lt_two_pow (by omega) (by omega)
  have := and_nat (x := s * 2 ^ a ||| 1) (y := 65535) hlt (by omega)
  rw [show ((65535 : Nat) : Int) = 65535 from rfl] at this
  rw [this, mask_or]
  rfl
theorem moved_spec {s a : Nat} (hs : s ≤ 65535) (ha : a ≤ 16) : Go.bits .or .i64 (Go.bits .and .i64 (shl .i64 (s : Int) (a : Int)) 65535) 1 = (moved s a : Int) := by
  have hb := moved_bound hs ha
  have e : shl .i64 (s : Int) (a : Int) = ((s * 2 ^ a : Nat) : Int) := by
    unfold shl
    have : min ((a : Int)).toNat IntKind.i64.bits = a := by
      simp only [IntKind.bits]
      omega
    rw [this]
    have e : (s : Int) * 2 ^ a = ((s * 2 ^ a : Nat) : Int) := by simp
    rw [e, IntKind.wrap_i64]
    omega
  rw [e]
  have := and_nat (x := s * 2 ^ a) (y := 65535) (by omega) (by omega)
  rw [show ((65535 : Nat) : Int) = 65535 from rfl] at this
  rw [this]
  have hlt : s * 2 ^ a &&& 65535 < 2 ^ 63 := Nat.and_lt_two_pow _ (by omega)
  have := or_nat (x := s * 2 ^ a &&& 65535) (y := 1) hlt (by omega)
  rw [show ((1 : Nat) : Int) = 1 from rfl] at this
  rw [this]
  rfl
theorem moved_16 (s : Nat) : moved s 16 = 1 := by
  unfold moved
  have : s * 2 ^ 16 &&& 65535 = 0 := by
    have := Nat.and_two_pow_sub_one_eq_mod (s * 2 ^ 16) 16
    rw [show 2 ^ 16 - 1 = 65535 from rfl] at this
    rw [this]
    exact Nat.mul_mod_left _ _
  rw [this]
  rfl
theorem moved_zero (a : Nat) : moved 0 a = 1 := by
  unfold moved
  simp
/-- the bits of a window with one more set -/
def winSet (s b : Int) : Int := Go.bits .or .i64 s (shl .i64 1 b)
/-- what Noted tells -/
def winNoted (t s q : Int) : Int × Int × Bool :=
  if winFresh t s q = true then (if q < t then (t, winSet s (t - q), true) else (q, (moved s.toNat (mn (q - t) 16).toNat : Int), true)) else (t, s, false)
theorem winOk_low {t s : Int} (h : winOk t s = true) : (t < 0 → s = 0) ∧ (0 ≤ t → s % 2 = 1) := by
  have hr := winOk_range h
  unfold winOk at h
  rw [if_pos hr] at h
  constructor
  · intro ht
    rw [if_pos ht] at h
    simpa using h
  · intro ht
    rw [if_neg (by omega)] at h
    simp only [Bool.and_eq_true, decide_eq_true_eq] at h
    exact h.1
theorem winFresh_parts {t s q : Int} (h : winFresh t s q = true) : winOk t s = true ∧ (0 ≤ q ∧ q ≤ 9999) ∧ (q > t ∨ (t - q < 16 ∧ shr .i64 s (t - q) % 2 = 0)) := by
  unfold winFresh at h
  simp only [Bool.and_eq_true, Bool.or_eq_true, decide_eq_true_eq, beq_iff_eq] at h
  exact ⟨h.1.1, h.1.2, h.2⟩
theorem winFresh_ne {t s q : Int} (h : winFresh t s q = true) : q ≠ t := by
  obtain ⟨ho, hq, hf⟩ := winFresh_parts h
  intro he
  subst he
  have := (winOk_low ho).2 hq.1
  rcases hf with hf | hf
  · omega
  · have h2 := hf.2
    rw [Int.sub_self] at h2
    unfold shr at h2
    simp at h2
    omega

/-- a number that was taken: below the window, or marked in it -/
def Taken (t s m : Int) : Prop := m ≤ t ∧ (16 ≤ t - m ∨ s.toNat.testBit (t - m).toNat = true)
theorem shr_bit {s b : Int} (h0 : 0 ≤ s) (h1 : 0 ≤ b) (h2 : b < 16) : shr .i64 s b % 2 = 0 ↔ s.toNat.testBit b.toNat = false := by
  obtain ⟨n, rfl⟩ := Int.eq_ofNat_of_zero_le h0
  obtain ⟨m, rfl⟩ := Int.eq_ofNat_of_zero_le h1
  unfold shr
  have : min ((m : Int)).toNat IntKind.i64.bits = m := by simp only [IntKind.bits]; omega
  rw [this, Int.toNat_natCast, Int.toNat_natCast]
  have e : (n : Int) / 2 ^ m = ((n / 2 ^ m : Nat) : Int) := by simp
  rw [e, Nat.testBit_eq_decide_div_mod_eq, decide_eq_false_iff_not]
  omega
theorem taken_not_fresh {t s m : Int} (h : Taken t s m) : winFresh t s m = false := by
  by_cases hf : winFresh t s m = true
  · obtain ⟨ho, hq, hc⟩ := winFresh_parts hf
    obtain ⟨h1, h2⟩ := h
    have hr := winOk_range ho
    rcases hc with hc | ⟨hc, hb⟩
    · omega
    · rw [shr_bit hr.2.1 (by omega) hc] at hb
      rcases h2 with h2 | h2
      · omega
      · rw [h2] at hb; cases hb
  · simpa using hf
theorem shl_nat {b : Nat} (h : b ≤ 20) : shl .i64 1 (b : Int) = ((2 ^ b : Nat) : Int) := by
  rw [shl_one (by omega) (by omega)]
  simp
theorem winSet_nat {s : Nat} {b : Nat} (hs : s ≤ 65535) (hb : b ≤ 15) : winSet (s : Int) (b : Int) = ((s ||| 2 ^ b : Nat) : Int) := by
  unfold winSet
  rw [shl_nat (by omega)]
  have : 2 ^ b ≤ 2 ^ 15 := Nat.pow_le_pow_right (by omega) hb
  exact or_nat (by omega) (by omega)
theorem noted_facts {t s q : Int} (h : winFresh t s q = true) : winOk (winNoted t s q).1 (winNoted t s q).2.1 = true ∧ Taken (winNoted t s q).1 (winNoted t s q).2.1 q ∧ ∀ m, Taken t s m → Taken (winNoted t s q).1 (winNoted t s q).2.1 m := by
  obtain ⟨ho, hq, hc⟩ := winFresh_parts h
  obtain ⟨g1, g2⟩ := winOk_range ho
  have hlow := winOk_low ho
  have hne := winFresh_ne h
  have hok := ho
  unfold winOk at hok
  rw [if_pos ⟨g1, g2⟩] at hok
  unfold winNoted
  rw [if_pos h]
  obtain ⟨n, rfl⟩ := Int.eq_ofNat_of_zero_le g2.1
  by_cases hl : q < t
  · rw [if_pos hl]
    simp only
    obtain ⟨b, hb⟩ := Int.eq_ofNat_of_zero_le (show 0 ≤ t - q by omega)
    have hb16 : b < 16 := by omega
    rw [hb, winSet_nat (by omega) (by omega)]
    have hle : n ||| 2 ^ b ≤ 65535 := by
      have : n ||| 2 ^ b < 2 ^ 16 := Nat.or_lt_two_pow (by omega) (Nat.pow_lt_pow_right (by omega) hb16)
      omega
    rw [if_neg (by omega)] at hok
    simp only [Bool.and_eq_true, Bool.or_eq_true, decide_eq_true_eq] at hok
    refine ⟨?_, ?_, ?_⟩
    · unfold winOk
      rw [if_pos ⟨g1, by omega, by omega⟩, if_neg (by omega)]
      simp only [Bool.and_eq_true, Bool.or_eq_true, decide_eq_true_eq]
      constructor
      · have hodd : (n ||| 2 ^ b).testBit 0 = true := by
          rw [Nat.testBit_or, Nat.testBit_zero (x := n)]
          have : n % 2 = 1 := by omega
          simp [this]
        rw [Nat.testBit_zero, decide_eq_true_eq] at hodd
        omega
      · rcases hok.2 with h15 | hlt
        · exact .inl h15
        · right
          obtain ⟨T, hT⟩ := Int.eq_ofNat_of_zero_le (show 0 ≤ t + 1 by omega)
          rw [hT, Int.toNat_natCast] at hlt ⊢
          have h1 : n < 2 ^ T := by exact_mod_cast hlt
          have h2 : 2 ^ b < 2 ^ T := Nat.pow_lt_pow_right (by omega) (by omega)
          exact_mod_cast Nat.or_lt_two_pow h1 h2
    · refine ⟨by omega, .inr ?_⟩
      rw [hb, Int.toNat_natCast, Int.toNat_natCast, Nat.testBit_or, Nat.testBit_two_pow_self, Bool.or_true]
    · intro m hm
      refine ⟨hm.1, ?_⟩
      rcases hm.2 with h2 | h2
      · exact .inl h2
      · right
        rw [Int.toNat_natCast] at h2 ⊢
        rw [Nat.testBit_or, h2, Bool.true_or]
  · rw [if_neg hl]
    simp only
    have hm : 0 ≤ mn (q - t) 16 ∧ mn (q - t) 16 ≤ 16 ∧ (q - t ≤ 16 → mn (q - t) 16 = q - t) ∧ (16 ≤ q - t → mn (q - t) 16 = 16) := by unfold mn; split <;> omega
    obtain ⟨a, ha⟩ := Int.eq_ofNat_of_zero_le hm.1
    rw [ha] at hm ⊢
    rw [Int.toNat_natCast, Int.toNat_natCast]
    have hle : moved n a ≤ 65535 := by
      unfold moved
      have : (n * 2 ^ a) &&& 65535 ||| 1 < 2 ^ 16 := Nat.or_lt_two_pow (Nat.and_lt_two_pow _ (by omega)) (by omega)
      omega
    refine ⟨?_, ?_, ?_⟩
    · unfold winOk
      rw [if_pos ⟨by omega, by omega, by omega⟩, if_neg (by omega)]
      simp only [Bool.and_eq_true, Bool.or_eq_true, decide_eq_true_eq]
      constructor
      · have hodd : (moved n a).testBit 0 = true := by
          unfold moved
          rw [Nat.testBit_or]
          simp
        rw [Nat.testBit_zero, decide_eq_true_eq] at hodd
        omega
      · by_cases h15 : q ≥ 15
        · exact .inl h15
        · right
          obtain ⟨Q, hQ⟩ := Int.eq_ofNat_of_zero_le (show 0 ≤ q + 1 by omega)
          rw [hQ, Int.toNat_natCast]
          have : moved n a < 2 ^ Q := by
            unfold moved
            refine Nat.or_lt_two_pow ?_ (Nat.one_lt_two_pow (by omega))
            refine Nat.lt_of_le_of_lt Nat.and_le_left ?_
            by_cases ht : t < 0
            · have := hlow.1 ht
              have h0 : n = 0 := by omega
              subst h0
              rw [Nat.zero_mul]
              exact Nat.two_pow_pos _
            · rw [if_neg ht] at hok
              simp only [Bool.and_eq_true, Bool.or_eq_true, decide_eq_true_eq] at hok
              rcases hok.2 with h | h
              · omega
              · obtain ⟨T, hT⟩ := Int.eq_ofNat_of_zero_le (show 0 ≤ t + 1 by omega)
                rw [hT, Int.toNat_natCast] at h
                have h1 : n < 2 ^ T := by exact_mod_cast h
                have e : Q = T + a := by omega
                rw [e, Nat.pow_add]
                exact Nat.mul_lt_mul_of_pos_right h1 (Nat.two_pow_pos _)
          exact_mod_cast this
    · refine ⟨Int.le_refl _, .inr ?_⟩
      rw [Int.sub_self, Int.toNat_natCast, show ((0 : Int)).toNat = 0 from rfl]
      unfold moved
      rw [Nat.testBit_or]
      simp
    · intro m hmt
      refine ⟨by have := hmt.1; omega, ?_⟩
      by_cases h16 : 16 ≤ q - m
      · exact .inl h16
      · right
        have h1 := hmt.1
        rcases hmt.2 with h2 | h2
        · omega
        · rw [Int.toNat_natCast] at h2 ⊢
          obtain ⟨c, hc'⟩ := Int.eq_ofNat_of_zero_le (show 0 ≤ t - m by omega)
          rw [hc', Int.toNat_natCast] at h2
          have e : (q - m).toNat = c + a := by omega
          rw [e]
          unfold moved
          rw [Nat.testBit_or, Nat.testBit_and, Nat.mul_comm, Nat.testBit_two_pow_mul]
          have h3 : (65535 : Nat).testBit (c + a) = true := by
            rw [show (65535 : Nat) = 2 ^ 16 - 1 from rfl, Nat.testBit_two_pow_sub_one]
            simp
            omega
          rw [h3]
          simp [h2]
theorem noted_else {t s q : Int} (h : winFresh t s q = false) : winNoted t s q = (t, s, false) := by
  unfold winNoted
  rw [if_neg (by simp [h])]
theorem noted_ok (t s q : Int) : (winNoted t s q).2.2 = winFresh t s q := by
  unfold winNoted
  by_cases h : winFresh t s q = true
  · rw [if_pos h, h]
    split <;> rfl
  · rw [if_neg h]
    simp at h
    simp [h]

/-! draws -/
/-- a cursor's list and place -/
def Cur (l : List Int) (i : Int) : Prop := 0 ≤ i ∧ i ≤ l.length ∧ l.length ≤ 140737488351232
theorem and255 (x : Int) : 0 ≤ Go.bits .and .i64 x 255 ∧ Go.bits .and .i64 x 255 ≤ 255 := by
  unfold Go.bits
  simp only [IntKind.wrap_i64]
  have h : (BitVec.ofInt IntKind.i64.bits x &&& BitVec.ofInt IntKind.i64.bits 255).toNat ≤ 255 := by
    rw [BitVec.toNat_and]
    have : (BitVec.ofInt IntKind.i64.bits 255).toNat = 255 := by decide
    rw [this]
    exact Nat.and_le_right
  omega

/-! the sum -/
def sone (x : Int) : Int := if Int.tmod x 2 = 1 then Go.bits .xor .u32 ((Int.tdiv x 2) % 4294967296) 3558460437 else (Int.tdiv x 2) % 4294967296
def sit : Nat → Int → Int
  | 0, x => x
  | n + 1, x => sit n (sone x)
def sstep (x c : Int) : Int := sit 8 (Go.bits .xor .u32 x (c % 4294967296))
def sumL (x : Int) (l : List Int) : Int := l.foldl sstep x
theorem xor_range (x y : Int) : 0 ≤ Go.bits .xor .u32 x y ∧ Go.bits .xor .u32 x y ≤ 4294967295 := by
  unfold Go.bits
  simp only [IntKind.wrap_u32]
  omega
theorem sone_range {x : Int} (h0 : 0 ≤ x) : 0 ≤ sone x ∧ sone x ≤ 4294967295 := by
  unfold sone
  split
  · exact xor_range _ _
  · omega
theorem sit_range {n : Nat} : ∀ {x : Int}, 0 ≤ x → x ≤ 4294967295 → 0 ≤ sit n x ∧ sit n x ≤ 4294967295 := by
  induction n with
  | zero => intro x h0 h1; exact ⟨h0, h1⟩
  | succ n ih => intro x h0 h1; exact ih (sone_range h0).1 (sone_range h0).2
theorem sstep_range (x c : Int) : 0 ≤ sstep x c ∧ sstep x c ≤ 4294967295 := sit_range (xor_range _ _).1 (xor_range _ _).2
theorem sumL_range {l : List Int} : ∀ {x : Int}, 0 ≤ x → x ≤ 4294967295 → 0 ≤ sumL x l ∧ sumL x l ≤ 4294967295 := by
  induction l with
  | nil => intro x h0 h1; exact ⟨h0, h1⟩
  | cons c l ih => intro x h0 h1; exact ih (x := sstep x c) (sstep_range x c).1 (sstep_range x c).2
theorem and_255 {x : Int} (h0 : 0 ≤ x) (h1 : x ≤ 9223372036854775807) : Go.bits .and .i64 x 255 = x % 256 := by
  have := bits_mask .i64 63 (by decide) (fun n h0 h1 => by rw [IntKind.wrap_i64]; omega) 8 (by decide) x h0 (by omega)
  simpa using this
/-- the four bytes of a sum, the highest first -/
def four (x : Int) : List Int := [(x / 16777216) % 256, (x / 65536) % 256, (x / 256) % 256, x % 256]
theorem four_range (x : Int) : ∀ y ∈ four x, 0 ≤ y ∧ y ≤ 255 := by
  intro y hy
  simp only [four, List.mem_cons, List.not_mem_nil, or_false] at hy
  rcases hy with rfl | rfl | rfl | rfl <;> omega

end Go.Proofs.Ytdhpcchmhikgeaa.Base
