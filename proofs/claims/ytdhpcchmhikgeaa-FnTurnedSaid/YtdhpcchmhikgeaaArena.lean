/- Opening an argument that is a struct whose one field is a slice of structs of four ints. Plain laws over any program. -/
import Derived.Test.YtdhpcchmhikgeaaWMore
import Derived.Lib.SmallJoins
namespace Go.Proofs.Ytdhpcchmhikgeaa.Base
open Go.RowKit Go.Deep Go.WideShapes Go.ChangeShapes Go.Joins
set_option linter.unusedVariables false
set_option linter.unusedSimpArgs false

theorem pick_list {α : Type} {Q : Nat → α → Prop} : ∀ (n : Nat), (∀ i, i < n → ∃ q, Q i q) → ∃ l : List α, l.length = n ∧ ∀ i q, l[i]? = some q → Q i q
  | 0, _ => ⟨[], rfl, fun i q h => by simp at h⟩
  | n + 1, h => by
    obtain ⟨l, hl, hq⟩ := pick_list n (fun i hi => h i (by omega))
    obtain ⟨q, hn⟩ := h n (by omega)
    refine ⟨l ++ [q], by simp [hl], fun i q' hi => ?_⟩
    rcases Nat.lt_or_ge i l.length with hlt | hge
    · rw [List.getElem?_append_left hlt] at hi
      exact hq i q' hi
    · have : i = l.length := by
        have := (List.getElem?_eq_some_iff.1 hi).1
        rw [List.length_append, List.length_singleton] at this
        omega
      subst this
      simp at hi
      subst hi
      rw [hl]
      exact hn

variable {H : Type} {enc : TypeId × Value → H} {P : Program} {w : World} {spare : Nat → Bool} {held : Bool}
/-- four whole numbers in range -/
def Wf4 (q : Int × Int × Int × Int) : Prop := (Lit.int .i64 q.1).wf = true ∧ (Lit.int .i64 q.2.1).wf = true ∧ (Lit.int .i64 q.2.2.1).wf = true ∧ (Lit.int .i64 q.2.2.2).wf = true
/-- a row of such structs, as it lies in memory -/
def Quads (w : World) (A : Option Addr) (n : Nat) (l : List (Int × Int × Int × Int)) : Prop :=
  l.length = n ∧ n ≤ maxLen ∧ (0 < n → ∃ ad, A = some ad ∧ ∀ i q, l[i]? = some q → Wf4 q ∧
    w.cell? (ad.add (i * 4)) = some (.int .i64 q.1) ∧ w.cell? (ad.add (i * 4 + 1)) = some (.int .i64 q.2.1) ∧ w.cell? (ad.add (i * 4 + 2)) = some (.int .i64 q.2.2.1) ∧ w.cell? (ad.add (i * 4 + 3)) = some (.int .i64 q.2.2.2))
theorem open_quads {t e ti : TypeId} {f0 f1 f2 f3 : Field} {fuel : Nat} {cs : List Value} {x : DataW H × List MemPlace}
    (ht : P.underlying t = some (.slice e)) (he : P.underlying e = some (.struct #[f0, f1, f2, f3])) (ce : P.cellsOf e = 4)
    (o0 : f0.offset = 0) (o1 : f1.offset = 1) (o2 : f2.offset = 2) (o3 : f3.offset = 3)
    (t0 : f0.type = ti) (t1 : f1.type = ti) (t2 : f2.type = ti) (t3 : f3.type = ti) (hi : P.underlying ti = some (.int .i64)) (ci : P.cellsOf ti = 1)
    (h : DataW.trod enc P w 0 spare held fuel t cs = some x) :
    ∃ A n c l, cs = [.slice A n c] ∧ n ≤ c ∧ c ≤ maxLen ∧ Quads w A n l := by
  rcases open_slice ht h with ⟨rfl, _⟩ | ⟨a, len, cap, m, n, D, Pl, rfl, hb, hl, hm, hmm, rfl, hx⟩
  · exact ⟨none, 0, 0, [], rfl, Nat.le_refl _, by unfold maxLen; omega, rfl, by unfold maxLen; omega, fun h => absurd h (by omega)⟩
  · have hlm : len ≤ m := by rw [hmm]; split <;> omega
    have each : ∀ i, i < len → ∃ q : Int × Int × Int × Int, Wf4 q ∧ w.cell? (a.add (i * 4)) = some (.int .i64 q.1) ∧ w.cell? (a.add (i * 4 + 1)) = some (.int .i64 q.2.1) ∧ w.cell? (a.add (i * 4 + 2)) = some (.int .i64 q.2.2.1) ∧ w.cell? (a.add (i * 4 + 3)) = some (.int .i64 q.2.2.2) := by
      intro i hil
      obtain ⟨cs', h1, h2⟩ := hx i (by omega)
      rw [ce] at h1
      obtain ⟨_, hlen, hcell⟩ := World.cells?_some h1
      obtain ⟨y0, y1, y2, y3, k, _, _, g0, g1, g2, g3⟩ := trod_struct4 he h2
      match cs', hlen with
      | [v0, v1, v2, v3], _ =>
        rw [t0, ci, o0] at g0
        rw [t1, ci, o1] at g1
        rw [t2, ci, o2] at g2
        rw [t3, ci, o3] at g3
        obtain ⟨n0, e0, _, w0⟩ := DataW.trod_int hi g0
        obtain ⟨n1, e1, _, w1⟩ := DataW.trod_int hi g1
        obtain ⟨n2, e2, _, w2⟩ := DataW.trod_int hi g2
        obtain ⟨n3, e3, _, w3⟩ := DataW.trod_int hi g3
        simp at e0 e1 e2 e3
        subst e0 e1 e2 e3
        have c0 := hcell 0 (by omega)
        have c1 := hcell 1 (by omega)
        have c2 := hcell 2 (by omega)
        have c3 := hcell 3 (by omega)
        rw [add_add] at c0 c1 c2 c3
        exact ⟨(n0, n1, n2, n3), ⟨w0, w1, w2, w3⟩, by simpa using c0, by simpa using c1, by simpa using c2, by simpa using c3⟩
    obtain ⟨l, hl1, hl2⟩ := pick_list len each
    exact ⟨some a, len, cap, l, rfl, hl, hm, hl1, by omega, fun _ => ⟨a, rfl, hl2⟩⟩
/-- the struct itself, by value -/
theorem open_arena {r : Reach} {b0 : Nat} {t ts : TypeId} {f : Field} {v : Value} {d : DataW H} {p : List MemPlace} (hs : P.underlying t = some (.struct #[f])) (hone : oneCellFields P #[f] = true) (hC : P.cellsOf t = 1) (hf : f.type = ts)
    (hv : Value.okWide P w r b0 t v) (h : DataW.Trod enc P w 0 spare held t v d p) :
    ∃ (v0 : Value) (x : DataW H × List MemPlace) (n : Nat), v = .agg #[v0] ∧ DataW.trod enc P w 0 spare held n ts [v0] = some x := by
  subst hf
  obtain ⟨cs, rfl, hsz⟩ := okWide_struct hs hv
  rw [hC] at hsz
  have hcs : ∃ v0, cs = #[v0] := by
    match cs, hsz with
    | ⟨[v0]⟩, _ => exact ⟨v0, rfl⟩
  obtain ⟨v0, rfl⟩ := hcs
  obtain ⟨fuel, hfu⟩ := h
  obtain ⟨xs, n, _, _, hl, hlen, hfe⟩ := DataW.trod_struct hs hfu
  obtain ⟨o0, k0⟩ := hone_of hone 0 f rfl
  match xs, hlen with
  | [y0], _ =>
    have g := hfe 0 f rfl
    simp [o0, k0, Value.cells] at g
    exact ⟨v0, y0, n, rfl, by simpa [Value.cells] using g⟩
end Go.Proofs.Ytdhpcchmhikgeaa.Base
