/- Proved: drawn terms come back from their texts, into an empty arena and into one that has them; what is put twice is there once; no condition. -/
import Derived.Test.YtkckdibalopagaaSFnTermsx0
import Derived.Test.YtkckdibalopagaaSFnTermsx1
import Derived.Test.YtkckdibalopagaaSFnTermsx2
import Derived.Test.YtkckdibalopagaaSFnTermsx3
import Derived.Test.YtkckdibalopagaaSFnTermsx4
import Derived.Test.YtkckdibalopagaaSFnTermsx5
import Derived.Test.YtkckdibalopagaaSFnTermsx6
import Derived.Test.YtkckdibalopagaaSFnTermsx7
import Derived.Test.YtkckdibalopagaaSFnTermsx8
import Derived.Test.YtkckdibalopagaaSFnTermsx9
import Derived.Test.YtkckdibalopagaaSFnTermsx10
import Derived.Test.YtkckdibalopagaaUBase
namespace Go.Proofs.Ytkckdibalopagaa.Pure
open Go.RowKit Go.Proofs.Ytkckdibalopagaa.SFnTerms Go.Proofs.Ytkckdibalopagaa.Base Go.Proofs.YtkckdibalopagaaW.PrintWords Go.Proofs.YtkckdibalopagaaW.PrintLast Go.Proofs.YtkckdibalopagaaW.PrintMore
open Go.Proofs.Ytkckdibalopagaa.SFnTerms.Hand
set_option linter.unusedVariables false
set_option linter.unusedSimpArgs false

attribute [local go_sem] max2_int min2_int max_two min_two max_three min_three max_four min_four
/-! what the program reads is what the reference reads -/
theorem putB_back {l : List S34} {bb : Bool} {x : S34} (h : (putB l bb x).2.1 = false) : bb = false ∧ 0 ≤ (putN l x).2 ∧ putB l bb x = ((putN l x).1, false, (putN l x).2) := by
  unfold putB at h ⊢
  cases bb with
  | true => simp at h
  | false =>
    simp only [Bool.false_eq_true, if_false] at h ⊢
    by_cases hn : (putN l x).2 < 0
    · rw [if_pos hn] at h; simp at h
    · rw [if_neg hn]; exact ⟨trivial, by omega, rfl⟩
theorem putB_good {l : List S34} {x : S34} (h : 0 ≤ (putN l x).2) : putB l false x = ((putN l x).1, false, (putN l x).2) := by
  unfold putB
  rw [if_neg (by simp), if_neg (by omega)]
theorem one_iff {k : Int} : oneKind k = true ↔ (k = 3 ∨ k = 6) := by unfold oneKind; simp
theorem tmI_bb (t : ByteArray) : ∀ (d : Nat) (s : TmR), (tmI t d s).bb = false → s.bb = false := by
  intro d
  induction d with
  | zero => intro s h; exact h
  | succ d ih =>
    intro s h
    have h1 := ih (atT s (readVar t s.at_).2.1)
    have h2 := ih (tmI t d (atT s (readVar t s.at_).2.1))
    rw [tmI] at h
    split at h
    · exact h
    split at h
    · exact h
    split at h
    · exact h
    split at h
    · split at h
      · exact h
      · exact (putB_back h).1
    split at h
    · exact h1 h
    split at h
    · exact h1 (putB_back h).1
    split at h
    · exact h1 (h2 h)
    · exact h1 (h2 (putB_back h).1)
theorem read_to (t : ByteArray) : ∀ (d : Nat) (s : TmR) (e : Nat), (tmI t d s).sb = false → (tmI t d s).bb = false → (tmI t d s).sz - s.sz ≤ (e : Int) →
    rdS t e s.l s.at_ = ((tmI t d s).l, (tmI t d s).v, (tmI t d s).at_) ∧ 0 ≤ (tmI t d s).v := by
  intro d
  induction d with
  | zero => intro s e h; simp [tmI, badT] at h
  | succ d ih =>
    intro s e hs hb he
    have hz := tmI_sz t (d + 1) s
    have hz1 := hz.2 hs
    obtain ⟨e, rfl⟩ : ∃ e', e = e' + 1 := ⟨e - 1, by omega⟩
    have h1 := ih (atT s (readVar t s.at_).2.1)
    have hx := tmI_sz t d (atT s (readVar t s.at_).2.1)
    have hy := tmI_sz t d (tmI t d (atT s (readVar t s.at_).2.1))
    have h2 := ih (tmI t d (atT s (readVar t s.at_).2.1))
    have ea : (atT s (readVar t s.at_).2.1).sz = s.sz + 1 := rfl
    have el : (atT s (readVar t s.at_).2.1).l = s.l := rfl
    have et : (atT s (readVar t s.at_).2.1).at_ = (readVar t s.at_).2.1 := rfl
    rw [ea] at hx h1
    rw [el, et] at h1
    rw [tmI] at hs hb he ⊢
    rw [rdS]
    generalize hX : tmI t d (atT s (readVar t s.at_).2.1) = X at *
    generalize hY : tmI t d X = Y at *
    split at hs
    · simp [badT] at hs
    rename_i c0
    rw [if_neg c0] at hb he ⊢
    split at hs
    · simp [badT] at hs
    rename_i c1
    rw [if_neg c1] at hb he ⊢
    split at hs
    · simp [badT] at hs
    rename_i c2
    rw [if_neg c2] at hb he ⊢
    have c2' := Decidable.not_not.1 c2
    rw [if_pos ⟨by simpa using c1, c2'.1, c2'.2⟩]
    split at hs
    · rename_i c3
      rw [if_pos c3] at hb he ⊢
      rw [if_pos c3]
      split at hs
      · simp [badT] at hs
      rename_i c4
      rw [if_neg c4] at hb he ⊢
      rw [if_pos (by simpa using c4)]
      obtain ⟨_, p1, p2⟩ := putB_back hb
      have p2 : putB s.l s.bb ⟨1, (readVar t (readVar t s.at_).2.1).1, 0, 0⟩ = _ := p2
      simp only [putT, atT]
      rw [p2]
      exact ⟨rfl, p1⟩
    rename_i c3
    rw [if_neg c3] at hb he ⊢
    rw [if_neg c3]
    split at hs
    · simp [badT] at hs
    rename_i c5
    rw [if_neg c5] at hb he ⊢
    have hxs : X.sb = false := by simpa using c5
    split at hs
    · rename_i c6
      rw [if_pos c6] at hb he ⊢
      obtain ⟨b1, p1, p2⟩ := putB_back hb
      have he : X.sz - s.sz ≤ ((e + 1 : Nat) : Int) := he
      obtain ⟨q1, q2⟩ := h1 e hxs b1 (by omega)
      rw [q1]
      simp only
      rw [if_neg (by omega), if_pos (one_iff.1 c6)]
      simp only [putT]
      rw [p2]
      exact ⟨rfl, p1⟩
    rename_i c6
    rw [if_neg c6] at hb he ⊢
    split at hs
    · simp [badT] at hs
    rename_i c7
    rw [if_neg c7] at hb he ⊢
    have hys : Y.sb = false := by simpa using c7
    obtain ⟨b1, p1, p2⟩ := putB_back hb
    have he : Y.sz - s.sz ≤ ((e + 1 : Nat) : Int) := he
    have hbx : X.bb = false := tmI_bb t d X (by rw [hY]; exact b1)
    have hx2 := hx.2 hxs
    have hy2 := hy.2 hys
    obtain ⟨q1, q2⟩ := h1 e hxs hbx (by omega)
    obtain ⟨q3, q4⟩ := h2 e hys b1 (by omega)
    rw [q1]
    simp only
    rw [if_neg (by omega), if_neg (fun h => c6 (one_iff.2 h)), q3]
    simp only
    rw [if_neg (by omega)]
    simp only [putT]
    rw [p2]
    exact ⟨rfl, p1⟩
/-- a node put lies at its place -/
theorem putN_place {l : List S34} {x : S34} (h : 0 ≤ (putN l x).2) : ∃ k : Nat, (putN l x).2 = (k : Int) ∧ k < (putN l x).1.length ∧ nodeOf (putN l x).1 k = x ∧ ∃ e, (putN l x).1 = l ++ e := by
  rcases putN_cases l x with ⟨_, h2⟩ | ⟨_, h0, ⟨h1, h2, h3⟩ | ⟨_, _, h1, h2⟩⟩
  · omega
  · rcases atV_cases l x with ha | ⟨a0, a1, a2⟩
    · omega
    · rw [h1, h3]
      exact ⟨(atV l x).toNat, by omega, by omega, a2, [], by simp⟩
  · rw [h1, h2]
    refine ⟨l.length, rfl, by simp, ?_, [x], rfl⟩
    rw [nodeOf_get (by simp)]
    simp
theorem nodeOf_apps {l e : List S34} {k : Nat} (h : k < l.length) : nodeOf (l ++ e) k = nodeOf l k := by
  rw [nodeOf_get (by simp; omega), nodeOf_get h, List.getElem_append_left h]
/-- what the reference reads, the program reads too, or finds too big -/
theorem read_back (t : ByteArray) : ∀ (d' : Nat) (l : List S34) (a : Int), 0 ≤ (rdS t d' l a).2.1 → ∃ n k : Nat, 1 ≤ n ∧ (rdS t d' l a).2.1 = (k : Int) ∧ k < (rdS t d' l a).1.length ∧ (∃ e, (rdS t d' l a).1 = l ++ e) ∧
    (∀ e, 0 < szAt ((rdS t d' l a).1 ++ e) k → szAt ((rdS t d' l a).1 ++ e) k ≤ 2000 → szAt ((rdS t d' l a).1 ++ e) k = (n : Int)) ∧
    (∀ (d : Nat) (z : Int) (b : Bool) (v : Int), 0 ≤ z → z ≤ 2000 → 2001 ≤ z + d → (z + n ≤ 2000 → tmI t d ⟨l, false, a, z, b, v⟩ = ⟨(rdS t d' l a).1, false, (rdS t d' l a).2.2, z + n, false, (rdS t d' l a).2.1⟩) ∧ (2000 < z + n → (tmI t d ⟨l, false, a, z, b, v⟩).sb = true)) := by
  intro d'
  induction d' with
  | zero => intro l a h; exact absurd h (by simp [rdS])
  | succ d' ih =>
    intro l a h
    rw [rdS] at h ⊢
    split at h
    case isFalse => exact absurd h (by simp)
    rename_i c0
    rw [if_pos c0]
    have c0a : ¬ ((readVar t a).2.2 = false) := by rw [c0.1]; simp
    have c0b : ¬ ¬ (1 ≤ (readVar t a).1 ∧ (readVar t a).1 ≤ 9) := fun hh => hh c0.2
    split at h
    · rename_i c1
      rw [if_pos c1]
      split at h
      case isFalse => exact absurd h (by simp)
      rename_i c2
      rw [if_pos c2]
      simp only at h ⊢
      obtain ⟨k, k1, k2, k3, k4⟩ := putN_place h
      refine ⟨1, k, Nat.le_refl _, k1, k2, k4, fun e h0 h1 => ?_, fun d z b v z0 z1 z2 => ?_⟩
      · have hs := (sz_split h0 h1).2.1
        rw [nodeOf_apps k2, k3] at hs
        exact hs rfl
      · obtain ⟨d, rfl⟩ : ∃ d1, d = d1 + 1 := ⟨d - 1, by omega⟩
        rw [tmI]
        simp only
        by_cases hz : 2000 < z + 1
        · rw [if_pos hz]
          exact ⟨fun hh => by exfalso; omega, fun _ => rfl⟩
        · rw [if_neg hz, if_neg c0a, if_neg c0b, if_pos c1, if_neg (by rw [c2]; simp)]
          refine ⟨fun _ => ?_, fun hh => by exfalso; omega⟩
          simp only [putT, atT]
          rw [putB_good h]
          rfl
    · rename_i c1
      rw [if_neg c1]
      split at h
      · exact absurd h (by simp)
      rename_i c2
      rw [if_neg c2]
      obtain ⟨n1, k1, n1p, hk1, hl1, ⟨e1, he1⟩, hsz1, hrd1⟩ := ih l (readVar t a).2.1 (by omega)
      generalize hX : rdS t d' l (readVar t a).2.1 = X at *
      obtain ⟨lx, vx, ax⟩ := X
      simp only at hk1 hl1 he1 hsz1 hrd1 h c2 ⊢
      split at h
      · rename_i c3
        rw [if_pos c3]
        simp only at h ⊢
        obtain ⟨k, q1, q2, q3, e2, q4⟩ := putN_place h
        refine ⟨n1 + 1, k, by omega, q1, q2, ⟨e1 ++ e2, by rw [q4, he1, List.append_assoc]⟩, fun e h0 h1 => ?_, fun d z b v z0 z1 z2 => ?_⟩
        · have hs := (sz_split h0 h1).2.2.1
          rw [nodeOf_apps q2, q3] at hs
          obtain ⟨x, hx, _, hx2, hx3⟩ := hs c1 (one_iff.2 c3)
          have hx : vx = (x : Int) := hx
          obtain rfl : x = k1 := by omega
          have hh := hsz1 (e2 ++ e)
          rw [← List.append_assoc, ← q4] at hh
          have := hh hx2 (by omega)
          omega
        · obtain ⟨d, rfl⟩ : ∃ d1, d = d1 + 1 := ⟨d - 1, by omega⟩
          rw [tmI]
          simp only
          by_cases hz : 2000 < z + 1
          · rw [if_pos hz]
            exact ⟨fun hh => by exfalso; omega, fun _ => rfl⟩
          · rw [if_neg hz, if_neg c0a, if_neg c0b, if_neg c1]
            have hr := hrd1 d (z + 1) false (-1) (by omega) (by omega) (by omega)
            have ea : atT ⟨l, false, a, z, b, v⟩ (readVar t a).2.1 = ⟨l, false, (readVar t a).2.1, z + 1, false, -1⟩ := rfl
            rw [ea]
            by_cases hn : z + 1 + n1 ≤ 2000
            · rw [hr.1 hn]
              rw [if_neg (by simp), if_pos (one_iff.2 c3)]
              refine ⟨fun _ => ?_, fun hh => by exfalso; omega⟩
              simp only [putT]
              rw [putB_good h]
              simp only [TmR.mk.injEq]
              exact ⟨trivial, trivial, trivial, by omega, trivial, trivial⟩
            · rw [if_pos (hr.2 (by omega))]
              exact ⟨fun hh => by exfalso; omega, fun _ => rfl⟩
      · rename_i c3
        rw [if_neg c3]
        split at h
        · exact absurd h (by simp)
        rename_i c4
        rw [if_neg c4]
        obtain ⟨n2, k2, n2p, hk2, hl2, ⟨e3, he3⟩, hsz2, hrd2⟩ := ih lx ax (by omega)
        generalize hY : rdS t d' lx ax = Y at *
        obtain ⟨ly, vy, ay⟩ := Y
        simp only at hk2 hl2 he3 hsz2 hrd2 h c4 ⊢
        obtain ⟨k, q1, q2, q3, e2, q4⟩ := putN_place h
        have c3' : oneKind (readVar t a).1 = false := by
          cases hh : oneKind (readVar t a).1 with
          | false => rfl
          | true => exact absurd (one_iff.1 hh) c3
        refine ⟨n1 + n2 + 1, k, by omega, q1, q2, ⟨e1 ++ (e3 ++ e2), by rw [q4, he3, he1]; simp⟩, fun e h0 h1 => ?_, fun d z b v z0 z1 z2 => ?_⟩
        · have hs := (sz_split h0 h1).2.2.2
          rw [nodeOf_apps q2, q3] at hs
          obtain ⟨x, y, hx, _, hx2, hy, _, hy2, hxy⟩ := hs c1 c3'
          have hx : vx = (x : Int) := hx
          have hy : vy = (y : Int) := hy
          obtain rfl : x = k1 := by omega
          obtain rfl : y = k2 := by omega
          have hh := hsz1 (e3 ++ (e2 ++ e))
          rw [← List.append_assoc, ← he3, ← List.append_assoc, ← q4] at hh
          have hh1 := hh hx2 (by omega)
          have hh2 := hsz2 (e2 ++ e)
          rw [← List.append_assoc, ← q4] at hh2
          have hh3 := hh2 hy2 (by omega)
          omega
        · obtain ⟨d, rfl⟩ : ∃ d1, d = d1 + 1 := ⟨d - 1, by omega⟩
          rw [tmI]
          simp only
          by_cases hz : 2000 < z + 1
          · rw [if_pos hz]
            exact ⟨fun hh => by exfalso; omega, fun _ => rfl⟩
          · rw [if_neg hz, if_neg c0a, if_neg c0b, if_neg c1]
            have hr := hrd1 d (z + 1) false (-1) (by omega) (by omega) (by omega)
            have ea : atT ⟨l, false, a, z, b, v⟩ (readVar t a).2.1 = ⟨l, false, (readVar t a).2.1, z + 1, false, -1⟩ := rfl
            rw [ea]
            by_cases hn : z + 1 + n1 ≤ 2000
            · rw [hr.1 hn]
              rw [if_neg (by simp), if_neg (by rw [c3']; simp)]
              have hr2 := hrd2 d (z + 1 + n1) false vx (by omega) (by omega) (by omega)
              by_cases hn2 : z + 1 + n1 + n2 ≤ 2000
              · rw [hr2.1 hn2]
                rw [if_neg (by simp)]
                refine ⟨fun _ => ?_, fun hh => by exfalso; omega⟩
                simp only [putT]
                rw [putB_good h]
                simp only [TmR.mk.injEq]
                exact ⟨trivial, trivial, trivial, by omega, trivial, trivial⟩
              · rw [if_pos (hr2.2 (by omega))]
                exact ⟨fun hh => by exfalso; omega, fun _ => rfl⟩
            · rw [if_pos (hr.2 (by omega))]
              exact ⟨fun hh => by exfalso; omega, fun _ => rfl⟩
theorem chk_neg (l0 : List S34) (t : ByteArray) (r : List S34 × Int) (b : Bool) (h : r.2 < 0 ∨ b = true ∨ (termText r.1 r.2).2 = false) : chkT l0 t r b = (l0, -1, false) := by
  unfold chkT
  split
  · rfl
  split
  · rfl
  split
  · rfl
  · rename_i h1 h2 h3
    rcases h with h | h | h
    · exact absurd h h1
    · exact absurd h h2
    · exact absurd h h3
theorem readI_eq (l : List S34) (t : ByteArray) : readI l t = readS l t := by
  by_cases hg : (tmI t 2001 ⟨l, false, 0, 0, false, -1⟩).sb = false ∧ (tmI t 2001 ⟨l, false, 0, 0, false, -1⟩).bb = false
  · have hz := (tmI_sz t 2001 ⟨l, false, 0, 0, false, -1⟩).2 hg.1
    obtain ⟨h1, h2⟩ := read_to t 2001 ⟨l, false, 0, 0, false, -1⟩ 2001 hg.1 hg.2 (by simp only; omega)
    simp only at h1
    unfold readI readS
    rw [h1]
    unfold endN
    simp only
    rw [hg.1, hg.2, if_neg (by simp; omega), Bool.false_or]
  · have hI : readI l t = (l, -1, false) := by
      unfold readI
      apply chk_neg
      by_cases hb : (tmI t 2001 ⟨l, false, 0, 0, false, -1⟩).bb = true
      · left
        unfold endN
        rw [if_pos (.inl hb)]
        show (-1 : Int) < 0
        omega
      · right; left
        have : (tmI t 2001 ⟨l, false, 0, 0, false, -1⟩).sb = true := by
          cases hh : (tmI t 2001 ⟨l, false, 0, 0, false, -1⟩).sb with
          | true => rfl
          | false => exact absurd ⟨hh, by simpa using hb⟩ hg
        rw [this]
        rfl
    rw [hI]
    symm
    unfold readS
    apply chk_neg
    by_cases hv : (rdS t 2001 l 0).2.1 < 0
    · exact .inl hv
    · right; right
      obtain ⟨n, k, n1, hk, hkl, _, hsz, hrd⟩ := read_back t 2001 l 0 (by omega)
      have hr := hrd 2001 0 false (-1) (by omega) (by omega) (by omega)
      have hn : 2000 < n := by
        rcases Nat.lt_or_ge 2000 n with h | h
        · exact h
        · exfalso
          have := hr.1 (by omega)
          exact hg (by rw [this]; exact ⟨rfl, rfl⟩)
      have hs := hsz []
      rw [List.append_nil] at hs
      simp only
      rw [hk]
      have hso : Go.Proofs.Ytkckdibalopagaa.SFnTerms.Hand.sizeOf (rdS t 2001 l 0).1 (k : Int) = szAt (rdS t 2001 l 0).1 k := by
        unfold Go.Proofs.Ytkckdibalopagaa.SFnTerms.Hand.sizeOf
        rw [if_pos ⟨by omega, by omega⟩, Int.toNat_natCast]
      unfold termText
      rw [if_neg]
      intro hh
      rw [hso] at hh
      have := hs (by omega) (by omega)
      omega

/-! a number's text read back -/
theorem rv_varN (f : Nat) : ∀ (n : Nat) (rest : List Int), (varN n).length ≤ f → rv f (varN n ++ rest) = some (n, (varN n).length) := by
  induction f with
  | zero =>
    intro n rest h
    by_cases hn : n > 127
    · rw [varN_big hn] at h; simp at h
    · rw [varN_small (by omega)] at h; simp at h
  | succ f ih =>
    intro n rest h
    by_cases hn : n > 127
    · rw [varN_big hn] at h ⊢
      simp only [List.length_cons, List.cons_append] at h ⊢
      rw [rv, if_pos (by omega), ih (n / 128) rest (by omega)]
      simp only [Option.map_some]
      congr 2
      omega
    · rw [varN_small (by omega)]
      simp only [List.cons_append, List.nil_append, List.length_singleton]
      rw [rv, if_neg (by omega)]
      simp
theorem readV_varN {n : Nat} (hn : n ≤ 1000000000) (rest : List Int) (a : Int) : readV (varN n ++ rest) a = ((n : Int), a + ((varN n).length : Int), true) := by
  have hl := (varN_length 4 n (by omega)).2
  unfold readV
  rw [rv_varN 5 n rest hl]
  simp only
  rw [if_pos ⟨by omega, by rw [List.take_left]⟩]
theorem readVar_at (s : ByteArray) (a : Nat) {n : Nat} (hn : n ≤ 1000000000) (rest : List Int) (ha : a ≤ s.size) (h : (bytesOf s).drop a = varN n ++ rest) : readVar s (a : Int) = ((n : Int), (a : Int) + ((varN n).length : Int), true) := by
  unfold readVar
  rw [if_pos ⟨by omega, by omega⟩, Int.toNat_natCast, h, readV_varN hn]

/-! draws: what they come to lies in its bounds -/
theorem New_ev (l : List Int) (hl : l.length ≤ 140737488351232) : ∀ (d i : Nat) (x : Int), 4000 - i = d → i ≤ l.length → ∃ h, Ev (fun k => spec_l01New.l0 k l x (i : Int)) (l, 0, h) := by
  intro d
  induction d with
  | zero =>
    intro i x hd hi
    by_cases hlt : i < l.length
    · exact ⟨x, ev_end (fun k => by rw [spec_l01New.l0, if_pos (by omega), if_neg (by omega)])⟩
    · exact ⟨x, ev_end (fun k => by rw [spec_l01New.l0, if_neg (by omega)])⟩
  | succ d ih =>
    intro i x hd hi
    by_cases hlt : i < l.length
    · obtain ⟨h, hh⟩ := ih (i + 1) (Go.bits .and .i64 (wrap64 ((wrap64 ((wrap64 (x * 131)) + (wrap64 (rd l i)))) + 7)) 1073741823) (by omega) (by omega)
      exact ⟨h, Ev.step (fun k => by rw [spec_l01New.l0, if_pos (by omega), if_pos (by omega), if_pos (by omega), w64 (x := (i : Int) + 1) (by omega) (by omega)]; rfl) hh⟩
    · exact ⟨x, ev_end (fun k => by rw [spec_l01New.l0, if_neg (by omega)])⟩
theorem New_f (l : List Int) (hl : l.length ≤ 140737488351232) : ∃ h, Ev (fun k => spec_l01New.f k l) (l, 0, h) := New_ev l hl 4000 0 _ rfl (by omega)
theorem cur_zero {l : List Int} (hl : l.length ≤ 140737488351232) : Cur l 0 := ⟨by omega, by omega, hl⟩
theorem Byte_f {l : List Int} {i : Int} (h : Int) (c : Cur l i) : ∃ r i' h', spec_l01Byte.f l i h = some (r, i', h') ∧ Cur l i' ∧ 0 ≤ r ∧ r ≤ 255 := by
  obtain ⟨c0, c1, c2⟩ := c
  unfold spec_l01Byte.f
  by_cases hi : i < (l.length : Int)
  · rw [if_pos hi, if_pos c0, w64 (x := i + 1) (by omega) (by omega)]
    exact ⟨_, _, _, rfl, ⟨by omega, by omega, c2⟩, (and255 _).1, (and255 _).2⟩
  · rw [if_neg hi]
    exact ⟨_, _, _, rfl, ⟨c0, c1, c2⟩, (and255 _).1, (and255 _).2⟩
theorem Below_f {l : List Int} {i : Int} (h n : Int) (hn : n ≤ 4294967296) (c : Cur l i) : ∃ r i' h', spec_l01Below.f l i h n = some (r, i', h') ∧ Cur l i' ∧ (0 < n → 0 ≤ r ∧ r < n) ∧ (n ≤ 0 → r = 0) := by
  unfold spec_l01Below.f
  by_cases h0 : n ≤ 0
  · rw [if_pos h0]
    exact ⟨_, _, _, rfl, c, fun h => by omega, fun _ => rfl⟩
  · rw [if_neg h0]
    by_cases h1 : n ≤ 256
    · rw [if_pos h1]
      obtain ⟨r, i', h', e, c', r0, r1⟩ := Byte_f h c
      rw [e]
      simp only [Option.bind_some]
      rw [if_neg (by omega)]
      exact ⟨_, _, _, rfl, c', fun _ => by rw [Int.tmod_eq_emod_of_nonneg r0]; exact ⟨Int.emod_nonneg _ (by omega), Int.emod_lt_of_pos _ (by omega)⟩, fun h => by omega⟩
    · rw [if_neg h1]
      obtain ⟨ra, ia, ha, ea, ca, a0, a1⟩ := Byte_f h c
      rw [ea]
      simp only [Option.bind_some]
      obtain ⟨rb, ib, hb, eb, cb, b0, b1⟩ := Byte_f ha ca
      rw [eb]
      simp only [Option.bind_some]
      obtain ⟨rc, ic, hc, ec, cc, c0, c1⟩ := Byte_f hb cb
      rw [ec]
      simp only [Option.bind_some]
      obtain ⟨rd, id, hd, ed, cd, d0, d1⟩ := Byte_f hc cc
      rw [ed]
      simp only [Option.bind_some]
      rw [if_neg (by omega)]
      refine ⟨_, _, _, rfl, cd, fun _ => ?_, fun h => by omega⟩
      have e1 : wrap64 (ra * 16777216) = ra * 16777216 := w64 (by omega) (by omega)
      have e2 : wrap64 (rb * 65536) = rb * 65536 := w64 (by omega) (by omega)
      have e3 : wrap64 (rc * 256) = rc * 256 := w64 (by omega) (by omega)
      have e4 : wrap64 (ra * 16777216 + rb * 65536) = ra * 16777216 + rb * 65536 := w64 (by omega) (by omega)
      have e5 : wrap64 (ra * 16777216 + rb * 65536 + rc * 256) = ra * 16777216 + rb * 65536 + rc * 256 := w64 (by omega) (by omega)
      have e6 : wrap64 (ra * 16777216 + rb * 65536 + rc * 256 + rd) = ra * 16777216 + rb * 65536 + rc * 256 + rd := w64 (by omega) (by omega)
      rw [e1, e2, e3, e4, e5, e6, Int.tmod_eq_emod_of_nonneg (by omega)]
      exact ⟨Int.emod_nonneg _ (by omega), Int.emod_lt_of_pos _ (by omega)⟩

theorem Places_ev (l : List Int) : ∀ (d n : Nat) (acc : List Int) (i h : Int), 12 - n = d → n ≤ 12 → acc.length = n → (∀ x ∈ acc, 0 ≤ x ∧ x < 10000) → Cur l i →
    ∃ r, Ev (fun k => spec_DrawPlaces.l0 k acc (n : Int) l i h) r ∧ r.length = 12 ∧ ∀ x ∈ r, 0 ≤ x ∧ x < 10000 := by
  intro d
  induction d with
  | zero =>
    intro n acc i h hd hn ha hx c
    exact ⟨acc, ev_end (fun k => by rw [spec_DrawPlaces.l0, if_neg (by omega)]), by omega, hx⟩
  | succ d ih =>
    intro n acc i h hd hn ha hx c
    obtain ⟨r, i', h', e, c', hr, _⟩ := Below_f h 10000 (by omega) c
    have hr := hr (by omega)
    obtain ⟨q, hq, q1, q2⟩ := ih (n + 1) (acc ++ [r]) i' h' (by omega) (by omega) (by simp; omega) (fun x hm => by
      rcases List.mem_append.1 hm with hm | hm
      · exact hx x hm
      · rw [List.mem_singleton.1 hm]; exact hr) c'
    refine ⟨q, ?_, q1, q2⟩
    refine Ev.step (fun k => by rw [spec_DrawPlaces.l0, if_pos (by omega), e, Option.bind_some, if_pos (by omega), w64 (x := (n : Int) + 1) (by omega) (by omega)]) ?_
    exact hq
theorem Places_f (l : List Int) (hl : l.length ≤ 140737488351232) : ∃ r, Ev (fun k => spec_DrawPlaces.f k l) r ∧ r.length = 12 ∧ ∀ x ∈ r, 0 ≤ x ∧ x < 10000 := by
  obtain ⟨h, hh⟩ := New_f l hl
  obtain ⟨r, i', h', e, c', _⟩ := Byte_f h (cur_zero hl)
  obtain ⟨q, hq, q1⟩ := Places_ev l 12 0 [] i' h' (by omega) (by omega) rfl (by simp) c'
  exact ⟨q, Ev.bind hh (ev_now e hq), q1⟩

/-! a drawn arena is right, and small -/
def smallN (x : S34) : Prop := (-1 ≤ x.f0 ∧ x.f0 ≤ 1000000) ∧ (-1 ≤ x.f1 ∧ x.f1 ≤ 1000000) ∧ (-1 ≤ x.f2 ∧ x.f2 ≤ 1000000) ∧ (-1 ≤ x.f3 ∧ x.f3 ≤ 1000000)
theorem small_int {n : Int} (h : -1 ≤ n ∧ n ≤ 1000000) : (Lit.int .i64 n).wf = true := by
  simp [Lit.wf, IntKind.min, IntKind.max, IntKind.signed, IntKind.bits]
  omega
theorem small_wf {x : S34} (h : smallN x) : wf1 x = true := by
  unfold wf1
  rw [small_int h.1, small_int h.2.1, small_int h.2.2.1, small_int h.2.2.2]
  rfl
theorem pick_in {l : List Int} {i : Int} (h : Int) (c : Cur l i) (xs : List Int) (h0 : 0 < xs.length) (h1 : xs.length ≤ 1000) : ∃ r i' h', spec_l01PickInt.f l i h xs = some (r, i', h') ∧ Cur l i' ∧ r ∈ xs := by
  obtain ⟨r, i', h', e, c', r0, _⟩ := Below_f h (xs.length : Int) (by omega) c
  have hr := r0 (by omega)
  unfold spec_l01PickInt.f
  rw [e]
  simp only [Option.bind_some]
  rw [if_pos hr.1, if_pos hr.2]
  refine ⟨_, _, _, rfl, c', ?_⟩
  obtain ⟨n, hn⟩ := Int.eq_ofNat_of_zero_le hr.1
  rw [hn, rd_nat (by omega)]
  exact List.getElem_mem _
theorem nodeOf_app {l : List S34} {x : S34} {j : Nat} (h : j < l.length) : nodeOf (l ++ [x]) j = nodeOf l j := by
  rw [nodeOf_get (by simp; omega), nodeOf_get h, List.getElem_append_left h]
theorem nodeOf_last (l : List S34) (x : S34) : nodeOf (l ++ [x]) l.length = x := by
  rw [nodeOf_get (by simp)]
  simp
theorem atV_none {l : List S34} {x : S34} (h : atV l x = -1) : ∀ y ∈ l, sameN y x = false := by
  unfold atV at h
  cases hf : l.findIdx? (fun y => sameN y x) with
  | none =>
    intro y hy
    have := List.findIdx?_eq_none_iff.1 hf y hy
    simpa using this
  | some m =>
    rw [hf] at h
    exfalso
    have h2 : (m : Int) = -1 := h
    omega
theorem aok_app {l : List S34} {x : S34} (h : aok l = true) (hl : l.length < 3000) (hb : nodeB x.f0 x.f1 x.f2 x.f3 (l.length : Int) = true) (ha : atV l x = -1) : aok (l ++ [x]) = true := by
  have hp := (aok_parts h).2
  refine aok_true (by simp; omega) (fun j hj => ?_)
  rcases Nat.lt_or_ge j l.length with hlt | hge
  · have hj' := hp j hlt
    refine ⟨?_, ?_⟩
    · unfold rightAt
      rw [nodeOf_app hlt]
      exact hj'.1
    · unfold dupAt
      rw [nodeOf_app hlt, List.take_append_of_le_length (by omega)]
      exact hj'.2
  · have e : j = l.length := by simp at hj; omega
    subst e
    refine ⟨?_, ?_⟩
    · unfold rightAt
      rw [nodeOf_last]
      exact hb
    · unfold dupAt
      rw [nodeOf_last, List.take_left, List.any_eq_false]
      intro y hy
      rw [atV_none ha y hy]
      simp
theorem aok_put {l : List S34} (x : S34) (h : aok l = true) : aok (putN l x).1 = true := by
  rcases putN_cases l x with ⟨e, _⟩ | ⟨hb, _, ⟨e, _⟩ | ⟨ha, hl, e, _⟩⟩
  · rw [e]; exact h
  · rw [e]; exact h
  · rw [e]; exact aok_app h hl hb ha
theorem put_length (l : List S34) (x : S34) : l.length ≤ (putN l x).1.length ∧ (putN l x).1.length ≤ l.length + 1 := by
  rcases putN_cases l x with ⟨e, _⟩ | ⟨hb, _, ⟨e, _⟩ | ⟨ha, hl, e, _⟩⟩
  · rw [e]; omega
  · rw [e]; omega
  · rw [e]; simp
theorem put_first {p : Int} (h : 0 ≤ p ∧ p ≤ 999999) : (putN ([] : List S34) ⟨1, p, 0, 0⟩).1 = [⟨1, p, 0, 0⟩] := by
  unfold putN
  have h1 : nodeB 1 p 0 0 (([] : List S34).length : Int) = true := by
    unfold nodeB
    rw [if_pos rfl]
    simp [h.1, h.2]
  rw [if_pos h1]
  rfl
theorem nums_in {p : Int} (h : p ∈ ([0, 1, 5, 1000, 5000, 10000, 10001] : List Int)) : 0 ≤ p ∧ p ≤ 999999 := by
  simp at h
  omega
theorem once_f {l : List Int} {i : Int} (h : Int) (c : Cur l i) (n : Int) (hn : n ≤ 4294967296) : ∃ r i' h', spec_l01Once.f l i h n = some (r, i', h') ∧ Cur l i' := by
  obtain ⟨r, i', h', e, c', _, _⟩ := Below_f h n hn c
  unfold spec_l01Once.f
  rw [e]
  exact ⟨_, _, _, rfl, c'⟩
theorem body_f {l : List Int} {i : Int} (h : Int) (c : Cur l i) (ns : List S34) (ha : aok ns = true) (hl : ns.length ≤ 2000) : ∃ r i' h', arenaBody l i h ns = some (r, i', h') ∧ Cur l i' ∧ aok r = true ∧ ns.length ≤ r.length ∧ r.length ≤ ns.length + 1 ∧ 1 ≤ r.length := by
  have atom : ∀ (i h : Int), Cur l i → ∃ r i' h', ((spec_l01PickInt.f l i h ([0, 1, 5, 1000, 5000, 10000, 10001] : List Int)).bind fun p => some ((putN ns ⟨1, p.1, 0, 0⟩).1, p.2.1, p.2.2)) = some (r, i', h') ∧ Cur l i' ∧ aok r = true ∧ ns.length ≤ r.length ∧ r.length ≤ ns.length + 1 ∧ 1 ≤ r.length := by
    intro i h c
    obtain ⟨p, i1, h1, e, c1, hp⟩ := pick_in h c [0, 1, 5, 1000, 5000, 10000, 10001] (by decide) (by decide)
    rw [e, Option.bind_some]
    refine ⟨_, _, _, rfl, c1, aok_put _ ha, (put_length _ _).1, (put_length _ _).2, ?_⟩
    by_cases hz : ns = []
    · subst hz
      show 1 ≤ (putN [] (⟨1, p, 0, 0⟩ : S34)).1.length
      rw [put_first (nums_in hp)]
      simp
    · have h1 := (put_length ns (⟨1, p, 0, 0⟩ : S34)).1
      have h2 : 0 < ns.length := List.length_pos_iff.2 hz
      simp only
      omega
  unfold arenaBody
  by_cases h2 : ns.length < 2
  · rw [if_pos h2, Option.bind_some, if_pos rfl]
    exact atom i h c
  · rw [if_neg h2]
    obtain ⟨r, i1, h1, e, c1⟩ := once_f h c 3 (by omega)
    rw [e, Option.bind_some]
    by_cases hr : r = true
    · rw [if_pos hr]
      exact atom i1 h1 c1
    · rw [if_neg hr]
      obtain ⟨q, i2, h2', e2, c2, b2, _⟩ := Below_f h1 8 (by omega) c1
      have hq := b2 (by omega)
      rw [e2, Option.bind_some, if_pos ⟨hq.1, by omega⟩]
      obtain ⟨x, i3, h3, e3, c3, _, _⟩ := Below_f h2' (ns.length : Int) (by omega) c2
      rw [e3, Option.bind_some]
      obtain ⟨y, i4, h4, e4, c4, _, _⟩ := Below_f h3 (ns.length : Int) (by omega) c3
      rw [e4, Option.bind_some]
      exact ⟨_, _, _, rfl, c4, aok_put _ ha, (put_length _ _).1, (put_length _ _).2, by have := (put_length ns (⟨2 + q, 0, x, if 2 + q = 3 ∨ 2 + q = 6 then 0 else y⟩ : S34)).1; simp only; omega⟩
theorem loop_f {l : List Int} : ∀ (d j : Nat) (ns : List S34) (i h : Int), j + d = 13 → j ≤ 12 → Cur l i → aok ns = true → ns.length ≤ j → (0 < j → 1 ≤ ns.length) → ∃ r i' h', arenaLoop d l i h (j : Int) ns = some (r, i', h') ∧ Cur l i' ∧ aok r = true ∧ 1 ≤ r.length ∧ r.length ≤ 12 := by
  intro d
  induction d with
  | zero => intro j ns i h hd hj; omega
  | succ d ih =>
    intro j ns i h hd hj c ha hn h1
    rw [arenaLoop]
    obtain ⟨b, i1, h1', e, c1, b1, _⟩ := Below_f h 10 (by omega) c
    have hb := b1 (by omega)
    rw [e, Option.bind_some, if_pos ⟨hb.1, by omega⟩]
    by_cases hlt : (j : Int) < 3 + b
    · rw [if_pos hlt]
      obtain ⟨r, i2, h2, e2, c2, a2, l1, l2, l3⟩ := body_f h1' c1 ns ha (by omega)
      rw [e2, Option.bind_some]
      obtain ⟨q, i3, h3, e3, c3, a3, m1, m2⟩ := ih (j + 1) r i2 h2 (by omega) (by omega) c2 a2 (by omega) (fun _ => l3)
      refine ⟨q, i3, h3, ?_, c3, a3, m1, m2⟩
      rw [← e3]
      rfl
    · rw [if_neg hlt]
      exact ⟨_, _, _, rfl, c1, ha, h1 (by omega), by omega⟩
theorem Arena_f {l : List Int} {i : Int} (h : Int) (c : Cur l i) : ∃ r i' h', spec_l03Arena.f l i h = some (r, i', h') ∧ Cur l i' ∧ aok r = true ∧ 1 ≤ r.length ∧ r.length ≤ 12 :=
  loop_f 13 0 [] i h (by omega) (by omega) c (by rfl) (by simp) (fun h => by omega)
theorem right_small {x : S34} {k : Int} (h : nodeB x.f0 x.f1 x.f2 x.f3 k = true) (hk : k ≤ 3000) : smallN x := by
  unfold nodeB at h
  unfold smallN
  by_cases h1 : x.f0 = 1
  · rw [if_pos h1] at h
    simp only [Bool.and_eq_true, decide_eq_true_eq] at h
    omega
  · rw [if_neg h1] at h
    by_cases h3 : x.f0 = 3 ∨ x.f0 = 6
    · rw [if_pos h3] at h
      simp only [Bool.and_eq_true, decide_eq_true_eq] at h
      omega
    · rw [if_neg h3] at h
      simp only [Bool.and_eq_true, decide_eq_true_eq] at h
      omega
theorem aok_small {l : List S34} (h : aok l = true) : ∀ x ∈ l, smallN x := by
  intro x hx
  obtain ⟨j, hj, rfl⟩ := List.mem_iff_getElem.1 hx
  obtain ⟨h1, h2⟩ := aok_parts h
  have := (h2 j hj).1
  unfold rightAt at this
  rw [nodeOf_get hj] at this
  exact right_small this (by omega)
theorem small_all {l : List S34} (h : ∀ x ∈ l, smallN x) : l.all wf1 = true := List.all_eq_true.2 (fun x hx => small_wf (h x hx))

/-! a drawn arena, right or not -/
theorem copyD_f {l : List S34} (h : l.length ≤ 1048576) : spec_l03Copy.f l = some l := by
  unfold spec_l03Copy.f
  simp only [Option.bind_some, List.length_nil, List.nil_append]
  rw [if_pos (by omega)]
theorem Any_f {l : List Int} {i : Int} (h : Int) (c : Cur l i) : ∃ r i' h', spec_l03Any.f l i h = some (r, i', h') ∧ Cur l i' ∧ 1 ≤ r.length ∧ r.length ≤ 13 ∧ ∀ x ∈ r, smallN x := by
  obtain ⟨k, i1, h1, e1, c1, b1, _⟩ := Below_f h 12 (by omega) c
  obtain ⟨y, i2, h2, e2, c2, b2, _⟩ := Below_f h1 60 (by omega) c1
  obtain ⟨ns, i3, h3, e3, c3, ha, n1, n2⟩ := Arena_f h2 c2
  have hy := b2 (by omega)
  have hs := aok_small ha
  unfold spec_l03Any.f
  rw [e1, Option.bind_some, e2, Option.bind_some, e3, Option.bind_some, copyD_f (show ns.length ≤ 1048576 by omega), Option.bind_some]
  simp only [Option.bind_some]
  have hn0 : ¬ (ns.length : Int) = 0 := by omega
  rw [if_neg hn0]
  have t0 : 0 ≤ Int.tmod y (ns.length : Int) := by rw [Int.tmod_eq_emod_of_nonneg hy.1]; exact Int.emod_nonneg _ (by omega)
  have t1 : Int.tmod y (ns.length : Int) < (ns.length : Int) := by rw [Int.tmod_eq_emod_of_nonneg hy.1]; exact Int.emod_lt_of_pos _ (by omega)
  have hat : smallN (rd_T34 ns (Int.tmod y (ns.length : Int))) := by
    obtain ⟨m, hm⟩ := Int.eq_ofNat_of_zero_le t0
    rw [hm, rdI (by omega)]
    exact hs _ (List.getElem_mem _)
  have hset : ∀ x : S34, smallN x → ∀ z ∈ ns.set (Int.tmod y (ns.length : Int)).toNat x, smallN z := by
    intro x hx z hz
    rcases List.mem_or_eq_of_mem_set hz with hz | hz
    · exact hs z hz
    · rw [hz]; exact hx
  by_cases k0 : k = 0
  · rw [if_pos k0, if_pos t0, if_pos t1]
    refine ⟨_, _, _, rfl, c3, by simp; omega, by simp; omega, hset _ ?_⟩
    have m0 : 0 ≤ Int.tmod y 11 ∧ Int.tmod y 11 < 11 := by rw [Int.tmod_eq_emod_of_nonneg hy.1]; omega
    exact ⟨by simp only; omega, hat.2.1, hat.2.2.1, hat.2.2.2⟩
  · rw [if_neg k0]
    by_cases k1 : k = 1
    · rw [if_pos k1, if_pos t0, if_pos t1]
      refine ⟨_, _, _, rfl, c3, by simp; omega, by simp; omega, hset _ ?_⟩
      have m0 : 0 ≤ Int.tmod y 9 ∧ Int.tmod y 9 < 9 := by rw [Int.tmod_eq_emod_of_nonneg hy.1]; omega
      exact ⟨hat.1, hat.2.1, by simp only; rw [w64 (by omega) (by omega)]; omega, hat.2.2.2⟩
    · rw [if_neg k1]
      by_cases k2 : k = 2
      · have m0 : 0 ≤ Int.tmod y 3 ∧ Int.tmod y 3 < 3 := by rw [Int.tmod_eq_emod_of_nonneg hy.1]; omega
        rw [if_pos k2, if_pos m0.1, if_pos (show Int.tmod y 3 < ((([(-1), 5, 1000000] : List Int).length : Nat) : Int) from m0.2), if_pos t0, if_pos t1]
        refine ⟨_, _, _, rfl, c3, by simp; omega, by simp; omega, hset _ ⟨hat.1, ?_, hat.2.2.1, hat.2.2.2⟩⟩
        simp only
        generalize Int.tmod y 3 = q at m0
        obtain ⟨m, rfl⟩ := Int.eq_ofNat_of_zero_le m0.1
        have hm : m = 0 ∨ m = 1 ∨ m = 2 := by omega
        rcases hm with rfl | rfl | rfl <;> decide
      · rw [if_neg k2]
        by_cases k3 : k = 3
        · rw [if_pos k3, if_pos (by omega), if_pos (by omega)]
          refine ⟨_, _, _, rfl, c3, by simp, by simp; omega, ?_⟩
          intro z hz
          rcases List.mem_append.1 hz with hz | hz
          · exact hs z hz
          · rw [List.mem_singleton.1 hz]
            have h0 : smallN (rd_T34 ns 0) := by
              have := rdI (l := ns) (i := 0) (by omega)
              simp only [Int.ofNat_eq_natCast, Int.natCast_zero] at this
              rw [show (0 : Int) = ((0 : Nat) : Int) from rfl, rdI (by omega)]
              exact hs _ (List.getElem_mem _)
            exact ⟨h0.1, h0.2.1, h0.2.2.1, h0.2.2.2⟩
        · rw [if_neg k3]
          exact ⟨_, _, _, rfl, c3, n1, by omega, hs⟩

/-! a right node is put: where it lies -/
theorem sameN_refl (x : S34) : sameN x x = true := by simp [sameN]
theorem put_ok {l : List S34} {x : S34} (h : aok l = true) (hl : l.length < 3000) (hb : nodeB x.f0 x.f1 x.f2 x.f3 (l.length : Int) = true) :
    ∃ (L : List S34) (m : Nat), putN l x = (L, (m : Int)) ∧ aok L = true ∧ m < L.length ∧ nodeOf L m = x ∧ l.length ≤ L.length ∧ L.length ≤ l.length + 1 ∧ ∀ j, j < l.length → nodeOf L j = nodeOf l j := by
  have hok := aok_put x h
  have hlen := put_length l x
  rcases atV_cases l x with ha | ⟨h0, h1, h2⟩
  · have e : putN l x = (l ++ [x], (l.length : Int)) := by
      unfold putN
      rw [if_pos hb, if_neg (by omega), if_neg (by omega)]
    rw [e] at hok hlen
    exact ⟨_, l.length, e, hok, by simp, nodeOf_last l x, hlen.1, hlen.2, fun j hj => nodeOf_app hj⟩
  · have e : putN l x = (l, ((atV l x).toNat : Int)) := by
      unfold putN
      rw [if_pos hb, if_pos h0]
      congr 1
      omega
    exact ⟨l, (atV l x).toNat, e, h, by omega, h2, Nat.le_refl _, by omega, fun j hj => rfl⟩
theorem put_ok4 {l : List S34} (a b c d : Int) (h : aok l = true) (hl : l.length < 3000) (hb : nodeB a b c d (l.length : Int) = true) :
    ∃ (L : List S34) (m : Nat), putN l ⟨a, b, c, d⟩ = (L, (m : Int)) ∧ aok L = true ∧ m < L.length ∧ nodeOf L m = ⟨a, b, c, d⟩ ∧ l.length ≤ L.length ∧ L.length ≤ l.length + 1 ∧ ∀ j, j < l.length → nodeOf L j = nodeOf l j := put_ok (x := ⟨a, b, c, d⟩) h hl hb
theorem putB_ok {l L : List S34} {x : S34} {m : Nat} (h : putN l x = (L, (m : Int))) : putB l false x = (L, false, (m : Int)) := by
  unfold putB
  rw [if_neg (by simp), h, if_neg (by simp only; omega)]
theorem end_ok {l L : List S34} {m : Nat} : endN l (L, false, (m : Int)) = (L, (m : Int)) := by
  unfold endN
  rw [if_neg (by simp)]
/-- what is there is found where it is -/
theorem put_there {l : List S34} {m : Nat} (h : aok l = true) (hm : m < l.length) : putN l (nodeOf l m) = (l, (m : Int)) := by
  have hp := (aok_parts h).2 m hm
  have ha := (atV_self hm).2 hp.2
  have hb := hp.1
  unfold rightAt at hb
  have hb2 : nodeB (nodeOf l m).f0 (nodeOf l m).f1 (nodeOf l m).f2 (nodeOf l m).f3 (l.length : Int) = true := by
    obtain ⟨a, b, c, d, e⟩ := node_parts hb
    unfold nodeB
    by_cases h1 : (nodeOf l m).f0 = 1
    · rw [if_pos h1]; have := b h1; simp; omega
    · rw [if_neg h1]
      have hc := c h1
      by_cases h3 : (nodeOf l m).f0 = 3 ∨ (nodeOf l m).f0 = 6
      · rw [if_pos h3]; have := d h3; simp; omega
      · rw [if_neg h3]; have := e h1 h3; simp; omega
  unfold putN
  rw [if_pos hb2, ha, if_pos (by omega)]

/-! a term's size and text are the same in an arena that has more -/
theorem sizes_app {l L : List S34} : ∀ {k : Nat}, (∀ j, j < k → nodeOf L j = nodeOf l j) → sizes L k = sizes l k := by
  intro k
  induction k with
  | zero => intro _; rfl
  | succ k ih =>
    intro h
    have hk := h k (by omega)
    rw [sizes, sizes, ih (fun j hj => h j (by omega))]
    congr 2
    unfold size1 rightAt
    rw [hk]
theorem szAt_app {l L : List S34} {k : Nat} (h : ∀ j, j ≤ k → nodeOf L j = nodeOf l j) : szAt L k = szAt l k := by
  unfold szAt
  rw [sizes_app (fun j hj => h j (by omega))]
  unfold size1 rightAt
  rw [h k (by omega)]
theorem termL_app {l L : List S34} : ∀ (n k : Nat), (∀ j, j ≤ k → nodeOf L j = nodeOf l j) → 0 < szAt l k → termL L n k = termL l n k := by
  intro n
  induction n with
  | zero => intro k _ _; rfl
  | succ n ih =>
    intro k h hp
    have hback := sz_pos_back l k hp
    have hr := (hback k (by omega)).1
    obtain ⟨_, _, h2, h3⟩ := right_parts hr
    rw [termL, termL, h k (by omega)]
    congr 1
    by_cases h1 : (nodeOf l k).f0 = 1
    · rw [if_pos h1, if_pos h1]
    · rw [if_neg h1, if_neg h1]
      obtain ⟨a, ha, hak⟩ := h2 h1
      rw [ha, Int.toNat_natCast, ih a (fun j hj => h j (by omega)) (hback a (by omega)).2]
      congr 1
      by_cases ho : oneKind (nodeOf l k).f0 = true
      · rw [if_pos ho, if_pos ho]
      · rw [if_neg ho, if_neg ho]
        obtain ⟨b, hb, hbk⟩ := h3 h1 (by simpa using ho)
        rw [hb, Int.toNat_natCast, ih b (fun j hj => h j (by omega)) (hback b (by omega)).2]
theorem same_ev (L : List S34) (hl : L.length ≤ 1048576) : ∀ (d i : Nat), L.length - i = d → i ≤ L.length → Ev (fun k => laws_sameArena.l0 k (i : Int) L L) true := by
  intro d
  induction d with
  | zero =>
    intro i hd hi
    exact ev_end (fun k => by rw [laws_sameArena.l0, if_neg (by omega)])
  | succ d ih =>
    intro i hd hi
    refine Ev.step (fun k => by rw [laws_sameArena.l0, if_pos (by omega), if_pos (by omega), if_pos (by omega), if_neg (by simp), w64 (x := (i : Int) + 1) (by omega) (by omega)]) ?_
    exact ih (i + 1) (by omega) (by omega)
theorem same_f (L : List S34) (hl : L.length ≤ 1048576) : Ev (fun k => laws_sameArena.f k L L) true := evT rfl (same_ev L hl L.length 0 (by omega) (by omega))

/-! a term's text is read back -/
theorem szAt_val {l : List S34} (h : aok l = true) {m : Nat} (hm : m < l.length) : szAt l m = mn (if (nodeOf l m).f0 = 1 then 1 else if oneKind (nodeOf l m).f0 = true then 1 + szAt l (nodeOf l m).f2.toNat else 1 + szAt l (nodeOf l m).f2.toNat + szAt l (nodeOf l m).f3.toNat) 100000 := by
  have hp := (aok_parts h).2
  rw [size1_eq, if_pos]
  refine ⟨(hp m hm).1, ?_⟩
  by_cases h0 : m = 0
  · exact .inl h0
  · right
    have := sz_all l (m - 1) (fun j hj => (hp j (by omega)).1)
    omega
theorem sz_aok {l : List S34} (h : aok l = true) {m : Nat} (hm : m < l.length) : 0 < szAt l m := sz_all l m (fun j hj => ((aok_parts h).2 j (by omega)).1)
theorem mn_small {x : Int} (h : x ≤ 2000) : mn x 100000 = x := by
  have := mn_le x 100000
  omega
theorem drop_next {t : ByteArray} {p : Nat} {xs ys : List Int} (h : (bytesOf t).drop p = xs ++ ys) (hp : p ≤ t.size) : (bytesOf t).drop (p + xs.length) = ys ∧ p + xs.length ≤ t.size := by
  constructor
  · rw [← List.drop_drop, h, List.drop_left]
  · have := congrArg List.length h
    rw [List.length_drop, List.length_append, bytesOf_length] at this
    omega
def Back (a : List S34) (n k : Nat) (l : List S34) (r : List S34 × Int × Int) (p : Nat) : Prop :=
  ∃ (L : List S34) (m : Nat), r = (L, (m : Int), (p : Int) + ((termL a n k).length : Int)) ∧ aok L = true ∧ m < L.length ∧ szAt L m = szAt a k ∧ (∀ n', m < n' → termL L n' m = termL a n k) ∧ l.length ≤ L.length ∧ (L.length : Int) ≤ (l.length : Int) + szAt a k ∧ ∀ j, j < l.length → nodeOf L j = nodeOf l j
theorem one_node {kind x k : Int} (hk : kind = 3 ∨ kind = 6) (hx : 0 ≤ x ∧ x < k) : nodeB kind 0 x 0 k = true := by
  unfold nodeB
  rw [if_neg (by omega), if_pos hk]
  simp
  omega
theorem two_node {kind x y k : Int} (hk : (2 ≤ kind ∧ kind ≤ 9) ∧ ¬ (kind = 3 ∨ kind = 6)) (hx : 0 ≤ x ∧ x < k) (hy : 0 ≤ y ∧ y < k) : nodeB kind 0 x y k = true := by
  unfold nodeB
  rw [if_neg (by omega), if_neg hk.2]
  simp
  omega
theorem atom_node {n k : Int} (hx : 0 ≤ n ∧ n ≤ 999999) : nodeB 1 n 0 0 k = true := by
  unfold nodeB
  rw [if_pos rfl]
  simp
  omega
theorem round_term (t : ByteArray) (a : List S34) (ha : aok a = true) : ∀ (d k n p : Nat) (rest : List Int), k < a.length → k < n → szAt a k ≤ (d : Int) → szAt a k ≤ 2000 → p ≤ t.size → (bytesOf t).drop p = termL a n k ++ rest →
    (∀ l : List S34, aok l = true → (l.length : Int) + szAt a k ≤ 2999 → Back a n k l (rdS t d l (p : Int)) p) ∧ rdS t d a (p : Int) = (a, (k : Int), (p : Int) + ((termL a n k).length : Int)) := by
  intro d
  induction d with
  | zero => intro k n p rest hk hn hd; have := sz_aok ha hk; omega
  | succ d ih =>
    intro k n p rest hk hn hd hc hp h
    have hpos := sz_aok ha hk
    obtain ⟨hr, s1, s2, s3⟩ := sz_split hpos hc
    have hthere := put_there ha hk
    obtain ⟨q0, q1, q2, q3, q4⟩ := node_parts hr
    obtain ⟨g0, g1, g2, g3, hnode⟩ : ∃ g0 g1 g2 g3, nodeOf a k = ⟨g0, g1, g2, g3⟩ := ⟨_, _, _, _, rfl⟩
    rw [hnode] at s1 s2 s3 q0 q1 q2 q3 q4 hthere
    simp only at s1 s2 s3 q0 q1 q2 q3 q4
    obtain ⟨n, rfl⟩ : ∃ n', n = n' + 1 := ⟨n - 1, by omega⟩
    obtain ⟨kn, rfl⟩ := Int.eq_ofNat_of_zero_le (show 0 ≤ g0 by omega)
    have eT : termL a (n + 1) k = varN kn ++ (if (kn : Int) = 1 then varN g1.toNat else termL a n g2.toNat ++ (if oneKind (kn : Int) = true then [] else termL a n g3.toNat)) := by
      rw [termL, hnode, Int.toNat_natCast]
    rw [eT, List.append_assoc] at h
    have hv := readVar_at t p (n := kn) (by omega) _ hp h
    obtain ⟨h', hp'⟩ := drop_next h hp
    generalize hP : p + (varN kn).length = P at h' hp'
    rw [show (p : Int) + ((varN kn).length : Int) = (P : Int) by omega] at hv
    have hstep : ∀ l : List S34, rdS t (d + 1) l (p : Int) = _ := fun l => by rw [rdS, hv]
    simp only at hstep
    by_cases k1 : (kn : Int) = 1
    · obtain rfl : kn = 1 := by omega
      rw [if_pos k1] at h' eT
      obtain ⟨gn, rfl⟩ := Int.eq_ofNat_of_zero_le (show 0 ≤ g1 by have := q1 k1; omega)
      rw [Int.toNat_natCast] at h' eT
      have hq := q1 k1
      have hv2 := readVar_at t P (n := gn) (by omega) _ hp' h'
      have e2 : g2 = 0 := hq.2.2.1
      have e3 : g3 = 0 := hq.2.2.2
      subst e2
      subst e3
      have hlen : ((p : Int) + ((termL a (n + 1) k).length : Int)) = (P : Int) + ((varN gn).length : Int) := by rw [eT, List.length_append]; omega
      have hS : ∀ l : List S34, rdS t (d + 1) l (p : Int) = ((putN l ⟨1, (gn : Int), 0, 0⟩).1, (putN l ⟨1, (gn : Int), 0, 0⟩).2, (P : Int) + ((varN gn).length : Int)) := by
        intro l
        rw [hstep l, if_pos ⟨trivial, by omega, by omega⟩, if_pos k1, hv2]
        simp only
        rw [if_pos trivial]
      constructor
      · intro l hl hll
        obtain ⟨L, m, ep, aL, hm, nm, le1, le2, keep⟩ := put_ok4 1 (gn : Int) 0 0 hl (by omega) (atom_node (by omega))
        have hs := szAt_val aL hm
        rw [nm] at hs
        simp only [if_true] at hs
        rw [mn_small (by omega)] at hs
        refine ⟨L, m, by rw [hS l, ep, hlen], aL, hm, by rw [hs, s1 k1], ?_, le1, by omega, keep⟩
        intro n' hn'
        obtain ⟨n', rfl⟩ : ∃ n2, n' = n2 + 1 := ⟨n' - 1, by omega⟩
        rw [eT, termL, nm]
        simp
      · rw [hS a, hlen]
        have : (⟨1, (gn : Int), 0, 0⟩ : S34) = ⟨((1 : Nat) : Int), (gn : Int), 0, 0⟩ := rfl
        rw [this, hthere]
    · rw [if_neg k1] at h' eT
      have hq2 := q2 k1
      have e1 : g1 = 0 := hq2.1
      subst e1
      by_cases ho : oneKind (kn : Int) = true
      · rw [if_pos ho, List.append_nil] at h' eT
        have hk3 : (kn : Int) = 3 ∨ (kn : Int) = 6 := by simpa [oneKind] using ho
        obtain ⟨c, hc2, hck, hcp, hcs⟩ := s2 k1 ho
        subst hc2
        have e3 : g3 = 0 := q3 hk3
        subst e3
        rw [Int.toNat_natCast] at h' eT
        obtain ⟨i1, i2⟩ := ih c n P rest (by omega) (by omega) (by omega) (by omega) hp' h'
        have hlen : ((p : Int) + ((termL a (n + 1) k).length : Int)) = (P : Int) + ((termL a n c).length : Int) := by rw [eT, List.length_append]; omega
        constructor
        · intro l hl hll
          obtain ⟨L1, m1, er, a1, hm1, z1, t1, l1, l2, keep1⟩ := i1 l hl (by omega)
          have hne : ¬ (m1 : Int) < 0 := by omega
          obtain ⟨L, m, ep, aL, hm, nm, le1, le2, keep⟩ := put_ok4 (kn : Int) 0 (m1 : Int) 0 a1 (by omega) (one_node hk3 (by omega))
          have hrm := ((aok_parts aL).2 m hm).1
          obtain ⟨_, _, hr2, _⟩ := right_parts hrm
          rw [nm] at hr2
          obtain ⟨m', hm', hml⟩ := hr2 k1
          have hm' : (m1 : Int) = (m' : Int) := hm'
          obtain rfl : m1 = m' := by omega
          have zz : szAt L m1 = szAt L1 m1 := szAt_app (fun j hj => keep j (by omega))
          have hs := szAt_val aL hm
          rw [nm] at hs
          simp only [if_neg k1, if_pos ho, Int.toNat_natCast] at hs
          rw [mn_small (by omega)] at hs
          refine ⟨L, m, ?_, aL, hm, by omega, ?_, by omega, by omega, fun j hj => (keep j (by omega)).trans (keep1 j hj)⟩
          · rw [hstep l, if_pos ⟨trivial, by omega, by omega⟩, if_neg k1, er]
            simp only
            rw [if_neg hne, if_pos hk3, ep, hlen]
          · intro n' hn'
            obtain ⟨n', rfl⟩ : ∃ n2, n' = n2 + 1 := ⟨n' - 1, by omega⟩
            rw [eT, termL, nm]
            simp only [if_neg k1, if_pos ho, Int.toNat_natCast, List.append_nil]
            rw [termL_app n' m1 (fun j hj => keep j (by omega)) (by omega), t1 n' (by omega)]
        · have hne : ¬ (c : Int) < 0 := by omega
          rw [hstep a, if_pos ⟨trivial, by omega, by omega⟩, if_neg k1, i2]
          simp only
          rw [if_neg hne, if_pos hk3, hthere, hlen]
      · have ho' : oneKind (kn : Int) = false := by simpa using ho
        have hk3 : ¬ ((kn : Int) = 3 ∨ (kn : Int) = 6) := by simpa [oneKind] using ho'
        rw [if_neg ho] at h' eT
        obtain ⟨c, e, hc2, hck, hcp, he3, hek, hep, hcs⟩ := s3 k1 ho'
        subst hc2
        subst he3
        rw [Int.toNat_natCast, Int.toNat_natCast] at h' eT
        rw [List.append_assoc] at h'
        obtain ⟨i1, i2⟩ := ih c n P _ (by omega) (by omega) (by omega) (by omega) hp' h'
        obtain ⟨h'', hp''⟩ := drop_next h' hp'
        generalize hQ : P + (termL a n c).length = Q at h'' hp''
        rw [show (P : Int) + ((termL a n c).length : Int) = (Q : Int) by omega] at i2
        obtain ⟨j1, j2⟩ := ih e n Q rest (by omega) (by omega) (by omega) (by omega) hp'' h''
        have hlen : ((p : Int) + ((termL a (n + 1) k).length : Int)) = (Q : Int) + ((termL a n e).length : Int) := by rw [eT, List.length_append, List.length_append]; omega
        constructor
        · intro l hl hll
          obtain ⟨L1, m1, er, a1, hm1, z1, t1, l1, l2, keep1⟩ := i1 l hl (by omega)
          rw [show (P : Int) + ((termL a n c).length : Int) = (Q : Int) by omega] at er
          obtain ⟨L2, m2, er2, a2, hm2, z2, t2, l3, l4, keep2⟩ := j1 L1 a1 (by omega)
          have hne : ¬ (m1 : Int) < 0 := by omega
          have hne2 : ¬ (m2 : Int) < 0 := by omega
          obtain ⟨L, m, ep, aL, hm, nm, le1, le2, keep⟩ := put_ok4 (kn : Int) 0 (m1 : Int) (m2 : Int) a2 (by omega) (two_node ⟨by omega, hk3⟩ (by omega) (by omega))
          have hrm := ((aok_parts aL).2 m hm).1
          obtain ⟨_, _, hr2, hr3⟩ := right_parts hrm
          rw [nm] at hr2 hr3
          obtain ⟨m', hm', hml⟩ := hr2 k1
          obtain ⟨m'', hm'', hml2⟩ := hr3 k1 ho'
          have hm' : (m1 : Int) = (m' : Int) := hm'
          have hm'' : (m2 : Int) = (m'' : Int) := hm''
          obtain rfl : m1 = m' := by omega
          obtain rfl : m2 = m'' := by omega
          have zz : szAt L m1 = szAt L1 m1 := szAt_app (fun j hj => (keep j (by omega)).trans (keep2 j (by omega)))
          have zz2 : szAt L m2 = szAt L2 m2 := szAt_app (fun j hj => keep j (by omega))
          have hs := szAt_val aL hm
          rw [nm] at hs
          simp only [if_neg k1, if_neg ho, Int.toNat_natCast] at hs
          rw [mn_small (by omega)] at hs
          refine ⟨L, m, ?_, aL, hm, by omega, ?_, by omega, by omega, fun j hj => ((keep j (by omega)).trans (keep2 j (by omega))).trans (keep1 j hj)⟩
          · rw [hstep l, if_pos ⟨trivial, by omega, by omega⟩, if_neg k1, er]
            simp only
            rw [if_neg hne, if_neg hk3, er2]
            simp only
            rw [if_neg hne2, ep, hlen]
          · intro n' hn'
            obtain ⟨n', rfl⟩ : ∃ n2, n' = n2 + 1 := ⟨n' - 1, by omega⟩
            rw [eT, termL, nm]
            simp only [if_neg k1, if_neg ho, Int.toNat_natCast]
            rw [termL_app n' m1 (fun j hj => (keep j (by omega)).trans (keep2 j (by omega))) (by omega), t1 n' (by omega), termL_app n' m2 (fun j hj => keep j (by omega)) (by omega), t2 n' (by omega)]
        · have hne : ¬ (c : Int) < 0 := by omega
          have hne2 : ¬ (e : Int) < 0 := by omega
          rw [hstep a, if_pos ⟨trivial, by omega, by omega⟩, if_neg k1, i2]
          simp only
          rw [if_neg hne, if_neg hk3, j2]
          simp only
          rw [if_neg hne2, hthere, hlen]
/-- a told text is read: into an arena with nothing, and into its own -/
theorem told_read {a : List S34} (ha : aok a = true) {k : Nat} (hk : k < a.length) (hc : szAt a k ≤ 2000) (hl : a.length ≤ 900) :
    (∃ (L : List S34) (m : Nat), readS [] (strOfNums (termL a (k + 1) k)) = (L, (m : Int), true) ∧ aok L = true ∧ m < L.length ∧ szAt L m = szAt a k ∧ termText L (m : Int) = (strOfNums (termL a (k + 1) k), true)) ∧ readS a (strOfNums (termL a (k + 1) k)) = (a, (k : Int), true) := by
  have hpos := sz_aok ha hk
  have hb : bytesOf (strOfNums (termL a (k + 1) k)) = termL a (k + 1) k := bytesOf_str (termL_range a (k + 1) k)
  have hsz : (strOfNums (termL a (k + 1) k)).size = (termL a (k + 1) k).length := strOfNums_size _
  have htt : termText a (k : Int) = (strOfNums (termL a (k + 1) k), true) := by
    have hz : Go.Proofs.Ytkckdibalopagaa.SFnTerms.Hand.sizeOf a (k : Int) = szAt a k := by unfold Go.Proofs.Ytkckdibalopagaa.SFnTerms.Hand.sizeOf; rw [if_pos (by omega), Int.toNat_natCast]
    unfold termText
    rw [if_pos (by omega), Int.toNat_natCast]
  generalize ht : strOfNums (termL a (k + 1) k) = t at hb hsz htt
  obtain ⟨r1, r2⟩ := round_term t a ha 2001 k (k + 1) 0 [] hk (by omega) (by omega) hc (by omega) (by rw [List.drop_zero, hb, List.append_nil])
  have hemp : aok ([] : List S34) = true := rfl
  obtain ⟨L, m, er, aL, hm, z1, t1, _, _, _⟩ := r1 [] hemp (by simp; omega)
  have e0 : ((0 : Nat) : Int) = 0 := rfl
  rw [e0] at er r2
  have hend : ((0 : Int) + ((termL a (k + 1) k).length : Int) != (t.size : Int)) = false := by rw [hsz]; simp
  have htL : termText L (m : Int) = (t, true) := by
    have hz : Go.Proofs.Ytkckdibalopagaa.SFnTerms.Hand.sizeOf L (m : Int) = szAt L m := by unfold Go.Proofs.Ytkckdibalopagaa.SFnTerms.Hand.sizeOf; rw [if_pos (by omega), Int.toNat_natCast]
    unfold termText
    rw [if_pos (by omega), Int.toNat_natCast, t1 (m + 1) (by omega), ht]
  refine ⟨⟨L, m, ?_, aL, hm, z1, htL⟩, ?_⟩
  · unfold readS
    rw [er]
    simp only
    rw [hend]
    unfold chkT
    rw [if_neg (by simp only; omega), if_neg (by decide)]
    simp only
    rw [htL, if_neg (by simp), if_neg (by simp)]
  · unfold readS
    rw [r2]
    simp only
    rw [hend]
    unfold chkT
    rw [if_neg (by simp only; omega), if_neg (by decide)]
    simp only
    rw [htt, if_neg (by simp), if_neg (by simp)]

/-! an arena in a block that stays as it is -/
def AB (wr : World) (g : Nat) (A : Option Addr) (c : Nat) (L : List S34) : Prop := wr.heap[g]? = some (.cells #[.slice A L.length c] 26 (0, 0)) ∧ Kd.C k34 wr A L.length L ∧ L.length ≤ c
theorem AB.below {wr w1 : World} {g : Nat} {A : Option Addr} {c : Nat} {L : List S34} (h : AB wr g A c L) (hb : Below wr.heap.size wr w1) : AB w1 g A c L := ⟨blk_below h.1 hb, Kd.C_below h.2.1 hb, h.2.2⟩
theorem AB.cell {wr : World} {g : Nat} {A : Option Addr} {c : Nat} {L : List S34} (h : AB wr g A c L) : wr.cell? ⟨g, 0, none⟩ = some (.slice A L.length c) := (blk_cell h.1 0).trans rfl
theorem AB.row {wr : World} {g : Nat} {A : Option Addr} {c : Nat} {L : List S34} (h : AB wr g A c L) : Kd.C k34 wr A L.length L := h.2.1
theorem AB.cap {wr : World} {g : Nat} {A : Option Addr} {c : Nat} {L : List S34} (h : AB wr g A c L) : L.length ≤ c := h.2.2
theorem AB.first {w3 w4 : World} {base ga : Nat} {ok : Nat → Prop} {A : Option Addr} {c : Nat} {L : List S34} (ho : Kd.R k34 34 w3 base ok (.slice A L.length c) L) (hb : w4.heap[ga]? = some (.cells #[.slice none 0 0] 26 (0, 0))) (hg : ga = w3.heap.size) (h4 : Below w3.heap.size w3 w4) : AB (w4.setCell ⟨ga, 0, none⟩ (.slice A L.length c)) ga A c L := by
  obtain ⟨_, hc, hC⟩ := Kd.R_reads' ho
  exact ⟨blk_put hb 0 _ rfl, Kd.C_below hC (below_set h4 (by show w3.heap.size ≤ ga; omega)), hc⟩
theorem AB.keepB {w3 w4 : World} {ga : Nat} {u : Value} (hg : ga = w3.heap.size) (h4 : Below w3.heap.size w3 w4) : Below w3.heap.size w3 (w4.setCell ⟨ga, 0, none⟩ u) := below_set h4 (by show w3.heap.size ≤ ga; omega)

theorem cell_keep {W W1 : World} {ad : Addr} {v : Value} (hb : Below W.heap.size W W1) (h : W.cell? ad = some v) : W1.cell? ad = some v := (hb.cell (World.block_lt_of_cell? W _ h)).trans h
theorem AB.stored {wd w4 : World} {ga : Nat} {A : Option Addr} {c : Nat} {L : List S34} (hb : w4.heap[ga]? = some (.cells #[.slice none 0 0] 26 (0, 0))) (hR : Kd.R k34 34 w4 wd.heap.size (fun k => k ≠ ga) (.slice A L.length c) L) : AB (w4.setCell ⟨ga, 0, none⟩ (.slice A L.length c)) ga A c L := by
  obtain ⟨_, hc, hC⟩ := Kd.R_reads' (Kd.R_far (p := ⟨ga, 0, none⟩) hR (fun k hk => hk) (.slice A L.length c))
  exact ⟨blk_put hb 0 _ rfl, hC, hc⟩
theorem readNil {t : ByteArray} {r1 : List S34} {r2 : Int} {r3 : Bool} (w : World) (h : impl_ReadTerm.f [] t = some (r1, r2, r3)) :
    Calls Try.prog 66 #[.agg #[.slice none 0 0], .string t] w fun e w' => ∃ v0_ : Value, e = .returned (.tuple #[.agg #[v0_], .int .i64 r2, .bool r3]) ∧ Kd.R k34 34 w' w.heap.size (fun _ => True) v0_ r1 ∧ Below w.heap.size w w' := impl_ReadTerm.calls none 0 [] t r1 r2 r3 w (Kd.C_nil k34 _) (Nat.le_refl _) h
set_option maxHeartbeats 8000000 in
set_option maxRecDepth 100000 in
theorem law_terms (A0 : Option Addr) (c0 : Nat) (l0 : List Int) (k : Nat) (L Lb Lc Ld Le X : List S34) (ps : List Int) (p0 x j ic at_ ne : Int) (t sx : ByteArray) (ok right again may : Bool) (w : World) (hr0 : Kd.C (Kd.int .u8) w A0 l0.length l0) (hc0 : l0.length ≤ c0)
    (hbig : (l0.length : Int) ≤ 1048576) (h0 : spec_DrawArena.f k l0 = some L) (h1 : spec_DrawPlaces.f k l0 = some ps) (hlen : ps.length = 12) (e0 : rd ps 0 = p0) (hx : Int.tmod p0 (L.length : Int) = x) (hx0 : 0 ≤ x ∧ x < (L.length : Int)) (h2 : impl_TermText.f k L x = some (t, ok))
    (h3 : impl_ReadTerm.f [] t = some (Lb, j, right)) (h4 : impl_ReadTerm.f L t = some (Lc, ic, again)) (h5 : impl_Put.f L (rd_T34 L x).f0 (rd_T34 L x).f1 (rd_T34 L x).f2 (rd_T34 L x).f3 = some (Ld, at_)) (h6 : spec_DrawReadTerm.f k l0 = some (X, sx)) (h7 : impl_ReadTerm.f X sx = some (Le, ne, may)) (h8 : spec_ReadTerm.f X sx = some (Le, ne, may))
    (hF : ok = false → ∃ z, impl_SizeOf.f k L x = some z ∧ 2000 < z)
    (hT : ok = true → right = true ∧ again = true ∧ ic = x ∧ Lc = L ∧ Ld = L ∧ at_ = x ∧ (∃ b2, impl_TermText.f k Lb j = some (t, b2)) ∧ laws_sameArena.f k L L = some true ∧ laws_sameArena.f k Le Le = some true ∧ (∃ z, impl_SizeOf.f k Lb j = some z ∧ impl_SizeOf.f k L x = some z) ∧ impl_ArenaOk.f Lb = some true) :
    Calls Try.prog 13 #[.slice A0 l0.length c0] w fun e w' => e = .returned (.bool true) ∧ Below w.heap.size w w' := by
  have hu26 := Try.underlying26
  have HR0 := Aside0.mk hr0
  have HC0 := Aside0.mk hc0
  have HBIG : Aside0 (laws_big.f l0 = some false) := ⟨by unfold laws_big.f; rw [decide_eq_false (by omega)]⟩
  have H0 := Aside0.mk h0
  have H1 := Aside0.mk h1
  have H2 := Aside0.mk h2
  have H3 := Aside0.mk h3
  have H4 := Aside0.mk h4
  have H5 := Aside0.mk h5
  have H6 := Aside0.mk h6
  have H7 := Aside0.mk h7
  have H8 := Aside0.mk h8
  have HLEN := Aside0.mk hlen
  have HX0 := Aside0.mk hx0
  have HF := Aside0.mk hF
  have HT := Aside0.mk hT
  have P0 := Aside0.mk e0
  have hn0f : ((L.length : Int) = 0) = False := eq_false (by omega)
  have hn0g : (L = []) = False := eq_false (by intro e; rw [e] at hx0; simp at hx0; omega)
  clear hr0 hc0 hbig e0 h0 h1 h2 h3 h4 h5 h6 h7 h8 hlen hx0 hF hT
  go_enter Try.func13, Try.ntmps13
  go_wp2_with (first | (go_at_call 14; ((with_reducible refine (laws_big.calls A0 c0 l0 false _ HR0.out HC0.out HBIG.out).mono ?_); rintro e w2 ⟨rfl, hd_⟩); have HB2 := Aside0.mk hd_.below; clear hd_) | (go_at_call 46; ((with_reducible refine (spec_DrawArena.calls k A0 c0 l0 L _ (Kd.C_below HR0.out HB2.out) HC0.out H0.out).mono ?_); rintro e w3 ⟨v0, rfl, ho, hb⟩); obtain ⟨A3, c3, rfl, _, _⟩ := Kd.R_reads ho; have HO3 := Aside0.mk ho; have HB3 := Aside0.mk (below_step HB2.out hb); clear ho hb) | ((with_reducible refine gate_dst (N := 3) rfl ?_); refine box_event ?hg (N := 3) ?hd (cs := #[.slice none 0 0]) (t := 26) ?hr ?_; (case hd => rfl); (case hg => rfl); (case hr => first | (go_simp; done) | (go_simp; rfl)); intro g3 hg1 w4 hbox hb; have BK3 := Aside0.mk hbox; have HC3 := Aside0.mk hb; have G3 := Aside0.mk hg1; clear hg1 hbox hb; have X30 := Aside0.mk (AB.first HO3.out BK3.out G3.out HC3.out); have KB := Aside0.mk (AB.keepB (u := .slice A3 L.length c3) G3.out HC3.out); have HB4 := Aside0.mk (below_step HB3.out KB.out); have hca4 : w4.cell? ⟨g3, 0, none⟩ = some (.slice none 0 0) := (blk_cell BK3.out 0).trans rfl; have hfa4 := blk_frozen BK3.out 0; clear KB))
  have hga4 := X30.out.cell
  generalize w4.setCell ⟨g3, 0, none⟩ (.slice A3 L.length c3) = wa at X30 HB4 hga4 ⊢
  clear hca4 hfa4 BK3 HC3 HO3 G3
  refine start_ (n := 9) (S := fun w' => w'.cell? ⟨g3, 0, none⟩ = some (.slice A3 L.length c3)) (ds := []) #[false, false, false, false, false, false, false, false, false] (by kernel_rfl) rfl rfl (hga4) (fun hHeld => ?_)
  refine pure_ (i := 0) (N := some 29) (v := ?_) (a' := ?_) #[true, false, false, false, false, false, false, false, false] rfl rfl (by kernel_rfl) (fun _ _ _ h => h) (Or.inl ⟨by rfl, ?_⟩) ?_ ?_
  rotate_left
  · intro w'
    go_simp
    with_reducible rfl
  rotate_left
  · simp only [Act.put, List.setIfInBounds_toArray, List.set_cons_zero, List.set_cons_succ, i64_w, i32_w]
    rfl
  refine pure_ (i := 4) (N := some 33) (v := ?_) (a' := ?_) #[true, false, false, false, true, false, false, false, false] rfl rfl (by kernel_rfl) (fun _ _ _ h => h) (Or.inl ⟨by rfl, ?_⟩) ?_ ?_
  rotate_left
  · intro w'
    go_simp
    with_reducible rfl
  rotate_left
  · simp only [Act.put, List.setIfInBounds_toArray, List.set_cons_zero, List.set_cons_succ, i64_w, i32_w]
    rfl
  refine take_ (i := 5) (N := some 34) (v := ?_) (a' := ?_) #[true, false, false, false, true, true, false, false, false] rfl rfl (by kernel_rfl) (fun _ _ _ h => h) (Or.inl ⟨by rfl, ?_⟩) hHeld ?_ ?_
  rotate_left
  · intro w' s0
    go_simp
    with_reducible rfl
  rotate_left
  · simp only [Act.put, List.setIfInBounds_toArray, List.set_cons_zero, List.set_cons_succ, i64_w, i32_w]
    rfl
  refine pure_ (i := 6) (N := some 35) (v := ?_) (a' := ?_) #[true, false, false, false, true, true, true, false, false] rfl rfl (by kernel_rfl) (fun _ _ _ h => h) (Or.inl ⟨by rfl, ?_⟩) ?_ ?_
  rotate_left
  · intro w'
    go_simp
    with_reducible rfl
  rotate_left
  · simp only [Act.put, List.setIfInBounds_toArray, List.set_cons_zero, List.set_cons_succ, i64_w, i32_w]
    rfl
  refine one_ (i := 1) (N := some 30) #[true, true, false, false, true, true, true, false, false] rfl rfl (by kernel_rfl) (by decide) (fun K hK => ?_)
  refine goes_ Try.func17 (by kernel_rfl) rfl #[.slice A0 l0.length c0] (by rfl) rfl rfl (by simp only [List.map_toArray, List.map_cons, List.map_nil]; rfl) ?_
  with_reducible refine (spec_DrawPlaces.calls k A0 c0 l0 ps _ (Kd.C_below HR0.out (below_drew1 HB4.out)) HC0.out H1.out).mono ?_
  rintro e w5 ⟨vp, rfl, ho, hb⟩
  refine ⟨_, rfl, ?_⟩
  obtain ⟨Ap, cp, rfl, hcp, hCp⟩ := Kd.R_reads ho
  obtain ⟨adp, ea0, y0⟩ := Kd.at_int hCp 0 (by omega) (by have := HLEN.out; omega)
  rw [P0.out] at y0
  cases ea0
  have hp05 : w5.cell? adp = some (.int .i64 p0) := (by first | exact y0 | simpa using y0)
  have HBD := Aside0.mk (below_step (below_drew (Below.refl wa.heap.size wa)) hb)
  have hga5 := cell_keep HBD.out hga4
  have hl1 : (0 : Int) < (ps.length : Int) := by have := HLEN.out; omega
  have hl4 : 0 < ps.length := by have := HLEN.out; omega
  clear ho hb hcp hCp y0
  refine hK.out _ _ (hga5) (fun hHeld => ?_)
  clear hK K
  refine norm_ (a' := ?_) ?_ ?_
  rotate_left
  · show Act.put _ (some 30) _ = _
    simp only [Act.put, List.setIfInBounds_toArray, List.set_cons_zero, List.set_cons_succ, i64_w, i32_w]
    rfl
  refine pure_ (i := 2) (N := some 31) (v := ?_) (a' := ?_) #[true, true, true, false, true, true, true, false, false] rfl rfl (by kernel_rfl) (fun _ _ _ h => h) (Or.inl ⟨by rfl, ?_⟩) ?_ ?_
  rotate_left
  · intro w'
    go_simp
    with_reducible rfl
  rotate_left
  · simp only [Act.put, List.setIfInBounds_toArray, List.set_cons_zero, List.set_cons_succ, i64_w, i32_w]
    rfl
  refine one_ (i := 3) (N := some 32) #[true, true, true, true, true, true, true, false, false] rfl rfl (by kernel_rfl) (by decide) (fun K hK => ?_)
  refine value_ (w1 := ?_) (v := ?_) (by rfl) rfl ?_ ?_
  rotate_left 2
  · go_simp
    constructor
    · rfl
    · rfl
  refine hK.out _ _ (hga5) (fun hHeld => ?_)
  clear hK K
  refine norm_ (a' := ?_) ?_ ?_
  rotate_left
  · show Act.put _ (some 32) _ = _
    simp only [Act.put, List.setIfInBounds_toArray, List.set_cons_zero, List.set_cons_succ, i64_w, i32_w]
    rfl
  refine pure_ (i := 7) (N := some 36) (v := ?_) (a' := ?_) #[true, true, true, true, true, true, true, true, false] rfl rfl (by kernel_rfl) (fun _ _ _ h => h) (Or.inl ⟨by rfl, ?_⟩) ?_ ?_
  rotate_left
  · intro w'
    go_simp
    with_reducible rfl
  rotate_left
  · simp only [Act.put, List.setIfInBounds_toArray, List.set_cons_zero, List.set_cons_succ, i64_w, i32_w]
    rfl
  refine pure_ (i := 8) (N := some 4) (v := ?_) (a' := ?_) #[true, true, true, true, true, true, true, true, true] rfl rfl (by kernel_rfl) (fun _ _ _ h => h) (Or.inl ⟨by rfl, ?_⟩) ?_ ?_
  rotate_left
  · intro w'
    go_simp
    with_reducible rfl
  rotate_left
  · simp only [Act.put, List.setIfInBounds_toArray, List.set_cons_zero, List.set_cons_succ, i64_w, i32_w]
    rfl
  refine done_ (by kernel_rfl) ?_
  have X35 := Aside0.mk (X30.out.below HBD.out)
  have HB5 := Aside0.mk (below_step HB4.out HBD.out)
  clear hp05 hga4 HBD X30
  go_wp2_with (first | (go_at_call 32; ((with_reducible refine (impl_TermText.calls k A3 c3 L x t ok _ X35.out.row X35.out.cap H2.out).mono ?_); rintro e w6 ⟨rfl, hb⟩); have X36 := Aside0.mk (X35.out.below hb); have HB6 := Aside0.mk (below_step HB5.out hb); clear hb) | (go_at_call 66; ((with_reducible refine (readNil _ H3.out).mono ?_); rintro e w7 ⟨v0, rfl, ho, hb⟩); obtain ⟨A7, c7, rfl, _, _⟩ := Kd.R_reads ho; have HO7 := Aside0.mk ho; have X37 := Aside0.mk (X36.out.below hb); have HB7 := Aside0.mk (below_step HB6.out hb); clear ho hb) | ((with_reducible refine gate_dst (N := 7) rfl ?_); refine box_event ?hg (N := 7) ?hd (cs := #[.slice none 0 0]) (t := 26) ?hr ?_; (case hd => rfl); (case hg => rfl); (case hr => first | (go_simp; done) | (go_simp; rfl)); intro g7 hg1 w7b hbox hb; have BK7 := Aside0.mk hbox; have HC7 := Aside0.mk hb; have G7 := Aside0.mk hg1; clear hg1 hbox hb; have KB := Aside0.mk (AB.keepB (u := .slice A7 Lb.length c7) G7.out HC7.out); have XB7 := Aside0.mk (AB.first HO7.out BK7.out G7.out HC7.out); have X37b := Aside0.mk (X37.out.below KB.out); have HB7b := Aside0.mk (below_step HB7.out KB.out); have hca7 : w7b.cell? ⟨g7, 0, none⟩ = some (.slice none 0 0) := (blk_cell BK7.out 0).trans rfl; have hfa7 := blk_frozen BK7.out 0; have hcb7 : (w7b.setCell ⟨g7, 0, none⟩ (.slice A7 Lb.length c7)).cell? ⟨g3, 0, none⟩ = some (.slice A3 L.length c3) := X37b.out.cell; clear KB) | (go_at_call 66; ((with_reducible refine (impl_ReadTerm.calls A3 c3 L t Lc ic again _ X37b.out.row X37b.out.cap H4.out).mono ?_); rintro e w10 ⟨v0, rfl, ho, hb⟩); obtain ⟨A10, c10, rfl, _, _⟩ := Kd.R_reads ho; have HO10 := Aside0.mk ho; have X310 := Aside0.mk (X37b.out.below hb); have XB10 := Aside0.mk (XB7.out.below hb); have HB10 := Aside0.mk (below_step HB7b.out hb); clear ho hb) | ((with_reducible refine gate_dst (N := 10) rfl ?_); refine box_event ?hg (N := 10) ?hd (cs := #[.slice none 0 0]) (t := 26) ?hr ?_; (case hd => rfl); (case hg => rfl); (case hr => first | (go_simp; done) | (go_simp; rfl)); intro g10 hg1 w10b hbox hb; have BK10 := Aside0.mk hbox; have HC10 := Aside0.mk hb; have G10 := Aside0.mk hg1; clear hg1 hbox hb; have KB := Aside0.mk (AB.keepB (u := .slice A10 Lc.length c10) G10.out HC10.out); have XC8 := Aside0.mk (AB.first HO10.out BK10.out G10.out HC10.out); have X38 := Aside0.mk (X310.out.below KB.out); have XB8 := Aside0.mk (XB10.out.below KB.out); have HB8 := Aside0.mk (below_step HB10.out KB.out); have hca10 : w10b.cell? ⟨g10, 0, none⟩ = some (.slice none 0 0) := (blk_cell BK10.out 0).trans rfl; have hfa10 := blk_frozen BK10.out 0; clear KB))
  clear hca7 hfa7 hcb7 hca10 hfa10 BK7 HC7 HO7 G7 BK10 HC10 HO10 G10
  generalize w10b.setCell ⟨g10, 0, none⟩ (.slice A10 Lc.length c10) = w8 at XC8 X38 XB8 HB8 ⊢
  obtain ⟨adn, en, n0, n1, n2, n3⟩ := at_T34 X38.out.row x HX0.out.1 HX0.out.2
  cases en
  have hs0 := X38.out.cell
  obtain ⟨m0, hm0⟩ : ∃ z, (rd_T34 L x).f0 = z := ⟨_, rfl⟩
  obtain ⟨m1, hm1⟩ : ∃ z, (rd_T34 L x).f1 = z := ⟨_, rfl⟩
  obtain ⟨m2, hm2⟩ : ∃ z, (rd_T34 L x).f2 = z := ⟨_, rfl⟩
  obtain ⟨m3, hm3⟩ : ∃ z, (rd_T34 L x).f3 = z := ⟨_, rfl⟩
  rw [hm0] at n0
  rw [hm1] at n1
  rw [hm2] at n2
  rw [hm3] at n3
  rw [hm0, hm1, hm2, hm3] at H5
  have hs1 := n0
  have hs2 := n1
  have hs3 := n2
  have hs4 := n3
  have r0 : (0 ≤ x) = True := eq_true HX0.out.1
  have r1 : (x < (L.length : Int)) = True := eq_true HX0.out.2
  clear n0 n1 n2 n3 hm0 hm1 hm2 hm3
  refine start_ (n := 13) (S := fun w' => w'.cell? ⟨g3, 0, none⟩ = some (.slice (some adn) L.length c3) ∧ w'.cell? (adn.add (x.toNat * 4)) = some (.int .i64 m0) ∧ w'.cell? ⟨(adn.add (x.toNat * 4)).block, (adn.add (x.toNat * 4)).off + 1, none⟩ = some (.int .i64 m1) ∧ w'.cell? ⟨(adn.add (x.toNat * 4)).block, (adn.add (x.toNat * 4)).off + 2, none⟩ = some (.int .i64 m2) ∧ w'.cell? ⟨(adn.add (x.toNat * 4)).block, (adn.add (x.toNat * 4)).off + 3, none⟩ = some (.int .i64 m3)) (ds := [11]) #[false, false, false, false, false, false, false, false, false, false, false, false, false] (by kernel_rfl) rfl rfl ⟨hs0, hs1, hs2, hs3, hs4⟩ (fun hHeld => ?_)
  have HDW := Aside0.mk (below_drew (Below.refl w8.heap.size w8))
  have XD := Aside0.mk (X38.out.below HDW.out)
  have XBd := Aside0.mk (XB8.out.below HDW.out)
  have XCd := Aside0.mk (XC8.out.below HDW.out)
  have HBd := Aside0.mk (below_step HB8.out HDW.out)
  have hs0 : w8.drew.cell? _ = some _ := hs0
  have hs1 : w8.drew.cell? _ = some _ := hs1
  have hs2 : w8.drew.cell? _ = some _ := hs2
  have hs3 : w8.drew.cell? _ = some _ := hs3
  have hs4 : w8.drew.cell? _ = some _ := hs4
  clear HDW
  generalize w8.drew = wd at XD XBd XCd HBd hs0 hs1 hs2 hs3 hs4 hHeld ⊢
  have HG0 := Aside0.mk (Below.refl wd.heap.size wd)
  refine pure_ (i := 1) (N := some 59) (v := ?_) (a' := ?_) #[false, true, false, false, false, false, false, false, false, false, false, false, false] rfl rfl (by kernel_rfl) (fun _ _ _ h => h) (Or.inl ⟨by rfl, ?_⟩) ?_ ?_
  rotate_left
  · intro w'
    go_simp
    with_reducible rfl
  rotate_left
  · simp only [Act.put, List.setIfInBounds_toArray, List.set_cons_zero, List.set_cons_succ, i64_w, i32_w]
    rfl
  refine pure_ (i := 3) (N := some 61) (v := ?_) (a' := ?_) #[false, true, false, true, false, false, false, false, false, false, false, false, false] rfl rfl (by kernel_rfl) (fun _ _ _ h => h) (Or.inl ⟨by rfl, ?_⟩) ?_ ?_
  rotate_left
  · intro w'
    go_simp
    with_reducible rfl
  rotate_left
  · simp only [Act.put, List.setIfInBounds_toArray, List.set_cons_zero, List.set_cons_succ, i64_w, i32_w]
    rfl
  refine take_ (i := 0) (N := some 58) (v := ?_) (a' := ?_) #[true, true, false, true, false, false, false, false, false, false, false, false, false] rfl rfl (by kernel_rfl) (fun _ _ _ h => h) (Or.inl ⟨by rfl, ?_⟩) hHeld ?_ ?_
  rotate_left
  · rintro w' ⟨s0, s1, s2, s3, s4⟩
    go_simp
    with_reducible rfl
  rotate_left
  · simp only [Act.put, List.setIfInBounds_toArray, List.set_cons_zero, List.set_cons_succ, i64_w, i32_w]
    rfl
  refine take_ (i := 2) (N := some 60) (v := ?_) (a' := ?_) #[true, true, true, true, false, false, false, false, false, false, false, false, false] rfl rfl (by kernel_rfl) (fun _ _ _ h => h) (Or.inl ⟨by rfl, ?_⟩) hHeld ?_ ?_
  rotate_left
  · rintro w' ⟨s0, s1, s2, s3, s4⟩
    go_simp
    with_reducible rfl
  rotate_left
  · simp only [Act.put, List.setIfInBounds_toArray, List.set_cons_zero, List.set_cons_succ, i64_w, i32_w]
    rfl
  refine pure_ (i := 4) (N := some 62) (v := ?_) (a' := ?_) #[true, true, true, true, true, false, false, false, false, false, false, false, false] rfl rfl (by kernel_rfl) (fun _ _ _ h => h) (Or.inl ⟨by rfl, ?_⟩) ?_ ?_
  rotate_left
  · intro w'
    go_simp
    with_reducible rfl
  rotate_left
  · simp only [Act.put, List.setIfInBounds_toArray, List.set_cons_zero, List.set_cons_succ, i64_w, i32_w]
    rfl
  refine take_ (i := 5) (N := some 63) (v := ?_) (a' := ?_) #[true, true, true, true, true, true, false, false, false, false, false, false, false] rfl rfl (by kernel_rfl) (fun _ _ _ h => h) (Or.inl ⟨by rfl, ?_⟩) hHeld ?_ ?_
  rotate_left
  · rintro w' ⟨s0, s1, s2, s3, s4⟩
    go_simp
    with_reducible rfl
  rotate_left
  · simp only [Act.put, List.setIfInBounds_toArray, List.set_cons_zero, List.set_cons_succ, i64_w, i32_w]
    rfl
  refine join_ (σ := Option Addr × Nat × Nat) 2 #[true, true, true, true, true, true, true, true, true, true, true, false, false] (fun s_ => [(64, .tuple #[.agg #[.slice s_.1 Ld.length s_.2.1], .int .i64 at_]), (57, .tuple #[.agg #[.slice s_.1 Ld.length s_.2.1], .int .i64 at_]), (65, .agg #[.slice s_.1 Ld.length s_.2.1]), (66, .int .i64 at_), (13, .pointer (some ⟨s_.2.2, 0, none⟩))]) (fun s_ w' => (w'.cell? ⟨g3, 0, none⟩ = some (.slice (some adn) L.length c3) ∧ w'.cell? (adn.add (x.toNat * 4)) = some (.int .i64 m0) ∧ w'.cell? ⟨(adn.add (x.toNat * 4)).block, (adn.add (x.toNat * 4)).off + 1, none⟩ = some (.int .i64 m1) ∧ w'.cell? ⟨(adn.add (x.toNat * 4)).block, (adn.add (x.toNat * 4)).off + 2, none⟩ = some (.int .i64 m2) ∧ w'.cell? ⟨(adn.add (x.toNat * 4)).block, (adn.add (x.toNat * 4)).off + 3, none⟩ = some (.int .i64 m3)) ∧ Below wd.heap.size wd w' ∧ Kd.R k34 34 w' wd.heap.size (fun k => k ≠ s_.2.2) (.slice s_.1 Ld.length s_.2.1) Ld ∧ w'.heap[s_.2.2]? = some (.cells #[.slice none 0 0] 26 (0, 0)) ∧ wd.heap.size ≤ s_.2.2) ?_ ?_
  rotate_left
  · intro hCont
    refine two_ (i := 6) (j := 10) (Ni := some 64) (Nj := some 13) #[true, true, true, true, true, true, true, false, false, false, false, false, false] #[true, true, true, true, true, true, false, false, false, false, true, false, false] rfl rfl rfl rfl (by kernel_rfl) (by decide) (by decide) (fun K hK => ?_) (fun K hK => ?_)
    · skip
      refine goes_ Try.func56 (by kernel_rfl) rfl #[.agg #[.slice (some adn) L.length c3], .agg #[.int .i64 m0, .int .i64 m1, .int .i64 m2, .int .i64 m3]] (by rfl) rfl rfl (by simp only [List.map_toArray, List.map_cons, List.map_nil]; rfl) ?_
      with_reducible refine (impl_Put.calls (some adn) c3 L m0 m1 m2 m3 Ld at_ _ (XD.out.below HG0.out).row (XD.out.below HG0.out).cap H5.out).mono ?_
      rintro e wg1 ⟨vd, rfl, ho, hb⟩
      refine ⟨_, rfl, ?_⟩
      obtain ⟨Ad, cd, rfl, _, _⟩ := Kd.R_reads ho
      have HG1 := Aside0.mk (below_step HG0.out hb)
      have HR0d := Aside0.mk (Kd.R_lower ho HG0.out.size)
      clear ho hb
      refine hK.out _ _ ⟨cell_keep HG1.out hs0, cell_keep HG1.out hs1, cell_keep HG1.out hs2, cell_keep HG1.out hs3, cell_keep HG1.out hs4⟩ (fun hHeld => ?_)
      clear hK K
      refine norm_ (a' := ?_) ?_ ?_
      rotate_left
      · show Act.put _ (some 64) _ = _
        simp only [Act.put, List.setIfInBounds_toArray, List.set_cons_zero, List.set_cons_succ, i64_w, i32_w]
        rfl
      refine pure_ (i := 7) (N := some 57) (v := ?_) (a' := ?_) #[true, true, true, true, true, true, true, true, false, false, false, false, false] rfl rfl (by kernel_rfl) (fun _ _ _ h => h) (Or.inl ⟨by rfl, ?_⟩) ?_ ?_
      rotate_left
      · intro w'
        go_simp
        with_reducible rfl
      rotate_left
      · simp only [Act.put, List.setIfInBounds_toArray, List.set_cons_zero, List.set_cons_succ, i64_w, i32_w]
        rfl
      refine pure_ (i := 8) (N := some 65) (v := ?_) (a' := ?_) #[true, true, true, true, true, true, true, true, true, false, false, false, false] rfl rfl (by kernel_rfl) (fun _ _ _ h => h) (Or.inl ⟨by rfl, ?_⟩) ?_ ?_
      rotate_left
      · intro w'
        go_simp
        with_reducible rfl
      rotate_left
      · simp only [Act.put, List.setIfInBounds_toArray, List.set_cons_zero, List.set_cons_succ, i64_w, i32_w]
        rfl
      refine pure_ (i := 9) (N := some 66) (v := ?_) (a' := ?_) #[true, true, true, true, true, true, true, true, true, true, false, false, false] rfl rfl (by kernel_rfl) (fun _ _ _ h => h) (Or.inl ⟨by rfl, ?_⟩) ?_ ?_
      rotate_left
      · intro w'
        go_simp
        with_reducible rfl
      rotate_left
      · simp only [Act.put, List.setIfInBounds_toArray, List.set_cons_zero, List.set_cons_succ, i64_w, i32_w]
        rfl
      refine one_ (i := 10) (N := some 13) #[true, true, true, true, true, true, true, true, true, true, true, false, false] rfl rfl (by kernel_rfl) (by decide) (fun K hK => ?_)
      refine box_step (by rfl) (N := 13) rfl (cs := #[.slice none 0 0]) (t := 26) ?hr ?_
      (case hr => first | (go_simp; done) | (go_simp; rfl))
      intro g13 hg13 wg2 hbox13 hb13
      have HN13 := Aside0.mk (show wd.heap.size ≤ g13 by have h1 := HG1.out.size; omega)
      have HG2 := Aside0.mk (below_step HG1.out hb13)
      have BK13 := Aside0.mk hbox13
      have HRD := Aside0.mk (Kd.R_below (Kd.R_mono (Kd.R_bound HR0d.out) (fun k hk => (show k ≠ g13 by have h2 := hk.2.2.1; omega))) hb13)
      have BK13f := Aside0.mk hbox13
      clear hg13 hbox13 hb13
      refine hK.out _ _ ⟨cell_keep HG2.out hs0, cell_keep HG2.out hs1, cell_keep HG2.out hs2, cell_keep HG2.out hs3, cell_keep HG2.out hs4⟩ (fun hHeld => ?_)
      clear hK K
      refine norm_ (a' := ?_) ?_ ?_
      rotate_left
      · show Act.put _ (some 13) _ = _
        simp only [Act.put, List.setIfInBounds_toArray, List.set_cons_zero, List.set_cons_succ, i64_w, i32_w]
        rfl
      exact norm_ (by simp only [putAll, Act.put, List.setIfInBounds_toArray, List.set_cons_zero, List.set_cons_succ]) (hCont (Ad, cd, g13) _ ⟨⟨cell_keep HG2.out hs0, cell_keep HG2.out hs1, cell_keep HG2.out hs2, cell_keep HG2.out hs3, cell_keep HG2.out hs4⟩, HG2.out, HRD.out, BK13f.out, HN13.out⟩)
    · skip
      refine box_step (by rfl) (N := 13) rfl (cs := #[.slice none 0 0]) (t := 26) ?hr ?_
      (case hr => first | (go_simp; done) | (go_simp; rfl))
      intro g13 hg13 wg1 hbox13 hb13
      have HN13 := Aside0.mk (show wd.heap.size ≤ g13 by have h1 := HG0.out.size; omega)
      have HG1 := Aside0.mk (below_step HG0.out hb13)
      have BK13 := Aside0.mk hbox13
      clear hg13 hbox13 hb13
      refine hK.out _ _ ⟨cell_keep HG1.out hs0, cell_keep HG1.out hs1, cell_keep HG1.out hs2, cell_keep HG1.out hs3, cell_keep HG1.out hs4⟩ (fun hHeld => ?_)
      clear hK K
      refine norm_ (a' := ?_) ?_ ?_
      rotate_left
      · show Act.put _ (some 13) _ = _
        simp only [Act.put, List.setIfInBounds_toArray, List.set_cons_zero, List.set_cons_succ, i64_w, i32_w]
        rfl
      refine one_ (i := 6) (N := some 64) #[true, true, true, true, true, true, true, false, false, false, true, false, false] rfl rfl (by kernel_rfl) (by decide) (fun K hK => ?_)
      refine goes_ Try.func56 (by kernel_rfl) rfl #[.agg #[.slice (some adn) L.length c3], .agg #[.int .i64 m0, .int .i64 m1, .int .i64 m2, .int .i64 m3]] (by rfl) rfl rfl (by simp only [List.map_toArray, List.map_cons, List.map_nil]; rfl) ?_
      with_reducible refine (impl_Put.calls (some adn) c3 L m0 m1 m2 m3 Ld at_ _ (XD.out.below HG1.out).row (XD.out.below HG1.out).cap H5.out).mono ?_
      rintro e wg2 ⟨vd, rfl, ho, hb⟩
      refine ⟨_, rfl, ?_⟩
      obtain ⟨Ad, cd, rfl, _, _⟩ := Kd.R_reads ho
      have HG2 := Aside0.mk (below_step HG1.out hb)
      have HRD := Aside0.mk (Kd.R_lower (Kd.R_mono (Kd.R_bound ho) (fun k hk => (show k ≠ g13 by have h1 := blk_lt BK13.out; have h2 := hk.2.1; omega))) HG1.out.size)
      have BK13f := Aside0.mk (blk_below BK13.out hb)
      clear ho hb
      refine hK.out _ _ ⟨cell_keep HG2.out hs0, cell_keep HG2.out hs1, cell_keep HG2.out hs2, cell_keep HG2.out hs3, cell_keep HG2.out hs4⟩ (fun hHeld => ?_)
      clear hK K
      refine norm_ (a' := ?_) ?_ ?_
      rotate_left
      · show Act.put _ (some 64) _ = _
        simp only [Act.put, List.setIfInBounds_toArray, List.set_cons_zero, List.set_cons_succ, i64_w, i32_w]
        rfl
      refine pure_ (i := 7) (N := some 57) (v := ?_) (a' := ?_) #[true, true, true, true, true, true, true, true, false, false, true, false, false] rfl rfl (by kernel_rfl) (fun _ _ _ h => h) (Or.inl ⟨by rfl, ?_⟩) ?_ ?_
      rotate_left
      · intro w'
        go_simp
        with_reducible rfl
      rotate_left
      · simp only [Act.put, List.setIfInBounds_toArray, List.set_cons_zero, List.set_cons_succ, i64_w, i32_w]
        rfl
      refine pure_ (i := 8) (N := some 65) (v := ?_) (a' := ?_) #[true, true, true, true, true, true, true, true, true, false, true, false, false] rfl rfl (by kernel_rfl) (fun _ _ _ h => h) (Or.inl ⟨by rfl, ?_⟩) ?_ ?_
      rotate_left
      · intro w'
        go_simp
        with_reducible rfl
      rotate_left
      · simp only [Act.put, List.setIfInBounds_toArray, List.set_cons_zero, List.set_cons_succ, i64_w, i32_w]
        rfl
      refine pure_ (i := 9) (N := some 66) (v := ?_) (a' := ?_) #[true, true, true, true, true, true, true, true, true, true, true, false, false] rfl rfl (by kernel_rfl) (fun _ _ _ h => h) (Or.inl ⟨by rfl, ?_⟩) ?_ ?_
      rotate_left
      · intro w'
        go_simp
        with_reducible rfl
      rotate_left
      · simp only [Act.put, List.setIfInBounds_toArray, List.set_cons_zero, List.set_cons_succ, i64_w, i32_w]
        rfl
      exact norm_ (by simp only [putAll, Act.put, List.setIfInBounds_toArray, List.set_cons_zero, List.set_cons_succ]) (hCont (Ad, cd, g13) _ ⟨⟨cell_keep HG2.out hs0, cell_keep HG2.out hs1, cell_keep HG2.out hs2, cell_keep HG2.out hs3, cell_keep HG2.out hs4⟩, HG2.out, HRD.out, BK13f.out, HN13.out⟩)
  rintro ⟨Ad, cd, g13⟩ wf ⟨hHeld, hbF, hRF, hKF, hgF⟩
  simp only at hRF hKF hgF
  have hf13 := blk_frozen hKF 0
  have hc13 : wf.cell? ⟨g13, 0, none⟩ = some (.slice none 0 0) := (blk_cell hKF 0).trans rfl
  refine norm_ (a' := ?_) ?_ ?_
  rotate_left
  · simp only [putAll, Act.put, List.setIfInBounds_toArray, List.set_cons_zero, List.set_cons_succ]
    rfl
  refine last_ (i := 11) (N := none) #[true, true, true, true, true, true, true, true, true, true, true, true, false] rfl rfl (by kernel_rfl) (by decide) (fun K hK => ?_)
  refine skip_ (w1 := ?_) (by rfl) rfl ?_ ?_
  rotate_left
  · go_simp
    rfl
  refine hK.out _ _ ?_
  clear hK K
  refine pure_ (i := 12) (N := some 14) (v := ?_) (a' := ?_) #[true, true, true, true, true, true, true, true, true, true, true, true, true] rfl rfl (by kernel_rfl) (fun _ _ _ h => h) (Or.inl ⟨by rfl, ?_⟩) ?_ ?_
  rotate_left
  · intro w'
    go_simp
    with_reducible rfl
  rotate_left
  · simp only [Act.put, List.setIfInBounds_toArray, List.set_cons_zero, List.set_cons_succ, i64_w, i32_w]
    rfl
  refine done_ (by kernel_rfl) ?_
  have KF := Aside0.mk (show Below wd.heap.size wd (wf.setCell ⟨g13, 0, none⟩ (.slice Ad Ld.length cd)) from below_set hbF hgF)
  have X13 := Aside0.mk (AB.stored hKF hRF)
  have X3f := Aside0.mk (XD.out.below KF.out)
  have XBf := Aside0.mk (XBd.out.below KF.out)
  have XCf := Aside0.mk (XCd.out.below KF.out)
  have HBf := Aside0.mk (below_step HBd.out KF.out)
  generalize wf.setCell ⟨g13, 0, none⟩ (.slice Ad Ld.length cd) = wg at X13 X3f XBf XCf HBf ⊢
  clear hHeld hbF hRF hKF hgF KF hf13 hc13 XD XBd XCd HBd HG0 hs0 hs1 hs2 hs3 hs4
  go_upto_region 12 with (first | (go_at_call 67; ((with_reducible refine (spec_DrawReadTerm.calls k A0 c0 l0 X sx _ (Kd.C_below HR0.out HBf.out) HC0.out H6.out).mono ?_); rintro e w15 ⟨v0, rfl, ho, hb⟩); obtain ⟨A15, c15, rfl, _, _⟩ := Kd.R_reads ho; have HO15 := Aside0.mk ho; have X13a := Aside0.mk (X13.out.below hb); have X3a := Aside0.mk (X3f.out.below hb); have XBa := Aside0.mk (XBf.out.below hb); have XCa := Aside0.mk (XCf.out.below hb); have HBa := Aside0.mk (below_step HBf.out hb); clear ho hb) | ((with_reducible refine gate_dst (N := 15) rfl ?_); refine box_event ?hg (N := 15) ?hd (cs := #[.slice none 0 0]) (t := 26) ?hr ?_; (case hd => rfl); (case hg => rfl); (case hr => first | (go_simp; done) | (go_simp; rfl)); intro g15 hg1 w15b hbox hb; have BK15 := Aside0.mk hbox; have HC15 := Aside0.mk hb; have G15 := Aside0.mk hg1; clear hg1 hbox hb; have KB := Aside0.mk (AB.keepB (u := .slice A15 X.length c15) G15.out HC15.out); have X15 := Aside0.mk (AB.first HO15.out BK15.out G15.out HC15.out); have X13b := Aside0.mk (X13a.out.below KB.out); have X3b := Aside0.mk (X3a.out.below KB.out); have XBb := Aside0.mk (XBa.out.below KB.out); have XCb := Aside0.mk (XCa.out.below KB.out); have HBb := Aside0.mk (below_step HBa.out KB.out); have hca15 : w15b.cell? ⟨g15, 0, none⟩ = some (.slice none 0 0) := (blk_cell BK15.out 0).trans rfl; have hfa15 := blk_frozen BK15.out 0; have hcb15 : (w15b.setCell ⟨g15, 0, none⟩ (.slice A15 X.length c15)).cell? ⟨g15, 0, none⟩ = some (.slice A15 X.length c15) := X15.out.cell; clear KB) | (go_at_call 66; ((with_reducible refine (impl_ReadTerm.calls A15 c15 X sx Le ne may _ X15.out.row X15.out.cap H7.out).mono ?_); rintro e w17 ⟨v0, rfl, ho, hb⟩); obtain ⟨A17, c17, rfl, _, _⟩ := Kd.R_reads ho; have HO17 := Aside0.mk ho; have X15c := Aside0.mk (X15.out.below hb); have X13c := Aside0.mk (X13b.out.below hb); have X3c := Aside0.mk (X3b.out.below hb); have XBc := Aside0.mk (XBb.out.below hb); have XCc := Aside0.mk (XCb.out.below hb); have HBc := Aside0.mk (below_step HBb.out hb); clear ho hb) | ((with_reducible refine gate_dst (N := 17) rfl ?_); refine box_event ?hg (N := 17) ?hd (cs := #[.slice none 0 0]) (t := 26) ?hr ?_; (case hd => rfl); (case hg => rfl); (case hr => first | (go_simp; done) | (go_simp; rfl)); intro g17 hg1 w17b hbox hb; have BK17 := Aside0.mk hbox; have HC17 := Aside0.mk hb; have G17 := Aside0.mk hg1; clear hg1 hbox hb; have KB := Aside0.mk (AB.keepB (u := .slice A17 Le.length c17) G17.out HC17.out); have X17 := Aside0.mk (AB.first HO17.out BK17.out G17.out HC17.out); have X15e := Aside0.mk (X15c.out.below KB.out); have X13e := Aside0.mk (X13c.out.below KB.out); have X3e := Aside0.mk (X3c.out.below KB.out); have XBe := Aside0.mk (XBc.out.below KB.out); have XCe := Aside0.mk (XCc.out.below KB.out); have HBe := Aside0.mk (below_step HBc.out KB.out); have hca17 : w17b.cell? ⟨g17, 0, none⟩ = some (.slice none 0 0) := (blk_cell BK17.out 0).trans rfl; have hfa17 := blk_frozen BK17.out 0; have hcb17 : (w17b.setCell ⟨g17, 0, none⟩ (.slice A17 Le.length c17)).cell? ⟨g15, 0, none⟩ = some (.slice A15 X.length c15) := X15e.out.cell; clear KB) | (go_at_call 65; ((with_reducible refine (spec_ReadTerm.calls A15 c15 X sx Le ne may _ X15e.out.row X15e.out.cap H8.out).mono ?_); rintro e w20 ⟨v0, rfl, ho, hb⟩); obtain ⟨A20, c20, rfl, _, _⟩ := Kd.R_reads ho; have HO20 := Aside0.mk ho; have X17g := Aside0.mk (X17.out.below hb); have X13g := Aside0.mk (X13e.out.below hb); have X3g := Aside0.mk (X3e.out.below hb); have XBg := Aside0.mk (XBe.out.below hb); have XCg := Aside0.mk (XCe.out.below hb); have HBg := Aside0.mk (below_step HBe.out hb); clear ho hb) | ((with_reducible refine gate_dst (N := 20) rfl ?_); refine box_event ?hg (N := 20) ?hd (cs := #[.slice none 0 0]) (t := 26) ?hr ?_; (case hd => rfl); (case hg => rfl); (case hr => first | (go_simp; done) | (go_simp; rfl)); intro g20 hg1 w20b hbox hb; have BK20 := Aside0.mk hbox; have HC20 := Aside0.mk hb; have G20 := Aside0.mk hg1; clear hg1 hbox hb; have KB := Aside0.mk (AB.keepB (u := .slice A20 Le.length c20) G20.out HC20.out); have X20 := Aside0.mk (AB.first HO20.out BK20.out G20.out HC20.out); have X17h := Aside0.mk (X17g.out.below KB.out); have X13h := Aside0.mk (X13g.out.below KB.out); have X3h := Aside0.mk (X3g.out.below KB.out); have XBh := Aside0.mk (XBg.out.below KB.out); have XCh := Aside0.mk (XCg.out.below KB.out); have HBh := Aside0.mk (below_step HBg.out KB.out); have hca20 : w20b.cell? ⟨g20, 0, none⟩ = some (.slice none 0 0) := (blk_cell BK20.out 0).trans rfl; have hfa20 := blk_frozen BK20.out 0; clear KB))
  (try simp only [Act.put, List.setIfInBounds_toArray, List.set_cons_zero, List.set_cons_succ])
  clear hca15 hfa15 hcb15 hca17 hfa17 hcb17 hca20 hfa20 BK15 BK17 BK20 HC15 HC17 HC20 HO15 HO17 HO20 G15 G17 G20
  generalize w20b.setCell ⟨g20, 0, none⟩ (.slice A20 Le.length c20) = wk at X20 X17h X13h X3h XBh XCh HBh ⊢
  have hg3k := X3h.out.cell
  have hg7k := XBh.out.cell
  cases ok with
  | false =>
    obtain ⟨z, hz, hz2⟩ := HF.out rfl
    have HZ := Aside0.mk hz
    have zz : decide (2000 < z) = true := decide_eq_true hz2
    have zy : decide (z > 2000) = true := decide_eq_true hz2
    clear hz hz2
    go_wp2_with (first | (go_at_call 30; ((with_reducible refine (impl_SizeOf.calls k (some adn) c3 L x z _ X3h.out.row X3h.out.cap HZ.out).mono ?_); rintro e wz ⟨rfl, hb⟩); have HBz := Aside0.mk (below_step HBh.out hb); clear hb))
    go_ret
    exact ⟨by first | rfl | simp, HBz.out⟩
  | true =>
    obtain ⟨e1, e2, e3, e4, e5, e6, ⟨b2, hb2⟩, hs1, hs2, ⟨z, hz1, hz2⟩, hok⟩ := HT.out rfl
    subst e1
    subst e2
    replace e3 := e3.symm
    replace e4 := e4.symm
    replace e5 := e5.symm
    replace e6 := e6.symm
    subst e3
    subst e4
    subst e5
    subst e6
    have HB2T := Aside0.mk hb2
    have HS1 := Aside0.mk hs1
    have HS2 := Aside0.mk hs2
    have HZ1 := Aside0.mk hz1
    have HZ2 := Aside0.mk hz2
    have HOK := Aside0.mk hok
    clear hb2 hs1 hs2 hz1 hz2 hok
    go_upto_region 15 with (first | (go_at_call 32; ((with_reducible refine (impl_TermText.calls k A7 c7 Lb j t b2 _ XBh.out.row XBh.out.cap HB2T.out).mono ?_); rintro e ws ⟨rfl, hb⟩); have HBs := Aside0.mk (below_step HBh.out hb); have X20s := Aside0.mk (X20.out.below hb); have X17s := Aside0.mk (X17h.out.below hb); have X13s := Aside0.mk (X13h.out.below hb); have X3s := Aside0.mk (X3h.out.below hb); have XBs := Aside0.mk (XBh.out.below hb); have XCs := Aside0.mk (XCh.out.below hb); clear hb))
    (try simp only [Act.put, List.setIfInBounds_toArray, List.set_cons_zero, List.set_cons_succ])
    clear hg3k hg7k X20 X17h X13h X3h XBh XCh HBh
    have HD := Aside0.mk (below_drew (Below.refl ws.heap.size ws))
    have HBd := Aside0.mk (below_step HBs.out HD.out)
    have X3d := Aside0.mk (X3s.out.below HD.out)
    have X7d := Aside0.mk (XBs.out.below HD.out)
    have X10d := Aside0.mk (XCs.out.below HD.out)
    have X13d := Aside0.mk (X13s.out.below HD.out)
    have X17d := Aside0.mk (X17s.out.below HD.out)
    have X20d := Aside0.mk (X20s.out.below HD.out)
    have q1 : (x == x) = true := by simp
    have q2 : (t.toList == t.toList) = true := by simp
    have q3 : (z == z) = true := by simp
    have q4 : (may == may) = true := by simp
    have q5 : (ne == ne) = true := by simp
    refine start_ (n := 58) (S := fun w' => w'.cell? ⟨g3, 0, none⟩ = some (.slice (some adn) L.length c3) ∧ w'.cell? ⟨g7, 0, none⟩ = some (.slice A7 Lb.length c7) ∧ w'.cell? ⟨g10, 0, none⟩ = some (.slice A10 L.length c10) ∧ w'.cell? ⟨g13, 0, none⟩ = some (.slice Ad L.length cd) ∧ w'.cell? ⟨g17, 0, none⟩ = some (.slice A17 Le.length c17) ∧ w'.cell? ⟨g20, 0, none⟩ = some (.slice A20 Le.length c20)) (ds := []) #[false, false, false, false, false, false, false, false, false, false, false, false, false, false, false, false, false, false, false, false, false, false, false, false, false, false, false, false, false, false, false, false, false, false, false, false, false, false, false, false, false, false, false, false, false, false, false, false, false, false, false, false, false, false, false, false, false, false] (by kernel_rfl) rfl rfl ⟨X3d.out.cell, X7d.out.cell, X10d.out.cell, X13d.out.cell, X17d.out.cell, X20d.out.cell⟩ (fun hHeld => ?_)
    refine pure_ (i := 0) (N := some 98) (v := ?_) (a' := ?_) #[true, false, false, false, false, false, false, false, false, false, false, false, false, false, false, false, false, false, false, false, false, false, false, false, false, false, false, false, false, false, false, false, false, false, false, false, false, false, false, false, false, false, false, false, false, false, false, false, false, false, false, false, false, false, false, false, false, false] rfl rfl (by kernel_rfl) (fun _ _ _ h => h) (Or.inl ⟨by rfl, ?_⟩) ?_ ?_
    rotate_left
    · intro w'
      go_simp
      with_reducible rfl
    rotate_left
    · simp only [Act.put, List.setIfInBounds_toArray, List.set_cons_zero, List.set_cons_succ, i64_w, i32_w]
      rfl
    refine pure_ (i := 1) (N := some 99) (v := ?_) (a' := ?_) #[true, true, false, false, false, false, false, false, false, false, false, false, false, false, false, false, false, false, false, false, false, false, false, false, false, false, false, false, false, false, false, false, false, false, false, false, false, false, false, false, false, false, false, false, false, false, false, false, false, false, false, false, false, false, false, false, false, false] rfl rfl (by kernel_rfl) (fun _ _ _ h => h) (Or.inl ⟨by rfl, ?_⟩) ?_ ?_
    rotate_left
    · intro w'
      go_simp
      with_reducible rfl
    rotate_left
    · simp only [Act.put, List.setIfInBounds_toArray, List.set_cons_zero, List.set_cons_succ, i64_w, i32_w]
      rfl
    refine pure_ (i := 2) (N := some 100) (v := ?_) (a' := ?_) #[true, true, true, false, false, false, false, false, false, false, false, false, false, false, false, false, false, false, false, false, false, false, false, false, false, false, false, false, false, false, false, false, false, false, false, false, false, false, false, false, false, false, false, false, false, false, false, false, false, false, false, false, false, false, false, false, false, false] rfl rfl (by kernel_rfl) (fun _ _ _ h => h) (Or.inl ⟨by rfl, ?_⟩) ?_ ?_
    rotate_left
    · intro w'
      go_simp
      with_reducible rfl
    rotate_left
    · simp only [Act.put, List.setIfInBounds_toArray, List.set_cons_zero, List.set_cons_succ, i64_w, i32_w]
      rfl
    refine pure_ (i := 3) (N := some 101) (v := ?_) (a' := ?_) #[true, true, true, true, false, false, false, false, false, false, false, false, false, false, false, false, false, false, false, false, false, false, false, false, false, false, false, false, false, false, false, false, false, false, false, false, false, false, false, false, false, false, false, false, false, false, false, false, false, false, false, false, false, false, false, false, false, false] rfl rfl (by kernel_rfl) (fun _ _ _ h => h) (Or.inl ⟨by rfl, ?_⟩) ?_ ?_
    rotate_left
    · intro w'
      go_simp
      with_reducible rfl
    rotate_left
    · simp only [Act.put, List.setIfInBounds_toArray, List.set_cons_zero, List.set_cons_succ, i64_w, i32_w]
      rfl
    refine pure_ (i := 4) (N := some 102) (v := ?_) (a' := ?_) #[true, true, true, true, true, false, false, false, false, false, false, false, false, false, false, false, false, false, false, false, false, false, false, false, false, false, false, false, false, false, false, false, false, false, false, false, false, false, false, false, false, false, false, false, false, false, false, false, false, false, false, false, false, false, false, false, false, false] rfl rfl (by kernel_rfl) (fun _ _ _ h => h) (Or.inl ⟨by rfl, ?_⟩) ?_ ?_
    rotate_left
    · intro w'
      go_simp
      with_reducible rfl
    rotate_left
    · simp only [Act.put, List.setIfInBounds_toArray, List.set_cons_zero, List.set_cons_succ, i64_w, i32_w]
      rfl
    refine pure_ (i := 5) (N := some 103) (v := ?_) (a' := ?_) #[true, true, true, true, true, true, false, false, false, false, false, false, false, false, false, false, false, false, false, false, false, false, false, false, false, false, false, false, false, false, false, false, false, false, false, false, false, false, false, false, false, false, false, false, false, false, false, false, false, false, false, false, false, false, false, false, false, false] rfl rfl (by kernel_rfl) (fun _ _ _ h => h) (Or.inl ⟨by rfl, ?_⟩) ?_ ?_
    rotate_left
    · intro w'
      go_simp
      with_reducible rfl
    rotate_left
    · simp only [Act.put, List.setIfInBounds_toArray, List.set_cons_zero, List.set_cons_succ, i64_w, i32_w]
      rfl
    refine pure_ (i := 6) (N := some 104) (v := ?_) (a' := ?_) #[true, true, true, true, true, true, true, false, false, false, false, false, false, false, false, false, false, false, false, false, false, false, false, false, false, false, false, false, false, false, false, false, false, false, false, false, false, false, false, false, false, false, false, false, false, false, false, false, false, false, false, false, false, false, false, false, false, false] rfl rfl (by kernel_rfl) (fun _ _ _ h => h) (Or.inl ⟨by rfl, ?_⟩) ?_ ?_
    rotate_left
    · intro w'
      go_simp
      with_reducible rfl
    rotate_left
    · simp only [Act.put, List.setIfInBounds_toArray, List.set_cons_zero, List.set_cons_succ, i64_w, i32_w]
      rfl
    refine pure_ (i := 7) (N := some 105) (v := ?_) (a' := ?_) #[true, true, true, true, true, true, true, true, false, false, false, false, false, false, false, false, false, false, false, false, false, false, false, false, false, false, false, false, false, false, false, false, false, false, false, false, false, false, false, false, false, false, false, false, false, false, false, false, false, false, false, false, false, false, false, false, false, false] rfl rfl (by kernel_rfl) (fun _ _ _ h => h) (Or.inl ⟨by rfl, ?_⟩) ?_ ?_
    rotate_left
    · intro w'
      go_simp
      with_reducible rfl
    rotate_left
    · simp only [Act.put, List.setIfInBounds_toArray, List.set_cons_zero, List.set_cons_succ, i64_w, i32_w]
      rfl
    refine pure_ (i := 8) (N := some 106) (v := ?_) (a' := ?_) #[true, true, true, true, true, true, true, true, true, false, false, false, false, false, false, false, false, false, false, false, false, false, false, false, false, false, false, false, false, false, false, false, false, false, false, false, false, false, false, false, false, false, false, false, false, false, false, false, false, false, false, false, false, false, false, false, false, false] rfl rfl (by kernel_rfl) (fun _ _ _ h => h) (Or.inl ⟨by rfl, ?_⟩) ?_ ?_
    rotate_left
    · intro w'
      go_simp
      with_reducible rfl
    rotate_left
    · simp only [Act.put, List.setIfInBounds_toArray, List.set_cons_zero, List.set_cons_succ, i64_w, i32_w]
      rfl
    refine pure_ (i := 9) (N := some 107) (v := ?_) (a' := ?_) #[true, true, true, true, true, true, true, true, true, true, false, false, false, false, false, false, false, false, false, false, false, false, false, false, false, false, false, false, false, false, false, false, false, false, false, false, false, false, false, false, false, false, false, false, false, false, false, false, false, false, false, false, false, false, false, false, false, false] rfl rfl (by kernel_rfl) (fun _ _ _ h => h) (Or.inl ⟨by rfl, ?_⟩) ?_ ?_
    rotate_left
    · intro w'
      go_simp
      with_reducible rfl
    rotate_left
    · simp only [Act.put, List.setIfInBounds_toArray, List.set_cons_zero, List.set_cons_succ, i64_w, i32_w]
      rfl
    refine pure_ (i := 10) (N := some 108) (v := ?_) (a' := ?_) #[true, true, true, true, true, true, true, true, true, true, true, false, false, false, false, false, false, false, false, false, false, false, false, false, false, false, false, false, false, false, false, false, false, false, false, false, false, false, false, false, false, false, false, false, false, false, false, false, false, false, false, false, false, false, false, false, false, false] rfl rfl (by kernel_rfl) (fun _ _ _ h => h) (Or.inl ⟨by rfl, ?_⟩) ?_ ?_
    rotate_left
    · intro w'
      go_simp
      with_reducible rfl
    rotate_left
    · simp only [Act.put, List.setIfInBounds_toArray, List.set_cons_zero, List.set_cons_succ, i64_w, i32_w]
      rfl
    refine pure_ (i := 11) (N := some 109) (v := ?_) (a' := ?_) #[true, true, true, true, true, true, true, true, true, true, true, true, false, false, false, false, false, false, false, false, false, false, false, false, false, false, false, false, false, false, false, false, false, false, false, false, false, false, false, false, false, false, false, false, false, false, false, false, false, false, false, false, false, false, false, false, false, false] rfl rfl (by kernel_rfl) (fun _ _ _ h => h) (Or.inl ⟨by rfl, ?_⟩) ?_ ?_
    rotate_left
    · intro w'
      go_simp
      with_reducible rfl
    rotate_left
    · simp only [Act.put, List.setIfInBounds_toArray, List.set_cons_zero, List.set_cons_succ, i64_w, i32_w]
      rfl
    refine pure_ (i := 12) (N := some 110) (v := ?_) (a' := ?_) #[true, true, true, true, true, true, true, true, true, true, true, true, true, false, false, false, false, false, false, false, false, false, false, false, false, false, false, false, false, false, false, false, false, false, false, false, false, false, false, false, false, false, false, false, false, false, false, false, false, false, false, false, false, false, false, false, false, false] rfl rfl (by kernel_rfl) (fun _ _ _ h => h) (Or.inl ⟨by rfl, ?_⟩) ?_ ?_
    rotate_left
    · intro w'
      go_simp
      with_reducible rfl
    rotate_left
    · simp only [Act.put, List.setIfInBounds_toArray, List.set_cons_zero, List.set_cons_succ, i64_w, i32_w]
      rfl
    refine pure_ (i := 13) (N := some 111) (v := ?_) (a' := ?_) #[true, true, true, true, true, true, true, true, true, true, true, true, true, true, false, false, false, false, false, false, false, false, false, false, false, false, false, false, false, false, false, false, false, false, false, false, false, false, false, false, false, false, false, false, false, false, false, false, false, false, false, false, false, false, false, false, false, false] rfl rfl (by kernel_rfl) (fun _ _ _ h => h) (Or.inl ⟨by rfl, ?_⟩) ?_ ?_
    rotate_left
    · intro w'
      go_simp
      with_reducible rfl
    rotate_left
    · simp only [Act.put, List.setIfInBounds_toArray, List.set_cons_zero, List.set_cons_succ, i64_w, i32_w]
      rfl
    refine pure_ (i := 14) (N := some 112) (v := ?_) (a' := ?_) #[true, true, true, true, true, true, true, true, true, true, true, true, true, true, true, false, false, false, false, false, false, false, false, false, false, false, false, false, false, false, false, false, false, false, false, false, false, false, false, false, false, false, false, false, false, false, false, false, false, false, false, false, false, false, false, false, false, false] rfl rfl (by kernel_rfl) (fun _ _ _ h => h) (Or.inl ⟨by rfl, ?_⟩) ?_ ?_
    rotate_left
    · intro w'
      go_simp
      with_reducible rfl
    rotate_left
    · simp only [Act.put, List.setIfInBounds_toArray, List.set_cons_zero, List.set_cons_succ, i64_w, i32_w]
      rfl
    refine take_ (i := 15) (N := some 113) (v := ?_) (a' := ?_) #[true, true, true, true, true, true, true, true, true, true, true, true, true, true, true, true, false, false, false, false, false, false, false, false, false, false, false, false, false, false, false, false, false, false, false, false, false, false, false, false, false, false, false, false, false, false, false, false, false, false, false, false, false, false, false, false, false, false] rfl rfl (by kernel_rfl) (fun _ _ _ h => h) (Or.inl ⟨by rfl, ?_⟩) hHeld ?_ ?_
    rotate_left
    · rintro w' ⟨s0, s1, s2, s3, s4, s5⟩
      go_simp
      with_reducible rfl
    rotate_left
    · simp only [Act.put, List.setIfInBounds_toArray, List.set_cons_zero, List.set_cons_succ, i64_w, i32_w]
      rfl
    refine take_ (i := 16) (N := some 114) (v := ?_) (a' := ?_) #[true, true, true, true, true, true, true, true, true, true, true, true, true, true, true, true, true, false, false, false, false, false, false, false, false, false, false, false, false, false, false, false, false, false, false, false, false, false, false, false, false, false, false, false, false, false, false, false, false, false, false, false, false, false, false, false, false, false] rfl rfl (by kernel_rfl) (fun _ _ _ h => h) (Or.inl ⟨by rfl, ?_⟩) hHeld ?_ ?_
    rotate_left
    · rintro w' ⟨s0, s1, s2, s3, s4, s5⟩
      go_simp
      with_reducible rfl
    rotate_left
    · simp only [Act.put, List.setIfInBounds_toArray, List.set_cons_zero, List.set_cons_succ, i64_w, i32_w]
      rfl
    refine one_ (i := 17) (N := some 115) #[true, true, true, true, true, true, true, true, true, true, true, true, true, true, true, true, true, true, false, false, false, false, false, false, false, false, false, false, false, false, false, false, false, false, false, false, false, false, false, false, false, false, false, false, false, false, false, false, false, false, false, false, false, false, false, false, false, false] rfl rfl (by kernel_rfl) (by decide) (fun K hK => ?_)
    refine goes_ Try.func61 (by kernel_rfl) rfl #[.agg #[.slice A10 L.length c10], .agg #[.slice (some adn) L.length c3]] (by rfl) rfl rfl (by simp only [List.map_toArray, List.map_cons, List.map_nil]; rfl) ?_
    with_reducible refine (laws_sameArena.calls k A10 c10 L (some adn) c3 L true _ X10d.out.row X10d.out.cap X3d.out.row X3d.out.cap HS1.out).mono ?_
    rintro e wq0 ⟨rfl, hb⟩
    refine ⟨_, rfl, ?_⟩
    have HBq0 := Aside0.mk (below_step HBd.out hb)
    have X3q0 := Aside0.mk (X3d.out.below hb)
    have X7q0 := Aside0.mk (X7d.out.below hb)
    have X10q0 := Aside0.mk (X10d.out.below hb)
    have X13q0 := Aside0.mk (X13d.out.below hb)
    have X17q0 := Aside0.mk (X17d.out.below hb)
    have X20q0 := Aside0.mk (X20d.out.below hb)
    clear hb
    refine hK.out _ _ ⟨X3q0.out.cell, X7q0.out.cell, X10q0.out.cell, X13q0.out.cell, X17q0.out.cell, X20q0.out.cell⟩ (fun hHeld => ?_)
    clear hK K
    refine norm_ (a' := ?_) ?_ ?_
    rotate_left
    · show Act.put _ (some 115) _ = _
      simp only [Act.put, List.setIfInBounds_toArray, List.set_cons_zero, List.set_cons_succ, i64_w, i32_w]
      rfl
    refine pure_ (i := 18) (N := some 116) (v := ?_) (a' := ?_) #[true, true, true, true, true, true, true, true, true, true, true, true, true, true, true, true, true, true, true, false, false, false, false, false, false, false, false, false, false, false, false, false, false, false, false, false, false, false, false, false, false, false, false, false, false, false, false, false, false, false, false, false, false, false, false, false, false, false] rfl rfl (by kernel_rfl) (fun _ _ _ h => h) (Or.inl ⟨by rfl, ?_⟩) ?_ ?_
    rotate_left
    · intro w'
      go_simp
      with_reducible rfl
    rotate_left
    · simp only [Act.put, List.setIfInBounds_toArray, List.set_cons_zero, List.set_cons_succ, i64_w, i32_w]
      rfl
    refine pure_ (i := 19) (N := some 117) (v := ?_) (a' := ?_) #[true, true, true, true, true, true, true, true, true, true, true, true, true, true, true, true, true, true, true, true, false, false, false, false, false, false, false, false, false, false, false, false, false, false, false, false, false, false, false, false, false, false, false, false, false, false, false, false, false, false, false, false, false, false, false, false, false, false] rfl rfl (by kernel_rfl) (fun _ _ _ h => h) (Or.inl ⟨by rfl, ?_⟩) ?_ ?_
    rotate_left
    · intro w'
      go_simp
      with_reducible rfl
    rotate_left
    · simp only [Act.put, List.setIfInBounds_toArray, List.set_cons_zero, List.set_cons_succ, i64_w, i32_w]
      rfl
    refine take_ (i := 20) (N := some 118) (v := ?_) (a' := ?_) #[true, true, true, true, true, true, true, true, true, true, true, true, true, true, true, true, true, true, true, true, true, false, false, false, false, false, false, false, false, false, false, false, false, false, false, false, false, false, false, false, false, false, false, false, false, false, false, false, false, false, false, false, false, false, false, false, false, false] rfl rfl (by kernel_rfl) (fun _ _ _ h => h) (Or.inl ⟨by rfl, ?_⟩) hHeld ?_ ?_
    rotate_left
    · rintro w' ⟨s0, s1, s2, s3, s4, s5⟩
      go_simp
      with_reducible rfl
    rotate_left
    · simp only [Act.put, List.setIfInBounds_toArray, List.set_cons_zero, List.set_cons_succ, i64_w, i32_w]
      rfl
    refine take_ (i := 21) (N := some 119) (v := ?_) (a' := ?_) #[true, true, true, true, true, true, true, true, true, true, true, true, true, true, true, true, true, true, true, true, true, true, false, false, false, false, false, false, false, false, false, false, false, false, false, false, false, false, false, false, false, false, false, false, false, false, false, false, false, false, false, false, false, false, false, false, false, false] rfl rfl (by kernel_rfl) (fun _ _ _ h => h) (Or.inl ⟨by rfl, ?_⟩) hHeld ?_ ?_
    rotate_left
    · rintro w' ⟨s0, s1, s2, s3, s4, s5⟩
      go_simp
      with_reducible rfl
    rotate_left
    · simp only [Act.put, List.setIfInBounds_toArray, List.set_cons_zero, List.set_cons_succ, i64_w, i32_w]
      rfl
    refine one_ (i := 22) (N := some 120) #[true, true, true, true, true, true, true, true, true, true, true, true, true, true, true, true, true, true, true, true, true, true, true, false, false, false, false, false, false, false, false, false, false, false, false, false, false, false, false, false, false, false, false, false, false, false, false, false, false, false, false, false, false, false, false, false, false, false] rfl rfl (by kernel_rfl) (by decide) (fun K hK => ?_)
    refine goes_ Try.func61 (by kernel_rfl) rfl #[.agg #[.slice Ad L.length cd], .agg #[.slice (some adn) L.length c3]] (by rfl) rfl rfl (by simp only [List.map_toArray, List.map_cons, List.map_nil]; rfl) ?_
    with_reducible refine (laws_sameArena.calls k Ad cd L (some adn) c3 L true _ X13q0.out.row X13q0.out.cap X3q0.out.row X3q0.out.cap HS1.out).mono ?_
    rintro e wq1 ⟨rfl, hb⟩
    refine ⟨_, rfl, ?_⟩
    have HBq1 := Aside0.mk (below_step HBq0.out hb)
    have X3q1 := Aside0.mk (X3q0.out.below hb)
    have X7q1 := Aside0.mk (X7q0.out.below hb)
    have X10q1 := Aside0.mk (X10q0.out.below hb)
    have X13q1 := Aside0.mk (X13q0.out.below hb)
    have X17q1 := Aside0.mk (X17q0.out.below hb)
    have X20q1 := Aside0.mk (X20q0.out.below hb)
    clear hb
    refine hK.out _ _ ⟨X3q1.out.cell, X7q1.out.cell, X10q1.out.cell, X13q1.out.cell, X17q1.out.cell, X20q1.out.cell⟩ (fun hHeld => ?_)
    clear hK K
    refine norm_ (a' := ?_) ?_ ?_
    rotate_left
    · show Act.put _ (some 120) _ = _
      simp only [Act.put, List.setIfInBounds_toArray, List.set_cons_zero, List.set_cons_succ, i64_w, i32_w]
      rfl
    refine pure_ (i := 23) (N := some 121) (v := ?_) (a' := ?_) #[true, true, true, true, true, true, true, true, true, true, true, true, true, true, true, true, true, true, true, true, true, true, true, true, false, false, false, false, false, false, false, false, false, false, false, false, false, false, false, false, false, false, false, false, false, false, false, false, false, false, false, false, false, false, false, false, false, false] rfl rfl (by kernel_rfl) (fun _ _ _ h => h) (Or.inl ⟨by rfl, ?_⟩) ?_ ?_
    rotate_left
    · intro w'
      go_simp
      with_reducible rfl
    rotate_left
    · simp only [Act.put, List.setIfInBounds_toArray, List.set_cons_zero, List.set_cons_succ, i64_w, i32_w]
      rfl
    refine pure_ (i := 24) (N := some 122) (v := ?_) (a' := ?_) #[true, true, true, true, true, true, true, true, true, true, true, true, true, true, true, true, true, true, true, true, true, true, true, true, true, false, false, false, false, false, false, false, false, false, false, false, false, false, false, false, false, false, false, false, false, false, false, false, false, false, false, false, false, false, false, false, false, false] rfl rfl (by kernel_rfl) (fun _ _ _ h => h) (Or.inl ⟨by rfl, ?_⟩) ?_ ?_
    rotate_left
    · intro w'
      go_simp
      with_reducible rfl
    rotate_left
    · simp only [Act.put, List.setIfInBounds_toArray, List.set_cons_zero, List.set_cons_succ, i64_w, i32_w]
      rfl
    refine pure_ (i := 25) (N := some 123) (v := ?_) (a' := ?_) #[true, true, true, true, true, true, true, true, true, true, true, true, true, true, true, true, true, true, true, true, true, true, true, true, true, true, false, false, false, false, false, false, false, false, false, false, false, false, false, false, false, false, false, false, false, false, false, false, false, false, false, false, false, false, false, false, false, false] rfl rfl (by kernel_rfl) (fun _ _ _ h => h) (Or.inl ⟨by rfl, ?_⟩) ?_ ?_
    rotate_left
    · intro w'
      go_simp
      with_reducible rfl
    rotate_left
    · simp only [Act.put, List.setIfInBounds_toArray, List.set_cons_zero, List.set_cons_succ, i64_w, i32_w]
      rfl
    refine pure_ (i := 26) (N := some 124) (v := ?_) (a' := ?_) #[true, true, true, true, true, true, true, true, true, true, true, true, true, true, true, true, true, true, true, true, true, true, true, true, true, true, true, false, false, false, false, false, false, false, false, false, false, false, false, false, false, false, false, false, false, false, false, false, false, false, false, false, false, false, false, false, false, false] rfl rfl (by kernel_rfl) (fun _ _ _ h => h) (Or.inl ⟨by rfl, ?_⟩) ?_ ?_
    rotate_left
    · intro w'
      go_simp
      with_reducible rfl
    rotate_left
    · simp only [Act.put, List.setIfInBounds_toArray, List.set_cons_zero, List.set_cons_succ, i64_w, i32_w]
      rfl
    refine pure_ (i := 27) (N := some 125) (v := ?_) (a' := ?_) #[true, true, true, true, true, true, true, true, true, true, true, true, true, true, true, true, true, true, true, true, true, true, true, true, true, true, true, true, false, false, false, false, false, false, false, false, false, false, false, false, false, false, false, false, false, false, false, false, false, false, false, false, false, false, false, false, false, false] rfl rfl (by kernel_rfl) (fun _ _ _ h => h) (Or.inl ⟨by rfl, ?_⟩) ?_ ?_
    rotate_left
    · intro w'
      go_simp
      with_reducible rfl
    rotate_left
    · simp only [Act.put, List.setIfInBounds_toArray, List.set_cons_zero, List.set_cons_succ, i64_w, i32_w]
      rfl
    refine pure_ (i := 28) (N := some 126) (v := ?_) (a' := ?_) #[true, true, true, true, true, true, true, true, true, true, true, true, true, true, true, true, true, true, true, true, true, true, true, true, true, true, true, true, true, false, false, false, false, false, false, false, false, false, false, false, false, false, false, false, false, false, false, false, false, false, false, false, false, false, false, false, false, false] rfl rfl (by kernel_rfl) (fun _ _ _ h => h) (Or.inl ⟨by rfl, ?_⟩) ?_ ?_
    rotate_left
    · intro w'
      go_simp
      with_reducible rfl
    rotate_left
    · simp only [Act.put, List.setIfInBounds_toArray, List.set_cons_zero, List.set_cons_succ, i64_w, i32_w]
      rfl
    refine pure_ (i := 29) (N := some 127) (v := ?_) (a' := ?_) #[true, true, true, true, true, true, true, true, true, true, true, true, true, true, true, true, true, true, true, true, true, true, true, true, true, true, true, true, true, true, false, false, false, false, false, false, false, false, false, false, false, false, false, false, false, false, false, false, false, false, false, false, false, false, false, false, false, false] rfl rfl (by kernel_rfl) (fun _ _ _ h => h) (Or.inl ⟨by rfl, ?_⟩) ?_ ?_
    rotate_left
    · intro w'
      go_simp
      with_reducible rfl
    rotate_left
    · simp only [Act.put, List.setIfInBounds_toArray, List.set_cons_zero, List.set_cons_succ, i64_w, i32_w]
      rfl
    refine pure_ (i := 30) (N := some 128) (v := ?_) (a' := ?_) #[true, true, true, true, true, true, true, true, true, true, true, true, true, true, true, true, true, true, true, true, true, true, true, true, true, true, true, true, true, true, true, false, false, false, false, false, false, false, false, false, false, false, false, false, false, false, false, false, false, false, false, false, false, false, false, false, false, false] rfl rfl (by kernel_rfl) (fun _ _ _ h => h) (Or.inl ⟨by rfl, ?_⟩) ?_ ?_
    rotate_left
    · intro w'
      go_simp
      with_reducible rfl
    rotate_left
    · simp only [Act.put, List.setIfInBounds_toArray, List.set_cons_zero, List.set_cons_succ, i64_w, i32_w]
      rfl
    refine pure_ (i := 31) (N := some 129) (v := ?_) (a' := ?_) #[true, true, true, true, true, true, true, true, true, true, true, true, true, true, true, true, true, true, true, true, true, true, true, true, true, true, true, true, true, true, true, true, false, false, false, false, false, false, false, false, false, false, false, false, false, false, false, false, false, false, false, false, false, false, false, false, false, false] rfl rfl (by kernel_rfl) (fun _ _ _ h => h) (Or.inl ⟨by rfl, ?_⟩) ?_ ?_
    rotate_left
    · intro w'
      go_simp
      with_reducible rfl
    rotate_left
    · simp only [Act.put, List.setIfInBounds_toArray, List.set_cons_zero, List.set_cons_succ, i64_w, i32_w]
      rfl
    refine pure_ (i := 32) (N := some 130) (v := ?_) (a' := ?_) #[true, true, true, true, true, true, true, true, true, true, true, true, true, true, true, true, true, true, true, true, true, true, true, true, true, true, true, true, true, true, true, true, true, false, false, false, false, false, false, false, false, false, false, false, false, false, false, false, false, false, false, false, false, false, false, false, false, false] rfl rfl (by kernel_rfl) (fun _ _ _ h => h) (Or.inl ⟨by rfl, ?_⟩) ?_ ?_
    rotate_left
    · intro w'
      go_simp
      with_reducible rfl
    rotate_left
    · simp only [Act.put, List.setIfInBounds_toArray, List.set_cons_zero, List.set_cons_succ, i64_w, i32_w]
      rfl
    refine pure_ (i := 33) (N := some 131) (v := ?_) (a' := ?_) #[true, true, true, true, true, true, true, true, true, true, true, true, true, true, true, true, true, true, true, true, true, true, true, true, true, true, true, true, true, true, true, true, true, true, false, false, false, false, false, false, false, false, false, false, false, false, false, false, false, false, false, false, false, false, false, false, false, false] rfl rfl (by kernel_rfl) (fun _ _ _ h => h) (Or.inl ⟨by rfl, ?_⟩) ?_ ?_
    rotate_left
    · intro w'
      go_simp
      with_reducible rfl
    rotate_left
    · simp only [Act.put, List.setIfInBounds_toArray, List.set_cons_zero, List.set_cons_succ, i64_w, i32_w]
      rfl
    refine pure_ (i := 34) (N := some 132) (v := ?_) (a' := ?_) #[true, true, true, true, true, true, true, true, true, true, true, true, true, true, true, true, true, true, true, true, true, true, true, true, true, true, true, true, true, true, true, true, true, true, true, false, false, false, false, false, false, false, false, false, false, false, false, false, false, false, false, false, false, false, false, false, false, false] rfl rfl (by kernel_rfl) (fun _ _ _ h => h) (Or.inl ⟨by rfl, ?_⟩) ?_ ?_
    rotate_left
    · intro w'
      go_simp
      with_reducible rfl
    rotate_left
    · simp only [Act.put, List.setIfInBounds_toArray, List.set_cons_zero, List.set_cons_succ, i64_w, i32_w]
      rfl
    refine pure_ (i := 35) (N := some 133) (v := ?_) (a' := ?_) #[true, true, true, true, true, true, true, true, true, true, true, true, true, true, true, true, true, true, true, true, true, true, true, true, true, true, true, true, true, true, true, true, true, true, true, true, false, false, false, false, false, false, false, false, false, false, false, false, false, false, false, false, false, false, false, false, false, false] rfl rfl (by kernel_rfl) (fun _ _ _ h => h) (Or.inl ⟨by rfl, ?_⟩) ?_ ?_
    rotate_left
    · intro w'
      go_simp
      with_reducible rfl
    rotate_left
    · simp only [Act.put, List.setIfInBounds_toArray, List.set_cons_zero, List.set_cons_succ, i64_w, i32_w]
      rfl
    refine pure_ (i := 36) (N := some 134) (v := ?_) (a' := ?_) #[true, true, true, true, true, true, true, true, true, true, true, true, true, true, true, true, true, true, true, true, true, true, true, true, true, true, true, true, true, true, true, true, true, true, true, true, true, false, false, false, false, false, false, false, false, false, false, false, false, false, false, false, false, false, false, false, false, false] rfl rfl (by kernel_rfl) (fun _ _ _ h => h) (Or.inl ⟨by rfl, ?_⟩) ?_ ?_
    rotate_left
    · intro w'
      go_simp
      with_reducible rfl
    rotate_left
    · simp only [Act.put, List.setIfInBounds_toArray, List.set_cons_zero, List.set_cons_succ, i64_w, i32_w]
      rfl
    refine pure_ (i := 37) (N := some 135) (v := ?_) (a' := ?_) #[true, true, true, true, true, true, true, true, true, true, true, true, true, true, true, true, true, true, true, true, true, true, true, true, true, true, true, true, true, true, true, true, true, true, true, true, true, true, false, false, false, false, false, false, false, false, false, false, false, false, false, false, false, false, false, false, false, false] rfl rfl (by kernel_rfl) (fun _ _ _ h => h) (Or.inl ⟨by rfl, ?_⟩) ?_ ?_
    rotate_left
    · intro w'
      go_simp
      with_reducible rfl
    rotate_left
    · simp only [Act.put, List.setIfInBounds_toArray, List.set_cons_zero, List.set_cons_succ, i64_w, i32_w]
      rfl
    refine pure_ (i := 38) (N := some 136) (v := ?_) (a' := ?_) #[true, true, true, true, true, true, true, true, true, true, true, true, true, true, true, true, true, true, true, true, true, true, true, true, true, true, true, true, true, true, true, true, true, true, true, true, true, true, true, false, false, false, false, false, false, false, false, false, false, false, false, false, false, false, false, false, false, false] rfl rfl (by kernel_rfl) (fun _ _ _ h => h) (Or.inl ⟨by rfl, ?_⟩) ?_ ?_
    rotate_left
    · intro w'
      go_simp
      with_reducible rfl
    rotate_left
    · simp only [Act.put, List.setIfInBounds_toArray, List.set_cons_zero, List.set_cons_succ, i64_w, i32_w]
      rfl
    refine pure_ (i := 39) (N := some 137) (v := ?_) (a' := ?_) #[true, true, true, true, true, true, true, true, true, true, true, true, true, true, true, true, true, true, true, true, true, true, true, true, true, true, true, true, true, true, true, true, true, true, true, true, true, true, true, true, false, false, false, false, false, false, false, false, false, false, false, false, false, false, false, false, false, false] rfl rfl (by kernel_rfl) (fun _ _ _ h => h) (Or.inl ⟨by rfl, ?_⟩) ?_ ?_
    rotate_left
    · intro w'
      go_simp
      with_reducible rfl
    rotate_left
    · simp only [Act.put, List.setIfInBounds_toArray, List.set_cons_zero, List.set_cons_succ, i64_w, i32_w]
      rfl
    refine take_ (i := 40) (N := some 138) (v := ?_) (a' := ?_) #[true, true, true, true, true, true, true, true, true, true, true, true, true, true, true, true, true, true, true, true, true, true, true, true, true, true, true, true, true, true, true, true, true, true, true, true, true, true, true, true, true, false, false, false, false, false, false, false, false, false, false, false, false, false, false, false, false, false] rfl rfl (by kernel_rfl) (fun _ _ _ h => h) (Or.inl ⟨by rfl, ?_⟩) hHeld ?_ ?_
    rotate_left
    · rintro w' ⟨s0, s1, s2, s3, s4, s5⟩
      go_simp
      with_reducible rfl
    rotate_left
    · simp only [Act.put, List.setIfInBounds_toArray, List.set_cons_zero, List.set_cons_succ, i64_w, i32_w]
      rfl
    refine take_ (i := 41) (N := some 139) (v := ?_) (a' := ?_) #[true, true, true, true, true, true, true, true, true, true, true, true, true, true, true, true, true, true, true, true, true, true, true, true, true, true, true, true, true, true, true, true, true, true, true, true, true, true, true, true, true, true, false, false, false, false, false, false, false, false, false, false, false, false, false, false, false, false] rfl rfl (by kernel_rfl) (fun _ _ _ h => h) (Or.inl ⟨by rfl, ?_⟩) hHeld ?_ ?_
    rotate_left
    · rintro w' ⟨s0, s1, s2, s3, s4, s5⟩
      go_simp
      with_reducible rfl
    rotate_left
    · simp only [Act.put, List.setIfInBounds_toArray, List.set_cons_zero, List.set_cons_succ, i64_w, i32_w]
      rfl
    refine one_ (i := 42) (N := some 140) #[true, true, true, true, true, true, true, true, true, true, true, true, true, true, true, true, true, true, true, true, true, true, true, true, true, true, true, true, true, true, true, true, true, true, true, true, true, true, true, true, true, true, true, false, false, false, false, false, false, false, false, false, false, false, false, false, false, false] rfl rfl (by kernel_rfl) (by decide) (fun K hK => ?_)
    refine goes_ Try.func61 (by kernel_rfl) rfl #[.agg #[.slice A17 Le.length c17], .agg #[.slice A20 Le.length c20]] (by rfl) rfl rfl (by simp only [List.map_toArray, List.map_cons, List.map_nil]; rfl) ?_
    with_reducible refine (laws_sameArena.calls k A17 c17 Le A20 c20 Le true _ X17q1.out.row X17q1.out.cap X20q1.out.row X20q1.out.cap HS2.out).mono ?_
    rintro e wq2 ⟨rfl, hb⟩
    refine ⟨_, rfl, ?_⟩
    have HBq2 := Aside0.mk (below_step HBq1.out hb)
    have X3q2 := Aside0.mk (X3q1.out.below hb)
    have X7q2 := Aside0.mk (X7q1.out.below hb)
    have X10q2 := Aside0.mk (X10q1.out.below hb)
    have X13q2 := Aside0.mk (X13q1.out.below hb)
    have X17q2 := Aside0.mk (X17q1.out.below hb)
    have X20q2 := Aside0.mk (X20q1.out.below hb)
    clear hb
    refine hK.out _ _ ⟨X3q2.out.cell, X7q2.out.cell, X10q2.out.cell, X13q2.out.cell, X17q2.out.cell, X20q2.out.cell⟩ (fun hHeld => ?_)
    clear hK K
    refine norm_ (a' := ?_) ?_ ?_
    rotate_left
    · show Act.put _ (some 140) _ = _
      simp only [Act.put, List.setIfInBounds_toArray, List.set_cons_zero, List.set_cons_succ, i64_w, i32_w]
      rfl
    refine pure_ (i := 43) (N := some 141) (v := ?_) (a' := ?_) #[true, true, true, true, true, true, true, true, true, true, true, true, true, true, true, true, true, true, true, true, true, true, true, true, true, true, true, true, true, true, true, true, true, true, true, true, true, true, true, true, true, true, true, true, false, false, false, false, false, false, false, false, false, false, false, false, false, false] rfl rfl (by kernel_rfl) (fun _ _ _ h => h) (Or.inl ⟨by rfl, ?_⟩) ?_ ?_
    rotate_left
    · intro w'
      go_simp
      with_reducible rfl
    rotate_left
    · simp only [Act.put, List.setIfInBounds_toArray, List.set_cons_zero, List.set_cons_succ, i64_w, i32_w]
      rfl
    refine pure_ (i := 44) (N := some 142) (v := ?_) (a' := ?_) #[true, true, true, true, true, true, true, true, true, true, true, true, true, true, true, true, true, true, true, true, true, true, true, true, true, true, true, true, true, true, true, true, true, true, true, true, true, true, true, true, true, true, true, true, true, false, false, false, false, false, false, false, false, false, false, false, false, false] rfl rfl (by kernel_rfl) (fun _ _ _ h => h) (Or.inl ⟨by rfl, ?_⟩) ?_ ?_
    rotate_left
    · intro w'
      go_simp
      with_reducible rfl
    rotate_left
    · simp only [Act.put, List.setIfInBounds_toArray, List.set_cons_zero, List.set_cons_succ, i64_w, i32_w]
      rfl
    refine pure_ (i := 46) (N := some 144) (v := ?_) (a' := ?_) #[true, true, true, true, true, true, true, true, true, true, true, true, true, true, true, true, true, true, true, true, true, true, true, true, true, true, true, true, true, true, true, true, true, true, true, true, true, true, true, true, true, true, true, true, true, false, true, false, false, false, false, false, false, false, false, false, false, false] rfl rfl (by kernel_rfl) (fun _ _ _ h => h) (Or.inl ⟨by rfl, ?_⟩) ?_ ?_
    rotate_left
    · intro w'
      go_simp
      with_reducible rfl
    rotate_left
    · simp only [Act.put, List.setIfInBounds_toArray, List.set_cons_zero, List.set_cons_succ, i64_w, i32_w]
      rfl
    refine pure_ (i := 49) (N := some 147) (v := ?_) (a' := ?_) #[true, true, true, true, true, true, true, true, true, true, true, true, true, true, true, true, true, true, true, true, true, true, true, true, true, true, true, true, true, true, true, true, true, true, true, true, true, true, true, true, true, true, true, true, true, false, true, false, false, true, false, false, false, false, false, false, false, false] rfl rfl (by kernel_rfl) (fun _ _ _ h => h) (Or.inl ⟨by rfl, ?_⟩) ?_ ?_
    rotate_left
    · intro w'
      go_simp
      with_reducible rfl
    rotate_left
    · simp only [Act.put, List.setIfInBounds_toArray, List.set_cons_zero, List.set_cons_succ, i64_w, i32_w]
      rfl
    refine take_ (i := 45) (N := some 143) (v := ?_) (a' := ?_) #[true, true, true, true, true, true, true, true, true, true, true, true, true, true, true, true, true, true, true, true, true, true, true, true, true, true, true, true, true, true, true, true, true, true, true, true, true, true, true, true, true, true, true, true, true, true, true, false, false, true, false, false, false, false, false, false, false, false] rfl rfl (by kernel_rfl) (fun _ _ _ h => h) (Or.inl ⟨by rfl, ?_⟩) hHeld ?_ ?_
    rotate_left
    · rintro w' ⟨s0, s1, s2, s3, s4, s5⟩
      go_simp
      with_reducible rfl
    rotate_left
    · simp only [Act.put, List.setIfInBounds_toArray, List.set_cons_zero, List.set_cons_succ, i64_w, i32_w]
      rfl
    refine take_ (i := 48) (N := some 146) (v := ?_) (a' := ?_) #[true, true, true, true, true, true, true, true, true, true, true, true, true, true, true, true, true, true, true, true, true, true, true, true, true, true, true, true, true, true, true, true, true, true, true, true, true, true, true, true, true, true, true, true, true, true, true, false, true, true, false, false, false, false, false, false, false, false] rfl rfl (by kernel_rfl) (fun _ _ _ h => h) (Or.inl ⟨by rfl, ?_⟩) hHeld ?_ ?_
    rotate_left
    · rintro w' ⟨s0, s1, s2, s3, s4, s5⟩
      go_simp
      with_reducible rfl
    rotate_left
    · simp only [Act.put, List.setIfInBounds_toArray, List.set_cons_zero, List.set_cons_succ, i64_w, i32_w]
      rfl
    refine one_ (i := 47) (N := some 145) #[true, true, true, true, true, true, true, true, true, true, true, true, true, true, true, true, true, true, true, true, true, true, true, true, true, true, true, true, true, true, true, true, true, true, true, true, true, true, true, true, true, true, true, true, true, true, true, true, true, true, false, false, false, false, false, false, false, false] rfl rfl (by kernel_rfl) (by decide) (fun K hK => ?_)
    refine goes_ Try.func30 (by kernel_rfl) rfl #[.agg #[.slice A7 Lb.length c7], .int .i64 j] (by rfl) rfl rfl (by simp only [List.map_toArray, List.map_cons, List.map_nil]; rfl) ?_
    with_reducible refine (impl_SizeOf.calls k A7 c7 Lb j z _ X7q2.out.row X7q2.out.cap HZ1.out).mono ?_
    rintro e wq3 ⟨rfl, hb⟩
    refine ⟨_, rfl, ?_⟩
    have HBq3 := Aside0.mk (below_step HBq2.out hb)
    have X3q3 := Aside0.mk (X3q2.out.below hb)
    have X7q3 := Aside0.mk (X7q2.out.below hb)
    have X10q3 := Aside0.mk (X10q2.out.below hb)
    have X13q3 := Aside0.mk (X13q2.out.below hb)
    have X17q3 := Aside0.mk (X17q2.out.below hb)
    have X20q3 := Aside0.mk (X20q2.out.below hb)
    clear hb
    refine hK.out _ _ ⟨X3q3.out.cell, X7q3.out.cell, X10q3.out.cell, X13q3.out.cell, X17q3.out.cell, X20q3.out.cell⟩ (fun hHeld => ?_)
    clear hK K
    refine norm_ (a' := ?_) ?_ ?_
    rotate_left
    · show Act.put _ (some 145) _ = _
      simp only [Act.put, List.setIfInBounds_toArray, List.set_cons_zero, List.set_cons_succ, i64_w, i32_w]
      rfl
    refine one_ (i := 50) (N := some 148) #[true, true, true, true, true, true, true, true, true, true, true, true, true, true, true, true, true, true, true, true, true, true, true, true, true, true, true, true, true, true, true, true, true, true, true, true, true, true, true, true, true, true, true, true, true, true, true, true, true, true, true, false, false, false, false, false, false, false] rfl rfl (by kernel_rfl) (by decide) (fun K hK => ?_)
    refine goes_ Try.func30 (by kernel_rfl) rfl #[.agg #[.slice (some adn) L.length c3], .int .i64 x] (by rfl) rfl rfl (by simp only [List.map_toArray, List.map_cons, List.map_nil]; rfl) ?_
    with_reducible refine (impl_SizeOf.calls k (some adn) c3 L x z _ X3q3.out.row X3q3.out.cap HZ2.out).mono ?_
    rintro e wq4 ⟨rfl, hb⟩
    refine ⟨_, rfl, ?_⟩
    have HBq4 := Aside0.mk (below_step HBq3.out hb)
    have X3q4 := Aside0.mk (X3q3.out.below hb)
    have X7q4 := Aside0.mk (X7q3.out.below hb)
    have X10q4 := Aside0.mk (X10q3.out.below hb)
    have X13q4 := Aside0.mk (X13q3.out.below hb)
    have X17q4 := Aside0.mk (X17q3.out.below hb)
    have X20q4 := Aside0.mk (X20q3.out.below hb)
    clear hb
    refine hK.out _ _ ⟨X3q4.out.cell, X7q4.out.cell, X10q4.out.cell, X13q4.out.cell, X17q4.out.cell, X20q4.out.cell⟩ (fun hHeld => ?_)
    clear hK K
    refine norm_ (a' := ?_) ?_ ?_
    rotate_left
    · show Act.put _ (some 148) _ = _
      simp only [Act.put, List.setIfInBounds_toArray, List.set_cons_zero, List.set_cons_succ, i64_w, i32_w]
      rfl
    refine pure_ (i := 51) (N := some 149) (v := ?_) (a' := ?_) #[true, true, true, true, true, true, true, true, true, true, true, true, true, true, true, true, true, true, true, true, true, true, true, true, true, true, true, true, true, true, true, true, true, true, true, true, true, true, true, true, true, true, true, true, true, true, true, true, true, true, true, true, false, false, false, false, false, false] rfl rfl (by kernel_rfl) (fun _ _ _ h => h) (Or.inl ⟨by rfl, ?_⟩) ?_ ?_
    rotate_left
    · intro w'
      go_simp
      with_reducible rfl
    rotate_left
    · simp only [Act.put, List.setIfInBounds_toArray, List.set_cons_zero, List.set_cons_succ, i64_w, i32_w]
      rfl
    refine pure_ (i := 52) (N := some 150) (v := ?_) (a' := ?_) #[true, true, true, true, true, true, true, true, true, true, true, true, true, true, true, true, true, true, true, true, true, true, true, true, true, true, true, true, true, true, true, true, true, true, true, true, true, true, true, true, true, true, true, true, true, true, true, true, true, true, true, true, true, false, false, false, false, false] rfl rfl (by kernel_rfl) (fun _ _ _ h => h) (Or.inl ⟨by rfl, ?_⟩) ?_ ?_
    rotate_left
    · intro w'
      go_simp
      with_reducible rfl
    rotate_left
    · simp only [Act.put, List.setIfInBounds_toArray, List.set_cons_zero, List.set_cons_succ, i64_w, i32_w]
      rfl
    refine pure_ (i := 53) (N := some 151) (v := ?_) (a' := ?_) #[true, true, true, true, true, true, true, true, true, true, true, true, true, true, true, true, true, true, true, true, true, true, true, true, true, true, true, true, true, true, true, true, true, true, true, true, true, true, true, true, true, true, true, true, true, true, true, true, true, true, true, true, true, true, false, false, false, false] rfl rfl (by kernel_rfl) (fun _ _ _ h => h) (Or.inl ⟨by rfl, ?_⟩) ?_ ?_
    rotate_left
    · intro w'
      go_simp
      with_reducible rfl
    rotate_left
    · simp only [Act.put, List.setIfInBounds_toArray, List.set_cons_zero, List.set_cons_succ, i64_w, i32_w]
      rfl
    refine take_ (i := 54) (N := some 152) (v := ?_) (a' := ?_) #[true, true, true, true, true, true, true, true, true, true, true, true, true, true, true, true, true, true, true, true, true, true, true, true, true, true, true, true, true, true, true, true, true, true, true, true, true, true, true, true, true, true, true, true, true, true, true, true, true, true, true, true, true, true, true, false, false, false] rfl rfl (by kernel_rfl) (fun _ _ _ h => h) (Or.inl ⟨by rfl, ?_⟩) hHeld ?_ ?_
    rotate_left
    · rintro w' ⟨s0, s1, s2, s3, s4, s5⟩
      go_simp
      with_reducible rfl
    rotate_left
    · simp only [Act.put, List.setIfInBounds_toArray, List.set_cons_zero, List.set_cons_succ, i64_w, i32_w]
      rfl
    refine one_ (i := 55) (N := some 153) #[true, true, true, true, true, true, true, true, true, true, true, true, true, true, true, true, true, true, true, true, true, true, true, true, true, true, true, true, true, true, true, true, true, true, true, true, true, true, true, true, true, true, true, true, true, true, true, true, true, true, true, true, true, true, true, true, false, false] rfl rfl (by kernel_rfl) (by decide) (fun K hK => ?_)
    refine goes_ Try.func27 (by kernel_rfl) rfl #[.agg #[.slice A7 Lb.length c7]] (by rfl) rfl rfl (by simp only [List.map_toArray, List.map_cons, List.map_nil]; rfl) ?_
    with_reducible refine (impl_ArenaOk.calls A7 c7 Lb true _ X7q4.out.row X7q4.out.cap HOK.out).mono ?_
    rintro e wq5 ⟨rfl, hb⟩
    refine ⟨_, rfl, ?_⟩
    have HBq5 := Aside0.mk (below_step HBq4.out hb)
    have X3q5 := Aside0.mk (X3q4.out.below hb)
    have X7q5 := Aside0.mk (X7q4.out.below hb)
    have X10q5 := Aside0.mk (X10q4.out.below hb)
    have X13q5 := Aside0.mk (X13q4.out.below hb)
    have X17q5 := Aside0.mk (X17q4.out.below hb)
    have X20q5 := Aside0.mk (X20q4.out.below hb)
    clear hb
    refine hK.out _ _ ⟨X3q5.out.cell, X7q5.out.cell, X10q5.out.cell, X13q5.out.cell, X17q5.out.cell, X20q5.out.cell⟩ (fun hHeld => ?_)
    clear hK K
    refine norm_ (a' := ?_) ?_ ?_
    rotate_left
    · show Act.put _ (some 153) _ = _
      simp only [Act.put, List.setIfInBounds_toArray, List.set_cons_zero, List.set_cons_succ, i64_w, i32_w]
      rfl
    refine pure_ (i := 56) (N := some 154) (v := ?_) (a' := ?_) #[true, true, true, true, true, true, true, true, true, true, true, true, true, true, true, true, true, true, true, true, true, true, true, true, true, true, true, true, true, true, true, true, true, true, true, true, true, true, true, true, true, true, true, true, true, true, true, true, true, true, true, true, true, true, true, true, true, false] rfl rfl (by kernel_rfl) (fun _ _ _ h => h) (Or.inl ⟨by rfl, ?_⟩) ?_ ?_
    rotate_left
    · intro w'
      go_simp
      with_reducible rfl
    rotate_left
    · simp only [Act.put, List.setIfInBounds_toArray, List.set_cons_zero, List.set_cons_succ, i64_w, i32_w]
      rfl
    refine pure_ (i := 57) (N := some 2) (v := ?_) (a' := ?_) #[true, true, true, true, true, true, true, true, true, true, true, true, true, true, true, true, true, true, true, true, true, true, true, true, true, true, true, true, true, true, true, true, true, true, true, true, true, true, true, true, true, true, true, true, true, true, true, true, true, true, true, true, true, true, true, true, true, true] rfl rfl (by kernel_rfl) (fun _ _ _ h => h) (Or.inl ⟨by rfl, ?_⟩) ?_ ?_
    rotate_left
    · intro w'
      go_simp
      with_reducible rfl
    rotate_left
    · simp only [Act.put, List.setIfInBounds_toArray, List.set_cons_zero, List.set_cons_succ, i64_w, i32_w]
      rfl
    refine done_ (by kernel_rfl) ?_
    go_wp2
    go_ret
    exact ⟨by first | rfl | simp, HBq5.out⟩

-- ALLX
-- OWNSIZE
theorem rd_mem {l : List Int} {r : Int} (h0 : 0 ≤ r) (h1 : r < l.length) : rd l r ∈ l := by
  obtain ⟨k, rfl⟩ := Int.eq_ofNat_of_zero_le h0
  rw [rd_nat (by omega)]
  exact List.getElem_mem _
theorem DrawArena_f (l : List Int) (hl : l.length ≤ 140737488351232) : ∃ r : List S34, Ev (fun k => spec_DrawArena.f k l) r ∧ aok r = true ∧ 1 ≤ r.length ∧ r.length ≤ 12 := by
  obtain ⟨h, hh⟩ := New_f l hl
  obtain ⟨ns, i2, h2, e2, c2, ha, n1, n2⟩ := Arena_f h (cur_zero hl)
  exact ⟨ns, Ev.bind hh (ev_now e2 (Ev.now _)), ha, n1, n2⟩
theorem Text_ev {l : List Int} (n : Nat) (hn : n ≤ 5000) : ∀ (d j : Nat) (xs : List Int) (i h : Int), Cur l i → xs.length = j → n - j = d → j ≤ n → ∃ v, Ev (fun k => spec_l01Text.l0 k (n : Int) xs (j : Int) l i h) v ∧ v.1.size = n ∧ Cur l v.2.1 := by
  intro d
  induction d with
  | zero =>
    intro j xs i h c hx hd hj
    exact ⟨_, ev_end (fun k => by rw [spec_l01Text.l0, if_neg (by omega)]), by simp only [strOfNums_size]; omega, c⟩
  | succ d ih =>
    intro j xs i h c hx hd hj
    obtain ⟨r, i', h', e, c', _, _⟩ := Byte_f h c
    obtain ⟨v, hv, hz, hc⟩ := ih (j + 1) (xs ++ [r % 256]) i' h' c' (by simp [hx]) (by omega) (by omega)
    refine ⟨v, Ev.step (fun k => by rw [spec_l01Text.l0, if_pos (by omega), e, Option.bind_some, if_pos (by omega), w64 (x := (j : Int) + 1) (by omega) (by omega)]; rfl) hv, hz, hc⟩
theorem Text_f {l : List Int} (n : Nat) (hn : n ≤ 5000) (i h : Int) (c : Cur l i) : ∃ v, Ev (fun k => spec_l01Text.f k l i h (n : Int)) v ∧ v.1.size = n ∧ Cur l v.2.1 := by
  obtain ⟨v, hv, hz, hc⟩ := Text_ev n hn n 0 [] i h c rfl (by omega) (by omega)
  exact ⟨v, evF (by omega) (Ev.step (fun k => by rw [spec_l01Text.j0]; rfl) hv), hz, hc⟩
theorem Spoilt_j {l : List Int} (i h : Int) (c : Cur l i) (s : ByteArray) (hs : s.size ≤ 100000) (b : Bool) : ∃ v, Ev (fun k => spec_l02Spoilt.j0 k s b l i h) v ∧ v.1.size ≤ 300000 := by
  by_cases hb : b = true
  · by_cases hz : (s.size : Int) > 0
    · obtain ⟨r, i', h', e, c', r0, _⟩ := Below_f h (s.size : Int) (by omega) c
      have hr := r0 (by omega)
      obtain ⟨v, hv, hvz, _⟩ := Text_f 1 (by omega) i' h' c'
      have x1 : (s.extract 0 r.toNat).size ≤ s.size := by rw [ByteArray.size_extract]; omega
      have x2 : (s.extract (r + 1).toNat s.size).size ≤ s.size := by rw [ByteArray.size_extract]; omega
      have hG : Ev (fun k => (spec_l01Text.f k l i' h' 1).bind (fun bt421 => if (s.extract 0 r.toNat).size + bt421.1.size ≤ 9223372036854775807 then (if 0 ≤ r + 1 then (if r + 1 ≤ (s.size : Int) then (if ((s.extract 0 r.toNat) ++ bt421.1).size + (s.extract (r + 1).toNat s.size).size ≤ 9223372036854775807 then some (((s.extract 0 r.toNat) ++ bt421.1) ++ (s.extract (r + 1).toNat s.size), bt421.2.1, bt421.2.2) else none) else none) else none) else none)) (((s.extract 0 r.toNat) ++ v.1) ++ (s.extract (r + 1).toNat s.size), v.2.1, v.2.2) :=
        Ev.bind hv (evT (by omega) (evT (by omega) (evT (by omega) (evT (by rw [ByteArray.size_append]; omega) (Ev.now _)))))
      refine ⟨_, Ev.step (fun k => by rw [spec_l02Spoilt.j0, if_pos hb, if_pos hz, e, Option.bind_some, if_pos hr.1, if_pos (by simp only; omega)]; simp only; rw [w64 (x := r + 1) (by omega) (by omega)]) hG, by simp only [ByteArray.size_append]; omega⟩
    · exact ⟨(s, i, h), ev_end (fun k => by rw [spec_l02Spoilt.j0, if_pos hb, if_neg hz]), by simp only; omega⟩
  · exact ⟨(s, i, h), ev_end (fun k => by rw [spec_l02Spoilt.j0, if_neg hb]), by simp only; omega⟩
theorem Spoilt_f {l : List Int} (i h : Int) (c : Cur l i) (s : ByteArray) (hs : s.size ≤ 100000) : ∃ v, Ev (fun k => spec_l02Spoilt.f k l i h s) v ∧ v.1.size ≤ 300000 := by
  obtain ⟨r, i1, h1, e, c1, _, _⟩ := Below_f h 12 (by omega) c
  by_cases k0 : r = 0
  · obtain ⟨v, hv, hvz, _⟩ := Text_f 1 (by omega) i1 h1 c1
    exact ⟨(s ++ v.1, v.2.1, v.2.2), ev_now e (evT k0 (Ev.bind hv (evT (by omega) (Ev.now _)))), by simp only [ByteArray.size_append]; omega⟩
  by_cases k1 : r = 1
  · obtain ⟨q, i2, h2, e2, c2, r0, _⟩ := Below_f h1 (wrap64 ((s.size : Int) + 1)) (by rw [w64 (by omega) (by omega)]; omega) c1
    rw [w64 (x := (s.size : Int) + 1) (by omega) (by omega)] at r0
    have hr := r0 (by omega)
    exact ⟨(s.extract 0 q.toNat, i2, h2), ev_now e (evF k0 (evT k1 (ev_now e2 (evT hr.1 (evT (by simp only; omega) (Ev.now _)))))), by simp only [ByteArray.size_extract]; omega⟩
  obtain ⟨v2, hv2, z2⟩ := Spoilt_j i1 h1 c1 s hs (r == 2)
  obtain ⟨v3, hv3, z3⟩ := Spoilt_j i1 h1 c1 s hs (r == 3)
  by_cases k2 : r = 2
  · exact ⟨v2, ev_now e (evF k0 (evF k1 (evT k2 hv2))), z2⟩
  · exact ⟨v3, ev_now e (evF k0 (evF k1 (evF k2 hv3))), z3⟩
theorem termText_size (l : List S34) (a : Int) : (termText l a).1.size ≤ 8000 := by
  unfold termText
  by_cases h : 1 ≤ Go.Proofs.Ytkckdibalopagaa.SFnTerms.Hand.sizeOf l a ∧ Go.Proofs.Ytkckdibalopagaa.SFnTerms.Hand.sizeOf l a ≤ 2000
  · rw [if_pos h]
    unfold Go.Proofs.Ytkckdibalopagaa.SFnTerms.Hand.sizeOf at h
    by_cases h2 : 0 ≤ a ∧ a < (l.length : Int)
    · rw [if_pos h2] at h
      have := termL_length l (a.toNat + 1) a.toNat (by omega) (by omega) (by omega)
      simp only [strOfNums_size]
      omega
    · rw [if_neg h2] at h; omega
  · rw [if_neg h]
    show (0 : Nat) ≤ _
    omega
theorem ReadDraw_f (l : List Int) (hl : l.length ≤ 140737488351232) : ∃ r : List S34 × ByteArray, Ev (fun k => spec_DrawReadTerm.f k l) r ∧ r.1.length ≤ 13 ∧ r.2.size ≤ 300000 := by
  obtain ⟨h, hh⟩ := New_f l hl
  obtain ⟨q, i1, h1, e1, c1, _, _⟩ := Below_f h 5 (by omega) (cur_zero hl)
  obtain ⟨ns, i2, h2, e2, c2, ha, n1, n2⟩ := Arena_f h1 c1
  have hT := spec_TermText_f ns (by omega) (wrap64 ((ns.length : Int) - 1))
  have hz := termText_size ns (wrap64 ((ns.length : Int) - 1))
  generalize termText ns (wrap64 ((ns.length : Int) - 1)) = T at hT hz
  obtain ⟨ms, i3, h3, e3, c3, m1, m2, _⟩ := Any_f h2 c2
  have main : ∃ r : List S34 × ByteArray, Ev (fun k => if q = 0 then ((spec_l02Spoilt.f k l i3 h3 T.1).bind fun bt446 => (some (ms, bt446.1))) else (if q = 1 then (if T.1.size + 1 ≤ 9223372036854775807 then (some (ms, T.1 ++ (⟨#[1]⟩ : ByteArray))) else (none)) else (if q = 2 then (some (ns, T.1)) else (some (ms, T.1))))) r ∧ r.1.length ≤ 13 ∧ r.2.size ≤ 300000 := by
    by_cases k0 : q = 0
    · obtain ⟨v, hv, vz⟩ := Spoilt_f i3 h3 c3 T.1 (by omega)
      exact ⟨(ms, v.1), evT k0 (Ev.bind hv (Ev.now _)), m2, vz⟩
    by_cases k1 : q = 1
    · exact ⟨(ms, T.1 ++ (⟨#[1]⟩ : ByteArray)), evF k0 (evT k1 (evT (by omega) (Ev.now _))), m2, by rw [ByteArray.size_append]; show T.1.size + 1 ≤ _; omega⟩
    by_cases k2 : q = 2
    · exact ⟨(ns, T.1), evF k0 (evF k1 (evT k2 (Ev.now _))), by simp only; omega, by simp only; omega⟩
    · exact ⟨(ms, T.1), evF k0 (evF k1 (evF k2 (Ev.now _))), m2, by simp only; omega⟩
  obtain ⟨r, hr, hz1, hz2⟩ := main
  exact ⟨r, Ev.bind hh (ev_now e1 (ev_now e2 (Ev.bind hT (ev_now e3 hr)))), hz1, hz2⟩
theorem aok_wf {l : List S34} (h : aok l = true) : l.all wf1 = true := by
  refine small_all (fun x hx => ?_)
  obtain ⟨j, hj, rfl⟩ := List.getElem_of_mem hx
  have hr := ((aok_parts h).2 j hj).1
  have hlen := (aok_parts h).1
  obtain ⟨q0, q1, q2, q3, q4⟩ := node_parts hr
  rw [nodeOf_get hj] at q0 q1 q2 q3 q4
  generalize l[j] = x at *
  by_cases k1 : x.f0 = 1
  · have := q1 k1; exact ⟨by omega, by omega, by omega, by omega⟩
  · have h2 := q2 k1
    by_cases k3 : x.f0 = 3 ∨ x.f0 = 6
    · have := q3 k3; exact ⟨by omega, by omega, by omega, by omega⟩
    · have := q4 k1 k3; exact ⟨by omega, by omega, by omega, by omega⟩
theorem impl_Read_eq (l : List S34) (t : ByteArray) (hl : l.length ≤ 1048576) (ht : t.size ≤ 140737488351232) : impl_ReadTerm.f l t = some (readS l t) := by
  unfold impl_ReadTerm.f
  rw [if_pos ⟨hl, ht⟩, readI_eq]
theorem spec_Read_eq (l : List S34) (t : ByteArray) (hl : l.length ≤ 1048576) (ht : t.size ≤ 140737488351232) : spec_ReadTerm.f l t = some (readS l t) := by
  unfold spec_ReadTerm.f
  rw [if_pos ⟨hl, ht⟩]
theorem readS_len (l : List S34) (t : ByteArray) (hl : l.length ≤ 1048576) : (readS l t).1.length ≤ 1048576 := by
  unfold readS chkT
  split
  · exact hl
  split
  · exact hl
  split
  · exact hl
  split
  · exact hl
  · exact rdS_len t 2001 _ 0 hl
set_option maxRecDepth 100000 in
theorem walk (A0 : Option Addr) (c0 : Nat) (l0 : List Int) (w : World) (hr0 : Kd.C (Kd.int .u8) w A0 l0.length l0) (hc0 : l0.length ≤ c0) (hl : l0.length * 1 ≤ 140737488351232) :
    Calls Try.prog 13 #[.slice A0 l0.length c0] w fun e w' => e = .returned (.bool true) ∧ Below w.heap.size w w' := by
  by_cases hbig : (l0.length : Int) ≤ 1048576
  · obtain ⟨ps, ⟨K1, f1⟩, hlen, hall⟩ := Places_f l0 (by omega)
    obtain ⟨L, ⟨K2, f2⟩, a0, n1, n2⟩ := DrawArena_f l0 (by omega)
    have b0 := hall _ (rd_mem (r := 0) (by omega) (by omega))
    obtain ⟨x, hx, hxl⟩ : ∃ x : Nat, Int.tmod (rd ps 0) (L.length : Int) = (x : Int) ∧ x < L.length := by
      have h0 : 0 ≤ Int.tmod (rd ps 0) (L.length : Int) := by rw [Int.tmod_eq_emod_of_nonneg b0.1]; exact Int.emod_nonneg _ (by omega)
      have h1 : Int.tmod (rd ps 0) (L.length : Int) < (L.length : Int) := by rw [Int.tmod_eq_emod_of_nonneg b0.1]; exact Int.emod_lt_of_pos _ (by omega)
      obtain ⟨x, hx⟩ := Int.eq_ofNat_of_zero_le h0
      exact ⟨x, hx, by omega⟩
    obtain ⟨⟨X, sx⟩, ⟨K3, f3⟩, z1, z2⟩ := ReadDraw_f l0 (by omega)
    simp only at z1 z2
    have htz := termText_size L (x : Int)
    have hput : impl_Put.f L (rd_T34 L (x : Int)).f0 (rd_T34 L (x : Int)).f1 (rd_T34 L (x : Int)).f2 (rd_T34 L (x : Int)).f3 = some (L, (x : Int)) := by
      unfold impl_Put.f
      rw [if_pos (by omega)]
      show some (endN L (putB L false (nodeOf L x))) = _
      rw [putB_ok (put_there a0 hxl), end_ok]
    obtain ⟨K4, f4⟩ := impl_TermText_f L (by omega) (x : Int)
    obtain ⟨K5, f5⟩ := impl_SizeOf_f L (by omega) (x : Int)
    obtain ⟨K6, f6⟩ := same_f L (by omega)
    obtain ⟨K7, f7⟩ := same_f (readS X sx).1 (readS_len X sx (by omega))
    have hpos := sz_aok a0 hxl
    have hso : Go.Proofs.Ytkckdibalopagaa.SFnTerms.Hand.sizeOf L (x : Int) = szAt L x := by
      unfold Go.Proofs.Ytkckdibalopagaa.SFnTerms.Hand.sizeOf
      rw [if_pos ⟨by omega, by omega⟩, Int.toNat_natCast]
    rw [hso] at f5
    by_cases hc : szAt L x ≤ 2000
    · have htt : termText L (x : Int) = (strOfNums (termL L (x + 1) x), true) := by
        unfold termText
        rw [if_pos ⟨by omega, by omega⟩, Int.toNat_natCast]
      rw [htt] at f4 htz
      obtain ⟨⟨Lb, m, r1, ab, hm, zb, tb⟩, r2⟩ := told_read a0 hxl hc (by omega)
      have hlb := (aok_parts ab).1
      obtain ⟨K8, f8⟩ := impl_TermText_f Lb (by omega) (m : Int)
      obtain ⟨K9, f9⟩ := impl_SizeOf_f Lb (by omega) (m : Int)
      have hsb : Go.Proofs.Ytkckdibalopagaa.SFnTerms.Hand.sizeOf Lb (m : Int) = szAt Lb m := by
        unfold Go.Proofs.Ytkckdibalopagaa.SFnTerms.Hand.sizeOf
        rw [if_pos ⟨by omega, by omega⟩, Int.toNat_natCast]
      rw [hsb, zb] at f9
      rw [tb] at f8
      have hok : impl_ArenaOk.f Lb = some true := by
        unfold impl_ArenaOk.f
        rw [if_pos (aok_wf ab), ab]
      have g3 := impl_Read_eq [] (strOfNums (termL L (x + 1) x)) (by simp) (by simp only at htz; omega)
      rw [r1] at g3
      have g4 := impl_Read_eq L (strOfNums (termL L (x + 1) x)) (by omega) (by simp only at htz; omega)
      rw [r2] at g4
      exact law_terms A0 c0 l0 (K1 + K2 + K3 + K4 + K5 + K6 + K7 + K8 + K9) L Lb L L (readS X sx).1 X ps _ (x : Int) (m : Int) (x : Int) (x : Int) (readS X sx).2.1 _ sx true true true (readS X sx).2.2 w hr0 hc0 hbig (f2 _ (by omega)) (f1 _ (by omega)) hlen rfl hx ⟨by omega, by omega⟩ (f4 _ (by omega)) g3 g4 hput (f3 _ (by omega)) (impl_Read_eq X sx (by omega) (by omega)) (spec_Read_eq X sx (by omega) (by omega))
        (fun h => by cases h) (fun _ => ⟨rfl, rfl, rfl, rfl, rfl, rfl, ⟨true, f8 _ (by omega)⟩, f6 _ (by omega), f7 _ (by omega), ⟨_, f9 _ (by omega), f5 _ (by omega)⟩, hok⟩)
    · have htt : termText L (x : Int) = ((⟨#[]⟩ : ByteArray), false) := by
        unfold termText
        rw [if_neg (by omega)]
      rw [htt] at f4 htz
      have g3 := impl_Read_eq [] (⟨#[]⟩ : ByteArray) (by simp) (by simp only at htz; omega)
      have g4 := impl_Read_eq L (⟨#[]⟩ : ByteArray) (by omega) (by simp only at htz; omega)
      exact law_terms A0 c0 l0 (K1 + K2 + K3 + K4 + K5 + K6 + K7) L (readS [] (⟨#[]⟩ : ByteArray)).1 (readS L (⟨#[]⟩ : ByteArray)).1 L (readS X sx).1 X ps _ (x : Int) (readS [] (⟨#[]⟩ : ByteArray)).2.1 (readS L (⟨#[]⟩ : ByteArray)).2.1 (x : Int) (readS X sx).2.1 _ sx false _ _ (readS X sx).2.2 w hr0 hc0 hbig (f2 _ (by omega)) (f1 _ (by omega)) hlen rfl hx ⟨by omega, by omega⟩ (f4 _ (by omega)) g3 g4 hput (f3 _ (by omega)) (impl_Read_eq X sx (by omega) (by omega)) (spec_Read_eq X sx (by omega) (by omega))
        (fun _ => ⟨_, f5 _ (by omega), by omega⟩) (fun h => by cases h)
  · have HBIG : Aside0 (laws_big.f l0 = some true) := ⟨by unfold laws_big.f; rw [decide_eq_true (by omega)]⟩
    have HR0 := Aside0.mk hr0
    have HC0 := Aside0.mk hc0
    clear hr0 hc0 hbig hl
    go_enter Try.func13, Try.ntmps13
    go_wp2_with (go_at_call 14; ((with_reducible refine (laws_big.calls A0 c0 l0 true _ HR0.out HC0.out HBIG.out).mono ?_); rintro e w2 ⟨rfl, hd⟩); have HB2 := Aside0.mk hd.below; clear hd)
    go_ret
    exact ⟨rfl, HB2.out⟩

end Go.Proofs.Ytkckdibalopagaa.Pure
