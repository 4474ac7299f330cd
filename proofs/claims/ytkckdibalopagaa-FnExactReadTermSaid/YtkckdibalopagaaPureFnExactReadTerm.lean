/- Proved: the program's ReadTerm returns what the reference's ReadTerm returns, for every arena and every text, in memory of its own, and leaves the arena as it was; no condition. -/
import Derived.Test.YtkckdibalopagaaSFnExactReadTermx10
import Derived.Test.YtkckdibalopagaaRBase
namespace Go.Proofs.Ytkckdibalopagaa.Pure
open Go.RowKit Go.Proofs.Ytkckdibalopagaa.SFnExactReadTerm Go.Proofs.Ytkckdibalopagaa.Base Go.Proofs.YtkckdibalopagaaW.PrintWords Go.Proofs.YtkckdibalopagaaW.PrintLast Go.Proofs.YtkckdibalopagaaW.PrintMore
open Go.Proofs.Ytkckdibalopagaa.SFnExactReadTerm.Hand
set_option linter.unusedVariables false
set_option linter.unusedSimpArgs false

/-! what the program reads is what the reference reads -/
theorem putB_ok {l : List S34} {bb : Bool} {x : S34} (h : (putB l bb x).2.1 = false) : bb = false ∧ 0 ≤ (putN l x).2 ∧ putB l bb x = ((putN l x).1, false, (putN l x).2) := by
  unfold putB at h ⊢
  cases bb with
  | true => simp at h
  | false =>
    simp only [Bool.false_eq_true, if_false] at h ⊢
    by_cases hn : (putN l x).2 < 0
    · rw [if_pos hn] at h; simp at h
    · rw [if_neg hn]; exact ⟨trivial, by omega, rfl⟩
theorem putB_good {l : List S34} {x : S34} (h : 0 ≤ (putN l x).2) : putB l false x = ((putN l x).1, false, (putN l x).2) := by
  unfold putB
  rw [if_neg (by simp), if_neg (by omega)]
theorem one_iff {k : Int} : oneKind k = true ↔ (k = 3 ∨ k = 6) := by unfold oneKind; simp
theorem tmI_bb (t : ByteArray) : ∀ (d : Nat) (s : TmR), (tmI t d s).bb = false → s.bb = false := by
  intro d
  induction d with
  | zero => intro s h; exact h
  | succ d ih =>
    intro s h
    have h1 := ih (atT s (readVar t s.at_).2.1)
    have h2 := ih (tmI t d (atT s (readVar t s.at_).2.1))
    rw [tmI] at h
    split at h
    · exact h
    split at h
    · exact h
    split at h
    · exact h
    split at h
    · split at h
      · exact h
      · exact (putB_ok h).1
    split at h
    · exact h1 h
    split at h
    · exact h1 (putB_ok h).1
    split at h
    · exact h1 (h2 h)
    · exact h1 (h2 (putB_ok h).1)
theorem read_to (t : ByteArray) : ∀ (d : Nat) (s : TmR) (e : Nat), (tmI t d s).sb = false → (tmI t d s).bb = false → (tmI t d s).sz - s.sz ≤ (e : Int) →
    rdS t e s.l s.at_ = ((tmI t d s).l, (tmI t d s).v, (tmI t d s).at_) ∧ 0 ≤ (tmI t d s).v := by
  intro d
  induction d with
  | zero => intro s e h; simp [tmI, badT] at h
  | succ d ih =>
    intro s e hs hb he
    have hz := tmI_sz t (d + 1) s
    have hz1 := hz.2 hs
    obtain ⟨e, rfl⟩ : ∃ e', e = e' + 1 := ⟨e - 1, by omega⟩
    have h1 := ih (atT s (readVar t s.at_).2.1)
    have hx := tmI_sz t d (atT s (readVar t s.at_).2.1)
    have hy := tmI_sz t d (tmI t d (atT s (readVar t s.at_).2.1))
    have h2 := ih (tmI t d (atT s (readVar t s.at_).2.1))
    have ea : (atT s (readVar t s.at_).2.1).sz = s.sz + 1 := rfl
    have el : (atT s (readVar t s.at_).2.1).l = s.l := rfl
    have et : (atT s (readVar t s.at_).2.1).at_ = (readVar t s.at_).2.1 := rfl
    rw [ea] at hx h1
    rw [el, et] at h1
    rw [tmI] at hs hb he ⊢
    rw [rdS]
    generalize hX : tmI t d (atT s (readVar t s.at_).2.1) = X at *
    generalize hY : tmI t d X = Y at *
    split at hs
    · simp [badT] at hs
    rename_i c0
    rw [if_neg c0] at hb he ⊢
    split at hs
    · simp [badT] at hs
    rename_i c1
    rw [if_neg c1] at hb he ⊢
    split at hs
    · simp [badT] at hs
    rename_i c2
    rw [if_neg c2] at hb he ⊢
    have c2' := Decidable.not_not.1 c2
    rw [if_pos ⟨by simpa using c1, c2'.1, c2'.2⟩]
    split at hs
    · rename_i c3
      rw [if_pos c3] at hb he ⊢
      rw [if_pos c3]
      split at hs
      · simp [badT] at hs
      rename_i c4
      rw [if_neg c4] at hb he ⊢
      rw [if_pos (by simpa using c4)]
      obtain ⟨_, p1, p2⟩ := putB_ok hb
      have p2 : putB s.l s.bb ⟨1, (readVar t (readVar t s.at_).2.1).1, 0, 0⟩ = _ := p2
      simp only [putT, atT]
      rw [p2]
      exact ⟨rfl, p1⟩
    rename_i c3
    rw [if_neg c3] at hb he ⊢
    rw [if_neg c3]
    split at hs
    · simp [badT] at hs
    rename_i c5
    rw [if_neg c5] at hb he ⊢
    have hxs : X.sb = false := by simpa using c5
    split at hs
    · rename_i c6
      rw [if_pos c6] at hb he ⊢
      obtain ⟨b1, p1, p2⟩ := putB_ok hb
      have he : X.sz - s.sz ≤ ((e + 1 : Nat) : Int) := he
      obtain ⟨q1, q2⟩ := h1 e hxs b1 (by omega)
      rw [q1]
      simp only
      rw [if_neg (by omega), if_pos (one_iff.1 c6)]
      simp only [putT]
      rw [p2]
      exact ⟨rfl, p1⟩
    rename_i c6
    rw [if_neg c6] at hb he ⊢
    split at hs
    · simp [badT] at hs
    rename_i c7
    rw [if_neg c7] at hb he ⊢
    have hys : Y.sb = false := by simpa using c7
    obtain ⟨b1, p1, p2⟩ := putB_ok hb
    have he : Y.sz - s.sz ≤ ((e + 1 : Nat) : Int) := he
    have hbx : X.bb = false := tmI_bb t d X (by rw [hY]; exact b1)
    have hx2 := hx.2 hxs
    have hy2 := hy.2 hys
    obtain ⟨q1, q2⟩ := h1 e hxs hbx (by omega)
    obtain ⟨q3, q4⟩ := h2 e hys b1 (by omega)
    rw [q1]
    simp only
    rw [if_neg (by omega), if_neg (fun h => c6 (one_iff.2 h)), q3]
    simp only
    rw [if_neg (by omega)]
    simp only [putT]
    rw [p2]
    exact ⟨rfl, p1⟩
/-- a node put lies at its place -/
theorem putN_place {l : List S34} {x : S34} (h : 0 ≤ (putN l x).2) : ∃ k : Nat, (putN l x).2 = (k : Int) ∧ k < (putN l x).1.length ∧ nodeOf (putN l x).1 k = x ∧ ∃ e, (putN l x).1 = l ++ e := by
  rcases putN_cases l x with ⟨_, h2⟩ | ⟨_, h0, ⟨h1, h2, h3⟩ | ⟨_, _, h1, h2⟩⟩
  · omega
  · rcases atV_cases l x with ha | ⟨a0, a1, a2⟩
    · omega
    · rw [h1, h3]
      exact ⟨(atV l x).toNat, by omega, by omega, a2, [], by simp⟩
  · rw [h1, h2]
    refine ⟨l.length, rfl, by simp, ?_, [x], rfl⟩
    rw [nodeOf_get (by simp)]
    simp
theorem nodeOf_app {l e : List S34} {k : Nat} (h : k < l.length) : nodeOf (l ++ e) k = nodeOf l k := by
  rw [nodeOf_get (by simp; omega), nodeOf_get h, List.getElem_append_left h]
/-- what the reference reads, the program reads too, or finds too big -/
theorem read_back (t : ByteArray) : ∀ (d' : Nat) (l : List S34) (a : Int), 0 ≤ (rdS t d' l a).2.1 → ∃ n k : Nat, 1 ≤ n ∧ (rdS t d' l a).2.1 = (k : Int) ∧ k < (rdS t d' l a).1.length ∧ (∃ e, (rdS t d' l a).1 = l ++ e) ∧
    (∀ e, 0 < szAt ((rdS t d' l a).1 ++ e) k → szAt ((rdS t d' l a).1 ++ e) k ≤ 2000 → szAt ((rdS t d' l a).1 ++ e) k = (n : Int)) ∧
    (∀ (d : Nat) (z : Int) (b : Bool) (v : Int), 0 ≤ z → z ≤ 2000 → 2001 ≤ z + d → (z + n ≤ 2000 → tmI t d ⟨l, false, a, z, b, v⟩ = ⟨(rdS t d' l a).1, false, (rdS t d' l a).2.2, z + n, false, (rdS t d' l a).2.1⟩) ∧ (2000 < z + n → (tmI t d ⟨l, false, a, z, b, v⟩).sb = true)) := by
  intro d'
  induction d' with
  | zero => intro l a h; exact absurd h (by simp [rdS])
  | succ d' ih =>
    intro l a h
    rw [rdS] at h ⊢
    split at h
    case isFalse => exact absurd h (by simp)
    rename_i c0
    rw [if_pos c0]
    have c0a : ¬ ((readVar t a).2.2 = false) := by rw [c0.1]; simp
    have c0b : ¬ ¬ (1 ≤ (readVar t a).1 ∧ (readVar t a).1 ≤ 9) := fun hh => hh c0.2
    split at h
    · rename_i c1
      rw [if_pos c1]
      split at h
      case isFalse => exact absurd h (by simp)
      rename_i c2
      rw [if_pos c2]
      simp only at h ⊢
      obtain ⟨k, k1, k2, k3, k4⟩ := putN_place h
      refine ⟨1, k, Nat.le_refl _, k1, k2, k4, fun e h0 h1 => ?_, fun d z b v z0 z1 z2 => ?_⟩
      · have hs := (sz_split h0 h1).2.1
        rw [nodeOf_app k2, k3] at hs
        exact hs rfl
      · obtain ⟨d, rfl⟩ : ∃ d1, d = d1 + 1 := ⟨d - 1, by omega⟩
        rw [tmI]
        simp only
        by_cases hz : 2000 < z + 1
        · rw [if_pos hz]
          exact ⟨fun hh => by exfalso; omega, fun _ => rfl⟩
        · rw [if_neg hz, if_neg c0a, if_neg c0b, if_pos c1, if_neg (by rw [c2]; simp)]
          refine ⟨fun _ => ?_, fun hh => by exfalso; omega⟩
          simp only [putT, atT]
          rw [putB_good h]
          rfl
    · rename_i c1
      rw [if_neg c1]
      split at h
      · exact absurd h (by simp)
      rename_i c2
      rw [if_neg c2]
      obtain ⟨n1, k1, n1p, hk1, hl1, ⟨e1, he1⟩, hsz1, hrd1⟩ := ih l (readVar t a).2.1 (by omega)
      generalize hX : rdS t d' l (readVar t a).2.1 = X at *
      obtain ⟨lx, vx, ax⟩ := X
      simp only at hk1 hl1 he1 hsz1 hrd1 h c2 ⊢
      split at h
      · rename_i c3
        rw [if_pos c3]
        simp only at h ⊢
        obtain ⟨k, q1, q2, q3, e2, q4⟩ := putN_place h
        refine ⟨n1 + 1, k, by omega, q1, q2, ⟨e1 ++ e2, by rw [q4, he1, List.append_assoc]⟩, fun e h0 h1 => ?_, fun d z b v z0 z1 z2 => ?_⟩
        · have hs := (sz_split h0 h1).2.2.1
          rw [nodeOf_app q2, q3] at hs
          obtain ⟨x, hx, _, hx2, hx3⟩ := hs c1 (one_iff.2 c3)
          have hx : vx = (x : Int) := hx
          obtain rfl : x = k1 := by omega
          have hh := hsz1 (e2 ++ e)
          rw [← List.append_assoc, ← q4] at hh
          have := hh hx2 (by omega)
          omega
        · obtain ⟨d, rfl⟩ : ∃ d1, d = d1 + 1 := ⟨d - 1, by omega⟩
          rw [tmI]
          simp only
          by_cases hz : 2000 < z + 1
          · rw [if_pos hz]
            exact ⟨fun hh => by exfalso; omega, fun _ => rfl⟩
          · rw [if_neg hz, if_neg c0a, if_neg c0b, if_neg c1]
            have hr := hrd1 d (z + 1) false (-1) (by omega) (by omega) (by omega)
            have ea : atT ⟨l, false, a, z, b, v⟩ (readVar t a).2.1 = ⟨l, false, (readVar t a).2.1, z + 1, false, -1⟩ := rfl
            rw [ea]
            by_cases hn : z + 1 + n1 ≤ 2000
            · rw [hr.1 hn]
              rw [if_neg (by simp), if_pos (one_iff.2 c3)]
              refine ⟨fun _ => ?_, fun hh => by exfalso; omega⟩
              simp only [putT]
              rw [putB_good h]
              simp only [TmR.mk.injEq]
              exact ⟨trivial, trivial, trivial, by omega, trivial, trivial⟩
            · rw [if_pos (hr.2 (by omega))]
              exact ⟨fun hh => by exfalso; omega, fun _ => rfl⟩
      · rename_i c3
        rw [if_neg c3]
        split at h
        · exact absurd h (by simp)
        rename_i c4
        rw [if_neg c4]
        obtain ⟨n2, k2, n2p, hk2, hl2, ⟨e3, he3⟩, hsz2, hrd2⟩ := ih lx ax (by omega)
        generalize hY : rdS t d' lx ax = Y at *
        obtain ⟨ly, vy, ay⟩ := Y
        simp only at hk2 hl2 he3 hsz2 hrd2 h c4 ⊢
        obtain ⟨k, q1, q2, q3, e2, q4⟩ := putN_place h
        have c3' : oneKind (readVar t a).1 = false := by
          cases hh : oneKind (readVar t a).1 with
          | false => rfl
          | true => exact absurd (one_iff.1 hh) c3
        refine ⟨n1 + n2 + 1, k, by omega, q1, q2, ⟨e1 ++ (e3 ++ e2), by rw [q4, he3, he1]; simp⟩, fun e h0 h1 => ?_, fun d z b v z0 z1 z2 => ?_⟩
        · have hs := (sz_split h0 h1).2.2.2
          rw [nodeOf_app q2, q3] at hs
          obtain ⟨x, y, hx, _, hx2, hy, _, hy2, hxy⟩ := hs c1 c3'
          have hx : vx = (x : Int) := hx
          have hy : vy = (y : Int) := hy
          obtain rfl : x = k1 := by omega
          obtain rfl : y = k2 := by omega
          have hh := hsz1 (e3 ++ (e2 ++ e))
          rw [← List.append_assoc, ← he3, ← List.append_assoc, ← q4] at hh
          have hh1 := hh hx2 (by omega)
          have hh2 := hsz2 (e2 ++ e)
          rw [← List.append_assoc, ← q4] at hh2
          have hh3 := hh2 hy2 (by omega)
          omega
        · obtain ⟨d, rfl⟩ : ∃ d1, d = d1 + 1 := ⟨d - 1, by omega⟩
          rw [tmI]
          simp only
          by_cases hz : 2000 < z + 1
          · rw [if_pos hz]
            exact ⟨fun hh => by exfalso; omega, fun _ => rfl⟩
          · rw [if_neg hz, if_neg c0a, if_neg c0b, if_neg c1]
            have hr := hrd1 d (z + 1) false (-1) (by omega) (by omega) (by omega)
            have ea : atT ⟨l, false, a, z, b, v⟩ (readVar t a).2.1 = ⟨l, false, (readVar t a).2.1, z + 1, false, -1⟩ := rfl
            rw [ea]
            by_cases hn : z + 1 + n1 ≤ 2000
            · rw [hr.1 hn]
              rw [if_neg (by simp), if_neg (by rw [c3']; simp)]
              have hr2 := hrd2 d (z + 1 + n1) false vx (by omega) (by omega) (by omega)
              by_cases hn2 : z + 1 + n1 + n2 ≤ 2000
              · rw [hr2.1 hn2]
                rw [if_neg (by simp)]
                refine ⟨fun _ => ?_, fun hh => by exfalso; omega⟩
                simp only [putT]
                rw [putB_good h]
                simp only [TmR.mk.injEq]
                exact ⟨trivial, trivial, trivial, by omega, trivial, trivial⟩
              · rw [if_pos (hr2.2 (by omega))]
                exact ⟨fun hh => by exfalso; omega, fun _ => rfl⟩
            · rw [if_pos (hr.2 (by omega))]
              exact ⟨fun hh => by exfalso; omega, fun _ => rfl⟩
theorem chk_neg (l0 : List S34) (t : ByteArray) (r : List S34 × Int) (b : Bool) (h : r.2 < 0 ∨ b = true ∨ (termText r.1 r.2).2 = false) : chkT l0 t r b = (l0, -1, false) := by
  unfold chkT
  split
  · rfl
  split
  · rfl
  split
  · rfl
  · rename_i h1 h2 h3
    rcases h with h | h | h
    · exact absurd h h1
    · exact absurd h h2
    · exact absurd h h3
theorem readI_eq (l : List S34) (t : ByteArray) : readI l t = readS l t := by
  by_cases hg : (tmI t 2001 ⟨l, false, 0, 0, false, -1⟩).sb = false ∧ (tmI t 2001 ⟨l, false, 0, 0, false, -1⟩).bb = false
  · have hz := (tmI_sz t 2001 ⟨l, false, 0, 0, false, -1⟩).2 hg.1
    obtain ⟨h1, h2⟩ := read_to t 2001 ⟨l, false, 0, 0, false, -1⟩ 2001 hg.1 hg.2 (by simp only; omega)
    simp only at h1
    unfold readI readS
    rw [h1]
    unfold endN
    simp only
    rw [hg.1, hg.2, if_neg (by simp; omega), Bool.false_or]
  · have hI : readI l t = (l, -1, false) := by
      unfold readI
      apply chk_neg
      by_cases hb : (tmI t 2001 ⟨l, false, 0, 0, false, -1⟩).bb = true
      · left
        unfold endN
        rw [if_pos (.inl hb)]
        show (-1 : Int) < 0
        omega
      · right; left
        have : (tmI t 2001 ⟨l, false, 0, 0, false, -1⟩).sb = true := by
          cases hh : (tmI t 2001 ⟨l, false, 0, 0, false, -1⟩).sb with
          | true => rfl
          | false => exact absurd ⟨hh, by simpa using hb⟩ hg
        rw [this]
        rfl
    rw [hI]
    symm
    unfold readS
    apply chk_neg
    by_cases hv : (rdS t 2001 l 0).2.1 < 0
    · exact .inl hv
    · right; right
      obtain ⟨n, k, n1, hk, hkl, _, hsz, hrd⟩ := read_back t 2001 l 0 (by omega)
      have hr := hrd 2001 0 false (-1) (by omega) (by omega) (by omega)
      have hn : 2000 < n := by
        rcases Nat.lt_or_ge 2000 n with h | h
        · exact h
        · exfalso
          have := hr.1 (by omega)
          exact hg (by rw [this]; exact ⟨rfl, rfl⟩)
      have hs := hsz []
      rw [List.append_nil] at hs
      simp only
      rw [hk]
      have hso : Go.Proofs.Ytkckdibalopagaa.SFnExactReadTerm.Hand.sizeOf (rdS t 2001 l 0).1 (k : Int) = szAt (rdS t 2001 l 0).1 k := by
        unfold Go.Proofs.Ytkckdibalopagaa.SFnExactReadTerm.Hand.sizeOf
        rw [if_pos ⟨by omega, by omega⟩, Int.toNat_natCast]
      unfold termText
      rw [if_neg]
      intro hh
      rw [hso] at hh
      have := hs (by omega) (by omega)
      omega

/-! the law's own turning of what came in -/
def cv (x : S126) : S34 := ⟨x.f0, x.f1, x.f2, x.f3⟩
theorem rdL {l : List S126} {i : Nat} (h : i < l.length) : rd_T126 l (i : Int) = l[i] := by
  unfold rd_T126
  rw [Int.toNat_natCast, List.getD_eq_getElem?_getD, List.getElem?_eq_getElem h]
  rfl
theorem rdI {l : List S34} {i : Nat} (h : i < l.length) : rd_T34 l (i : Int) = l[i] := by
  unfold rd_T34
  rw [Int.toNat_natCast, List.getD_eq_getElem?_getD, List.getElem?_eq_getElem h]
  rfl
theorem toNodeS_ev (l : List S126) (hl : l.length ≤ 1048576) : ∀ (d i : Nat) (acc : List S34), l.length - i = d → i ≤ l.length → acc.length = l.length → acc.take i = (l.take i).map cv → Ev (fun k => laws_toNodeS.l0 k l acc (i : Int)) (l.map cv) := by
  intro d
  induction d with
  | zero =>
    intro i acc hd hi ha ht
    have e : i = l.length := by omega
    subst e
    rw [List.take_length, List.take_of_length_le (by omega)] at ht
    rw [← ht]
    exact ev_end (fun k => by rw [laws_toNodeS.l0, if_neg (by omega)])
  | succ d ih =>
    intro i acc hd hi ha ht
    have hlt : i < l.length := by omega
    refine Ev.step (fun k => by rw [laws_toNodeS.l0, if_pos (by omega), if_pos (by omega), rdL hlt]) ?_
    refine ev_now rfl (evT (by omega) ?_)
    rw [w64 (by omega) (by omega), Int.toNat_natCast]
    refine ih (i + 1) _ (by omega) (by omega) (by simp [ha]) ?_
    rw [List.take_succ_eq_append_getElem (by simp; omega), List.take_succ_eq_append_getElem hlt, List.map_append, List.map_singleton, List.getElem_set_self, List.take_set_of_le (by omega), ht]
    rfl
theorem toArena_f (l : List S126) (hl : l.length ≤ 1048576) : Ev (fun k => laws_toArena.f k l) (l.map cv) := by
  refine Ev.bind ?_ (Ev.now _)
  refine evT (by omega) (evT (by rw [Int.toNat_natCast]; omega) ?_)
  exact toNodeS_ev l hl l.length 0 _ (by omega) (by omega) (by simp) (by simp)
theorem szArena_f (l : List S126) (hl : l.length ≤ 9223372036854775807) : laws_szArena.f l 1048576 = some (if (l.length : Int) ≤ 1048576 then 1048576 - (l.length : Int) else -1) := by
  unfold laws_szArena.f laws_szNodeS.f
  rw [w64 (by omega) (by omega)]
  by_cases h : (l.length : Int) ≤ 1048576
  · rw [if_neg (by omega), if_pos h, Option.bind_some, if_neg (by omega)]
  · rw [if_pos (by omega), if_neg h, Option.bind_some, if_pos (by omega)]
theorem eqNodeS_ev (l : List S34) (hl : l.length ≤ 1048576) : ∀ (d i : Nat), l.length - i = d → i ≤ l.length → Ev (fun k => laws_eqNodeS.l0 k l l (i : Int)) true := by
  intro d
  induction d with
  | zero => intro i hd hi; exact ev_end (fun k => by rw [laws_eqNodeS.l0, if_neg (by omega)])
  | succ d ih =>
    intro i hd hi
    refine Ev.step (fun k => by rw [laws_eqNodeS.l0, if_pos (by omega), if_pos (by omega), if_pos (by omega)]) ?_
    refine ev_now (x := true) (by unfold laws_eqNode.f; rw [if_pos rfl, if_pos rfl, if_pos rfl, if_pos rfl]) (evT rfl ?_)
    rw [w64 (by omega) (by omega)]
    exact ih (i + 1) (by omega) (by omega)
theorem eqArena_f (l : List S34) (hl : l.length ≤ 1048576) : Ev (fun k => laws_eqArena.f k l l) true :=
  Ev.bind (evT rfl (eqNodeS_ev l hl l.length 0 (by omega) (by omega))) (evT rfl (Ev.now _))

/-! the law's marking of an arena, and its looking after the marks -/
def markN (a : Int) (n : Nat) : List S34 := (List.range n).map (fun (i : Nat) => (⟨a + 4 * (i : Int), a + 4 * (i : Int) + 1, a + 4 * (i : Int) + 2, a + 4 * (i : Int) + 3⟩ : S34))
theorem rd_set {l : List S34} {i : Nat} (h : i < l.length) (x : S34) : rd_T34 (l.set i x) (i : Int) = x := by
  rw [rdI (by simpa using h)]
  simp
theorem markN_succ (a : Int) (i : Nat) : markN a (i + 1) = markN a i ++ [⟨a + 4 * (i : Int), a + 4 * (i : Int) + 1, a + 4 * (i : Int) + 2, a + 4 * (i : Int) + 3⟩] := by
  unfold markN
  rw [List.range_succ, List.map_append]
  rfl
theorem markN_length (a : Int) (n : Nat) : (markN a n).length = n := by simp [markN]
theorem markNodeS_full (n : Nat) (hn : n ≤ 1048576) (a : Int) (h0 : 0 ≤ a) (hm : a ≤ 100000000) : ∀ (d i : Nat) (l : List S34), l.length = n → n - i = d → i ≤ n → l.take i = markN a i → Ev (fun k => laws_markNodeS.l0 k l (a + 4 * (i : Int)) (i : Int)) (a + 4 * (n : Int), markN a n) := by
  intro d
  induction d with
  | zero =>
    intro i l hl hd hi ht
    have e : i = n := by omega
    subst e
    rw [List.take_of_length_le (by omega)] at ht
    rw [← ht]
    exact ev_end (fun k => by rw [laws_markNodeS.l0, if_neg (by omega)])
  | succ d ih =>
    intro i l hl hd hi ht
    have hlt : i < l.length := by omega
    have h := ih (i + 1) (l.set i ⟨a + 4 * (i : Int), a + 4 * (i : Int) + 1, a + 4 * (i : Int) + 2, a + 4 * (i : Int) + 3⟩) (by simpa using hl) (by omega) (by omega) (by
      rw [List.take_succ_eq_append_getElem (by simp; omega), List.getElem_set_self, List.take_set_of_le (by omega), ht, markN_succ])
    have e : a + 4 * ((i + 1 : Nat) : Int) = a + 4 * (i : Int) + 4 := by omega
    rw [e] at h
    refine Ev.step (fun k => ?_) h
    rw [laws_markNodeS.l0, if_pos (by omega), if_pos (by omega), w64 (x := a + 4 * (i : Int) + 1) (by omega) (by omega), w64 (x := a + 4 * (i : Int) + 1 + 1) (by omega) (by omega), w64 (x := a + 4 * (i : Int) + 1 + 1 + 1) (by omega) (by omega), w64 (x := a + 4 * (i : Int) + 1 + 1 + 1 + 1) (by omega) (by omega), w64 (x := (i : Int) + 1) (by omega) (by omega)]
    simp only [Option.bind_some, Int.toNat_natCast, List.set_set, rd_set hlt]
    have e2 : a + 4 * (i : Int) + 1 + 1 = a + 4 * (i : Int) + 2 := by omega
    have e3 : a + 4 * (i : Int) + 2 + 1 = a + 4 * (i : Int) + 3 := by omega
    have e4 : a + 4 * (i : Int) + 3 + 1 = a + 4 * (i : Int) + 4 := by omega
    rw [e2, e3, e4]
    rfl
theorem markArena_full (l : List S34) (a : Int) (hl : l.length ≤ 1048576) (h0 : 0 ≤ a) (h1 : a ≤ 100000000) : Ev (fun k => laws_markArena.f k l a) (a + 4 * (l.length : Int), markN a l.length) := by
  have h := markNodeS_full l.length hl a h0 h1 l.length 0 l rfl (by omega) (by omega) rfl
  have e : a + 4 * ((0 : Nat) : Int) = a := by omega
  rw [e] at h
  exact Ev.bind h (Ev.now _)
theorem heldNodeS_ev (n : Nat) (hn : n ≤ 1048576) (a : Int) (h0 : 0 ≤ a) (hm : a ≤ 100000000) : ∀ (d i : Nat), n - i = d → i ≤ n → Ev (fun k => laws_heldNodeS.l0 k (markN a n) (a + 4 * (i : Int)) (i : Int)) (a + 4 * (n : Int)) := by
  have hlen := markN_length a n
  intro d
  induction d with
  | zero =>
    intro i hd hi
    have e : i = n := by omega
    subst e
    exact ev_end (fun k => by rw [laws_heldNodeS.l0, if_neg (by omega)])
  | succ d ih =>
    intro i hd hi
    have hlt : i < (markN a n).length := by omega
    have hv : rd_T34 (markN a n) (i : Int) = ⟨a + 4 * (i : Int), a + 4 * (i : Int) + 1, a + 4 * (i : Int) + 2, a + 4 * (i : Int) + 3⟩ := by
      rw [rdI hlt]
      simp [markN]
    have h := ih (i + 1) (by omega) (by omega)
    have e : a + 4 * ((i + 1 : Nat) : Int) = a + 4 * (i : Int) + 4 := by omega
    rw [e] at h
    refine Ev.step (fun k => ?_) h
    rw [laws_heldNodeS.l0, if_pos (by omega), if_pos (by omega), hv, w64 (x := a + 4 * (i : Int) + 1) (by omega) (by omega), w64 (x := a + 4 * (i : Int) + 1 + 1) (by omega) (by omega), w64 (x := a + 4 * (i : Int) + 1 + 1 + 1) (by omega) (by omega), w64 (x := a + 4 * (i : Int) + 1 + 1 + 1 + 1) (by omega) (by omega), w64 (x := (i : Int) + 1) (by omega) (by omega)]
    rw [if_pos rfl, if_pos rfl, if_pos (by simp only; omega), if_pos (by simp only; omega)]
    have e4 : a + 4 * (i : Int) + 1 + 1 + 1 + 1 = a + 4 * (i : Int) + 4 := by omega
    rw [e4]
    rfl
theorem heldArena_f (n : Nat) (a : Int) (hl : n ≤ 1048576) (h0 : 0 ≤ a) (h1 : a ≤ 100000000) : Ev (fun k => laws_heldArena.f k (markN a n) a) (a + 4 * (n : Int)) := by
  have h := heldNodeS_ev n hl a h0 h1 n 0 (by omega) (by omega)
  have e : a + 4 * ((0 : Nat) : Int) = a := by omega
  rw [e] at h
  exact Ev.bind h (evF (by omega) (Ev.now _))

theorem FnExactReadTerm : ∀ (l : List S126) (t : ByteArray), l.length ≤ 9223372036854775807 → (∀ x ∈ l, (Lit.int .i64 x.f0).wf = true ∧ (Lit.int .i64 x.f1).wf = true ∧ (Lit.int .i64 x.f2).wf = true ∧ (Lit.int .i64 x.f3).wf = true) → t.size ≤ 140737488351232 → ∃ k, laws_FnExactReadTerm.f k l t = some true := by
  intro l t hl hwf _
  by_cases hks : (t.size : Int) > 1048576
  · exact Ev.rounds (evT hks (Ev.now _))
  refine Ev.rounds (evF hks (ev_now (szArena_f l hl) ?_))
  by_cases hb : (l.length : Int) ≤ 1048576
  · rw [if_pos hb]
    refine evF (by omega) ?_
    have hc := toArena_f l (by omega)
    have hm : (l.map cv).length ≤ 1048576 := by rw [List.length_map]; omega
    obtain ⟨G, hG⟩ : ∃ G, readS (l.map cv) t = G := ⟨_, rfl⟩
    have hs : spec_ReadTerm.f (l.map cv) t = some G := by
      unfold spec_ReadTerm.f
      rw [if_pos ⟨hm, by omega⟩, hG]
    have hp : impl_ReadTerm.f (l.map cv) t = some G := by
      unfold impl_ReadTerm.f
      rw [if_pos ⟨hm, by omega⟩, readI_eq, hG]
    have hlen : G.1.length ≤ 1048576 := by
      rw [← hG]
      unfold readS chkT
      split
      · exact hm
      split
      · exact hm
      split
      · exact hm
      split
      · exact hm
      · exact rdS_len t 2001 _ 0 hm
    have m1 := markArena_full (l.map cv) 1 hm (by omega) (by omega)
    have mG := markArena_full G.1 1 hlen (by omega) (by omega)
    have hG2 := heldArena_f G.1.length 1 hlen (by omega) (by omega)
    have hsame : (G.2.2 != G.2.2) = false := by simp
    refine Ev.bind hc (ev_now hs (Ev.bind hc (ev_now hp (Ev.bind (eqArena_f G.1 hlen) (evT rfl (evT rfl ?_))))))
    simp only [hsame]
    refine Ev.step (fun k => by rw [laws_FnExactReadTerm.j0, if_neg (by simp)]) ?_
    refine Ev.bind hc (Ev.bind (eqArena_f _ hm) (evT rfl (Ev.bind m1 (evF (by show ¬ _ < (0 : Int); omega) (Ev.bind (eqArena_f G.1 hlen) (evT rfl (evT rfl ?_)))))))
    simp only [hsame]
    refine Ev.step (fun k => by rw [laws_FnExactReadTerm.j1, if_neg (by simp)]) ?_
    refine Ev.bind mG (Ev.bind hG2 (evF (by show ¬ _ < (0 : Int); omega) (evT rfl (Ev.bind hc (ev_now hp (Ev.bind (eqArena_f G.1 hlen) (evT rfl (evT rfl ?_))))))))
    simp only [hsame]
    refine Ev.step (fun k => by rw [laws_FnExactReadTerm.j2, if_neg (by simp)]) ?_
    exact Ev.bind hG2 (evF (by omega) (evT rfl (Ev.now _)))
  · rw [if_neg hb]
    exact evT (by omega) (Ev.now _)

end Go.Proofs.Ytkckdibalopagaa.Pure
