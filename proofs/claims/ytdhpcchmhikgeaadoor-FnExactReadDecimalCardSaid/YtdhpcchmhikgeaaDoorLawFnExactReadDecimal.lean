/- Proved: the program's ReadDecimal returns what the reference's ReadDecimal returns, for every text, and leaves its argument as it was; no condition. -/
import Derived.Test.YtdhpcchmhikgeaaDoorCards
import Derived.Test.YtdhpcchmhikgeaaDoorTie
import Derived.Test.YtdhpcchmhikgeaaDoorPureFnExactReadDecimal
import Derived.Test.YtdhpcchmhikgeaaDoorShelf
import Derived.WalkKit
import Derived.ProofKit
import Derived.OpenShut
import Derived.Deep.DeepHandedRow
import Derived.Lib.LaidTab
import Derived.LaidSub
import Derived.Stop.LaidErr
namespace Go.Proofs.YtdhpcchmhikgeaaDoor.fnExactReadDecimal
open Go.ChangeMaps (open_string shut_string)
open Go.ChangeShapes Go.WideShapes Go.ChangeAt Go.RowKit Go.Proofs.YtdhpcchmhikgeaaDoor.Base Go.Proofs.YtdhpcchmhikgeaaDoorW.PrintWords
set_option linter.unusedVariables false
set_option linter.unusedSimpArgs false
theorem own : ownKnob Tryd.prog.godebug = none := by kernel_rfl
theorem gTab : Tryd.prog.globalNamed "internal/strconv.uint64pow10" = some 3 := by kernel_rfl
theorem gTabType : (Tryd.prog.globals[3]?).map (·.type) = some 91 := by kernel_rfl
theorem cells91 : Tryd.prog.cellsOf 91 = 20 := by kernel_rfl
theorem cells75 : Tryd.prog.cellsOf 75 = 1 := by kernel_rfl
theorem table {W : World} (h : laidMetH Tryd.prog Rows.fnExactReadDecimalRow.laid W) : Lib.TabIs Tryd.prog W "internal/strconv.uint64pow10" .u64 Lib.pow10Tab := by
  have h2 : laidMetH Tryd.prog [("internal/strconv.uint64pow10", Rows.laid_internal_strconv_uint64pow10)] W := h.filter (fun x => x.1 == "internal/strconv.uint64pow10")
  exact Lib.tabIs_of_head (rest := []) gTab gTabType Tryd.underlying91 Tryd.underlying75 cells75 cells91 h2
theorem tab_below {w w1 : World} (h : Lib.TabIs Tryd.prog w "internal/strconv.uint64pow10" .u64 Lib.pow10Tab) (hb : Below w.heap.size w w1) : Lib.TabIs Tryd.prog w1 "internal/strconv.uint64pow10" .u64 Lib.pow10Tab := by
  unfold Lib.TabIs World.var? at h ⊢
  rw [gTab, Option.bind_some] at h ⊢
  have h3 : 3 < w.heap.size := by
    rcases Nat.lt_or_ge 3 w.heap.size with hlt | hge
    · exact hlt
    · rw [Array.getElem?_eq_none hge] at h
      cases h
  rw [hb.block 3 h3]
  exact h
theorem below_grow (w : World) (k : Nat) (os : Array Obj) : Below w.heap.size w (Go.Sort.grow (w.drewN k) os) :=
  ⟨rfl, rfl, rfl, by show w.heap.size ≤ (w.heap ++ os).size; rw [Array.size_append]; omega, fun i hi => by
    show (w.heap ++ os)[i]? = w.heap[i]?
    rw [Array.getElem?_append_left hi]⟩
theorem impl_Decimal (a : Int) (h : (Lit.int .i64 a).wf = true) (w : World) (hT : Lib.TabIs Tryd.prog w "internal/strconv.uint64pow10" .u64 Lib.pow10Tab) :
    Calls Tryd.prog 8 #[.int .i64 a] w fun e w' => e = .returned (.string (Pure.itoaB a)) ∧ Below w.heap.size w w' := by
  have hr := wf64 h
  go_enter Tryd.func8, Tryd.ntmps8
  go_wp2_with (go_at_call 26; refine (Tryd.strconv_Itoa a hr.1 hr.2 _ hT).mono ?_; rintro e w' ⟨rfl, k, os, rfl⟩)
  go_ret
  exact ⟨rfl, below_grow w k os⟩
theorem var_below {n : String} {cs : Array Value} {w w1 : World} (h : w.var? Tryd.prog n = some cs) (hb : Below w.heap.size w w1) : w1.var? Tryd.prog n = some cs := by
  unfold World.var? at h ⊢
  cases hg : Tryd.prog.globalNamed n with
  | none => rw [hg] at h; cases h
  | some g =>
    rw [hg, Option.bind_some] at h
    rw [Option.bind_some]
    have h3 : g < w.heap.size := by
      rcases Nat.lt_or_ge g w.heap.size with hlt | hge
      · exact hlt
      · rw [Array.getElem?_eq_none hge] at h
        cases h
    rw [hb.block g h3]
    exact h
theorem gSyn : Tryd.prog.globalNamed "strconv.ErrSyntax" = some 0 := by kernel_rfl
theorem gRng : Tryd.prog.globalNamed "strconv.ErrRange" = some 1 := by kernel_rfl
theorem gSynType : (Tryd.prog.globals[0]?).map (·.type) = some 47 := by kernel_rfl
theorem gRngType : (Tryd.prog.globals[1]?).map (·.type) = some 47 := by kernel_rfl
theorem cells99 : Tryd.prog.cellsOf 99 = 1 := by kernel_rfl
theorem cells9 : Tryd.prog.cellsOf 9 = 1 := by kernel_rfl
theorem star : "*" ++ "errors.errorString" = "*errors.errorString" := by decide
theorem row97 (u : TypeId) (h : Tryd.prog.typeName? 3 u = some "*errors.errorString") : u = 97 :=
  typeName_ptr_named (nm := "errors.errorString") (by rw [star]; kernel_rfl) (by kernel_rfl) (by decide) u (by rw [star]; exact h)
theorem synVar {W : World} (h : laidMetH Tryd.prog Rows.fnExactReadDecimalRow.laid W) : ∃ p, W.var? Tryd.prog "strconv.ErrSyntax" = some #[.iface 97 p] := by
  have h2 : laidMetH Tryd.prog [("strconv.ErrSyntax", Rows.laid_strconv_ErrSyntax)] W := h.filter (fun x => x.1 == "strconv.ErrSyntax")
  have h3 : laidMet Tryd.prog [("strconv.ErrSyntax", .iface "*errors.errorString" (.ptr (.agg [.lit (.string [105, 110, 118, 97, 108, 105, 100, 32, 115, 121, 110, 116, 97, 120])])))] W := (laidMetH_iff.1 h2).1
  obtain ⟨a, s, hv, _⟩ := laid_sentinel h3 gSyn gSynType Tryd.underlying47 row97 Tryd.underlying97 Tryd.underlying99 rfl rfl Tryd.underlying9 cells99 cells9
  exact ⟨_, hv⟩
theorem rngVar {W : World} (h : laidMetH Tryd.prog Rows.fnExactReadDecimalRow.laid W) : ∃ p, W.var? Tryd.prog "strconv.ErrRange" = some #[.iface 97 p] := by
  have h2 : laidMetH Tryd.prog [("strconv.ErrRange", Rows.laid_strconv_ErrRange)] W := h.filter (fun x => x.1 == "strconv.ErrRange")
  have h3 : laidMet Tryd.prog [("strconv.ErrRange", .iface "*errors.errorString" (.ptr (.agg [.lit (.string [118, 97, 108, 117, 101, 32, 111, 117, 116, 32, 111, 102, 32, 114, 97, 110, 103, 101])])))] W := (laidMetH_iff.1 h2).1
  obtain ⟨a, s, hv, _⟩ := laid_sentinel h3 gRng gRngType Tryd.underlying47 row97 Tryd.underlying97 Tryd.underlying99 rfl rfl Tryd.underlying9 cells99 cells9
  exact ⟨_, hv⟩
theorem old_below {w w' : World} (h : w' = w ∨ ∃ t, w' = Lib.bytesWorld w 5 t) : Below w.heap.size w w' := by
  rcases h with rfl | ⟨t, rfl⟩
  · exact Below.refl _ _
  · exact bytes_below (Below.refl _ _) (Nat.le_refl _) 5 t
def RPost (w : World) (r : Int × Bool) (e : Ending) (w' : World) : Prop := e = .returned (.tuple #[.int .i64 r.1, .bool r.2]) ∧ Below w.heap.size w w'
theorem within_f (v : Int) : SFnExactReadDecimal.impl_within.f v 0 1000000000 = some (decide (0 ≤ v ∧ v ≤ 1000000000)) := by
  unfold SFnExactReadDecimal.impl_within.f
  by_cases h0 : v ≥ 0
  · rw [if_pos h0]
    congr 1
    exact decide_eq_decide.2 ⟨fun h => ⟨h0, h⟩, fun h => h.2⟩
  · rw [if_neg h0]
    congr 1
    exact (decide_eq_false (fun h => h0 h.1)).symm
theorem impl_ReadDecimal (t : ByteArray) (ht : t.size ≤ 1048576) (w : World) (hT : Lib.TabIs Tryd.prog w "internal/strconv.uint64pow10" .u64 Lib.pow10Tab)
    (hS : ∃ p, w.var? Tryd.prog "strconv.ErrSyntax" = some #[.iface 97 p]) (hR : ∃ p, w.var? Tryd.prog "strconv.ErrRange" = some #[.iface 97 p]) :
    Calls Tryd.prog 15 #[.string t] w (RPost w (Pure.readDecI t)) := by
  obtain ⟨pS, hS⟩ := hS
  obtain ⟨pR, hR⟩ := hR
  have HS := Aside0.mk hS
  have HR := Aside0.mk hR
  have HT := Aside0.mk hT
  clear hS hR hT
  cases hA : Lib.atoiAll t.data.toList with
  | range =>
    have he : Pure.readDecI t = (0, false) := by unfold Pure.readDecI; rw [hA]
    rw [he]
    have HA := Aside0.mk hA
    clear hA he
    go_enter Tryd.func15, Tryd.ntmps15
    go_wp2_with (go_at_call 30; ((with_reducible refine (Tryd.strconv_Atoi_range_var t (by omega) HA.out 97 pR _ HR.out).mono ?_); rintro e w1 ⟨N, rfl, _, _, hb⟩))
    go_ret2
    exact ⟨rfl, hb⟩
  | ok v =>
    have hv := Lib.atoiAll_bounds hA
    have HA := Aside0.mk hA
    have hw : (Lit.int .i64 v).wf = true := by
      simpa [Lit.wf, IntKind.min, IntKind.max, IntKind.signed, IntKind.bits] using hv
    have HW := Aside0.mk hw
    by_cases hin : 0 ≤ v ∧ v ≤ 1000000000
    · have HI := Aside0.mk ((within_f v).trans (congrArg some (decide_eq_true hin)))
      by_cases hq : (Pure.itoaB v).toList = t.toList
      · have he : Pure.readDecI t = (v, true) := by unfold Pure.readDecI; rw [hA]; simp only; rw [if_pos ⟨hin.1, hin.2, hq⟩]
        have hqb : ((Pure.itoaB v).toList == t.toList) = true := beq_iff_eq.2 hq
        rw [he]
        clear hA he hq hin hw hv
        go_enter Tryd.func15, Tryd.ntmps15
        go_wp2_with (first
          | (go_at_call 30; ((with_reducible refine (Tryd.strconv_Atoi_ok t (by omega) v HA.out _).mono ?_); rintro e w1 ⟨rfl, ho⟩); have HB1 := Aside0.mk (old_below ho); clear ho)
          | (go_at_call 27; ((with_reducible refine (SFnExactReadDecimal.impl_within.calls v 0 1000000000 true _ HI.out).mono ?_); rintro e w2 ⟨rfl, hb⟩); have HB2 := Aside0.mk (below_step HB1.out hb.below); clear hb)
          | (go_at_call 8; ((with_reducible refine (impl_Decimal v HW.out _ (tab_below HT.out HB2.out)).mono ?_); rintro e w3 ⟨rfl, hb⟩); have HB3 := Aside0.mk (below_step HB2.out hb); clear hb))
        go_ret2
        exact ⟨rfl, HB3.out⟩
      · have he : Pure.readDecI t = (0, false) := by unfold Pure.readDecI; rw [hA]; simp only; rw [if_neg (fun h => hq h.2.2)]
        have hqb : ((Pure.itoaB v).toList == t.toList) = false := beq_eq_false_iff_ne.2 hq
        rw [he]
        clear hA he hq hin hw hv
        go_enter Tryd.func15, Tryd.ntmps15
        go_wp2_with (first
          | (go_at_call 30; ((with_reducible refine (Tryd.strconv_Atoi_ok t (by omega) v HA.out _).mono ?_); rintro e w1 ⟨rfl, ho⟩); have HB1 := Aside0.mk (old_below ho); clear ho)
          | (go_at_call 27; ((with_reducible refine (SFnExactReadDecimal.impl_within.calls v 0 1000000000 true _ HI.out).mono ?_); rintro e w2 ⟨rfl, hb⟩); have HB2 := Aside0.mk (below_step HB1.out hb.below); clear hb)
          | (go_at_call 8; ((with_reducible refine (impl_Decimal v HW.out _ (tab_below HT.out HB2.out)).mono ?_); rintro e w3 ⟨rfl, hb⟩); have HB3 := Aside0.mk (below_step HB2.out hb); clear hb))
        go_ret2
        exact ⟨rfl, HB3.out⟩
    · have HI := Aside0.mk ((within_f v).trans (congrArg some (decide_eq_false hin)))
      have he : Pure.readDecI t = (0, false) := by unfold Pure.readDecI; rw [hA]; simp only; rw [if_neg (fun h => hin ⟨h.1, h.2.1⟩)]
      rw [he]
      clear hA he hin hw hv
      go_enter Tryd.func15, Tryd.ntmps15
      go_wp2_with (first
        | (go_at_call 30; ((with_reducible refine (Tryd.strconv_Atoi_ok t (by omega) v HA.out _).mono ?_); rintro e w1 ⟨rfl, ho⟩); have HB1 := Aside0.mk (old_below ho); clear ho)
        | (go_at_call 27; ((with_reducible refine (SFnExactReadDecimal.impl_within.calls v 0 1000000000 false _ HI.out).mono ?_); rintro e w2 ⟨rfl, hb⟩); have HB2 := Aside0.mk (below_step HB1.out hb.below); clear hb))
      go_ret2
      exact ⟨rfl, HB2.out⟩
  | _ =>
    have he : Pure.readDecI t = (0, false) := by unfold Pure.readDecI; rw [hA]
    rw [he]
    have HA : Aside0 (Lib.atoiAll t.data.toList = Lib.NumEnd.ofOption none) := ⟨hA⟩
    clear hA he
    go_enter Tryd.func15, Tryd.ntmps15
    go_wp2_with (go_at_call 30; ((with_reducible refine (Tryd.strconv_Atoi_syntax_var t (by omega) HA.out 97 pS _ HS.out).mono ?_); rintro e w1 ⟨N, rfl, _, _, hb⟩))
    go_ret2
    exact ⟨rfl, hb⟩
theorem walk (t : ByteArray) (w : World) (hT : Lib.TabIs Tryd.prog w "internal/strconv.uint64pow10" .u64 Lib.pow10Tab)
    (hS : ∃ p, w.var? Tryd.prog "strconv.ErrSyntax" = some #[.iface 97 p]) (hR : ∃ p, w.var? Tryd.prog "strconv.ErrRange" = some #[.iface 97 p]) :
    Calls Tryd.prog 5 #[.string t] w fun e w' => e = .returned (.bool true) ∧ Below w.heap.size w w' := by
  by_cases ht : t.size ≤ 1048576
  · obtain ⟨k, hk⟩ := Pure.FnExactReadDecimal t
    have htd : decide (1048576 < (t.size : Int)) = false := decide_eq_false (by omega)
    have HT := Aside0.mk hT
    obtain ⟨pS, hS⟩ := hS
    obtain ⟨pR, hR⟩ := hR
    have HS := Aside0.mk hS
    have HR := Aside0.mk hR
    have HL := Aside0.mk ht
    obtain ⟨⟨r1, r2⟩, hr⟩ : ∃ r, Pure.readDecI t = r := ⟨_, rfl⟩
    rw [hr] at hk
    have HK := Aside0.mk hk
    have HP := Aside0.mk (fun w h1 h2 h3 => hr ▸ impl_ReadDecimal t HL.out w h1 h2 h3)
    have e1 : (r1 != r1) = false := by simp
    have e2 : (r2 != r2) = false := by simp
    clear hT hS hR hk hr ht
    go_enter Tryd.func5, Tryd.ntmps5
    go_wp2_with (first
      | (go_at_call 14; ((with_reducible refine (SFnExactReadDecimal.spec_ReadDecimal.calls k t r1 r2 _ HK.out).mono ?_); rintro e w1 ⟨rfl, hb⟩); have HB1 := Aside0.mk hb; clear hb)
      | (go_at_call 15; ((with_reducible refine (HP.out _ (tab_below HT.out HB1.out) ⟨_, var_below HS.out HB1.out⟩ ⟨_, var_below HR.out HB1.out⟩).mono ?_); rintro e w2 hp); obtain ⟨rfl, hb⟩ := hp; have HB2 := Aside0.mk (below_step HB1.out hb); clear hb))
    go_ret
    exact ⟨rfl, HB2.out⟩
  · have htd : decide (1048576 < (t.size : Int)) = true := decide_eq_true (by omega)
    go_enter Tryd.func5, Tryd.ntmps5
    go_wp2
    go_ret
    exact ⟨rfl, Below.refl _ _⟩

set_option maxRecDepth 100000 in
/-- WHAT THE WALK GIVES, FOR EVERY ARGUMENT AND EVERY WORLD THAT HOLDS THE TABLE. -/
theorem contract (H : Type) (enc : TypeId × Value → H) (W : World) (base : Nat) (args : Array Value) (ds gs : List (DataW H)) (before : List MemPlace)
    (hval : ∀ (j : Nat) t v, Tryd.f5.params[j]? = some t → args[j]? = some v → Value.okWide Tryd.prog W .any base t v)
    (hW : DataW.Whole enc Tryd.prog Tryd.f5.params.toList Rows.fnExactReadDecimalSpec.vars false W args.toList ds gs before) (hL : laidMetH Tryd.prog Rows.fnExactReadDecimalRow.laid W) :
    Calls Tryd.prog 5 args W fun e W' => ∃ v, e = .returned v ∧ Rows.fnExactReadDecimalSpec.post enc Tryd.prog Tryd.f5 false true false false W args v W' := by
  have hW' := hW
  obtain ⟨p, q, hA0, hV, rfl, hfz, hnd⟩ := hW
  have hA : DataW.TrodAll enc Tryd.prog W 0 (fun _ => true) true Tryd.f5.params.toList args.toList ds p := hA0
  rw [Tryd.params5] at hA hval
  obtain ⟨v0, vs0, d0, ds0, p0, q0, hargs, rfl, rfl, h0, r0⟩ := trodAll_cons hA
  obtain ⟨rfl, rfl, rfl⟩ := trodAll_nil r0
  obtain rfl : args = #[v0] := by cases args; simp_all
  obtain ⟨rfl, rfl⟩ := trodVars_none hV
  obtain ⟨a, rfl, rfl, rfl, wa⟩ := open_string Tryd.underlying9 (hval 0 9 v0 rfl rfl) h0
  clear hA0
  simp only [List.append_nil] at hW'
  refine (walk a W (table hL) (synVar hL) (rngVar hL)).mono fun e W' ⟨he, bel⟩ => ?_
  subst he
  exact ⟨_, rfl, _, _, _, [], _, [], hW', trodAll_mk1 (shut_bool Tryd.underlying4 _), trodAll_mk1 (shut_string Tryd.underlying9 wa), rfl, bel.frame _, fun h => by cases h⟩
def cellsOf {H : Type} : DataW H → Array Value
  | .agg l => (l.map fun | .lit (.int k n) => Value.int k n | _ => .bool false).toArray
  | _ => #[]
noncomputable def lay (os : Os) (g : Nat) (cs : Array Value) (w : World) : World :=
  { w with heap := w.heap.modify g fun
      | .cells _ t frozen => .cells cs t frozen
      | o => o }
abbrev synS : ByteArray := { data := #[105, 110, 118, 97, 108, 105, 100, 32, 115, 121, 110, 116, 97, 120] }
abbrev rngS : ByteArray := { data := #[118, 97, 108, 117, 101, 32, 111, 117, 116, 32, 111, 102, 32, 114, 97, 110, 103, 101] }
noncomputable def low : Nat := (World.holding Tryd.prog default ⟨#[], #[], []⟩).heap.size
noncomputable def laidWorld (os : Os) : World :=
  lay os 0 #[.iface 97 (.pointer (some ⟨low, 0, none⟩))] (lay os 1 #[.iface 97 (.pointer (some ⟨low + 1, 0, none⟩))] (lay os 3 (cellsOf (Rows.laid_internal_strconv_uint64pow10 (H := Unit))) (lay os 6 (cellsOf (Rows.laid_math_bits_deBruijn32tab (H := Unit))) (lay os 7 (cellsOf (Rows.laid_math_bits_deBruijn64tab (H := Unit))) (World.holding Tryd.prog os ⟨#[.cells #[.string synS] 99, .cells #[.string rngS] 99], #[], []⟩)))))
theorem laid_met (os : Os) : laidMet Tryd.prog Rows.fnExactReadDecimalRow.laid ((laidWorld os).forCall (fun _ _ => 0) ⟨#[], #[.string ByteArray.empty], []⟩).memory :=
  laidMet_of_run' 80 (by kernel_rfl) (by kernel_rfl)
theorem reads (os : Os) {H : Type} (enc : TypeId × Value → H) : ∃ places, DataW.whole enc Tryd.prog ((laidWorld os).forCall (fun _ _ => 0) ⟨#[], #[.string ByteArray.empty], []⟩).memory Tryd.f5.params.toList Rows.fnExactReadDecimalSpec.vars false #[Value.string ByteArray.empty].toList 8 = some ([.lit (.string [])], [], places) :=
  ⟨[], by kernel_rfl⟩
set_option maxRecDepth 100000 in
theorem lifted (os : Os) (started : os.Started) (H : Type) (enc : TypeId × Value → H) (F : Stop.Interp) :
    ReturnsInHanded {} Tryd.checked os 5 .any ((OpenSpec.ofChange Rows.fnExactReadDecimalSpec).preRow enc Tryd.prog Tryd.f5 Rows.fnExactReadDecimalRow.domain false Rows.fnExactReadDecimalRow.laid) (((OpenSpec.ofChange Rows.fnExactReadDecimalSpec).at F).post enc Tryd.prog Tryd.f5 false true false false) := by
  obtain ⟨places, hx⟩ := reads os enc
  refine returnsInHanded_of_row (C := Tryd.checked) (s := OpenSpec.ofChange Rows.fnExactReadDecimalSpec) own started (by kernel_rfl) Tryd.func5
    (witness_row_at (enc := enc) (C := Tryd.checked) false (laidWorld os) #[.string ByteArray.empty] rfl (by kernel_rfl) (by kernel_rfl) (by kernel_rfl)
      (OpenSpec.preRow_of_cond 8 hx (by kernel_rfl) (fun k hk => by cases hk) (by kernel_rfl) (laid_met os))) ?_
  intro W base args ds gs before hval hW _ _ _ hL _ _
  exact contract H enc W base args ds gs before hval hW hL
theorem said : Rows.FnExactReadDecimalSaid :=
  OpenClaim.holds_of_cond 5 Tryd.f5 rfl rfl rfl rfl rfl rfl rfl ⟨rfl, rfl, rfl, rfl, rfl⟩ rfl rfl rfl rfl rfl (by kernel_rfl) Tryd.func5 (by kernel_rfl)
    (of_decide_eq_true (by kernel_rfl)) (by unfold Func.isWrapper; first | (rw [if_pos (by decide +kernel)]; kernel_rfl) | (rw [if_neg (by decide +kernel)]; exact ⟨rfl, rfl⟩))
    (fun os started H enc _ F => by rw [OpenClaim.pre_eq_preRow]; exact lifted os started H enc F)
theorem plain (f : FuncId) (fn : Func) (hf : Tryd.pinned.checked.prog.funcNamed "loop.example/g00466/laws.FnExactReadDecimal" = some f) (hfn : Tryd.pinned.checked.prog.funcs[f]? = some fn) :
    true = Tryd.pinned.checked.prog.looks [] ∧ ∀ (j : Nat) t, fn.params[j]? = some t → Tryd.pinned.checked.prog.wantsStandIn t = false := by
  obtain rfl : f = 5 := Option.some.inj ((show Tryd.prog.funcNamed "loop.example/g00466/laws.FnExactReadDecimal" = some 5 by kernel_rfl).symm.trans hf) |>.symm
  obtain rfl : fn = Tryd.f5 := (Option.some.inj (Tryd.func5.symm.trans hfn)).symm
  refine ⟨by kernel_rfl, fun j t ht => ?_⟩
  rw [Tryd.params5] at ht
  obtain rfl : t = 9 := by simpa using Array.mem_of_getElem? ht
  exact (show Tryd.prog.wantsStandIn 9 = false by kernel_rfl)
theorem card : Rows.FnExactReadDecimalCardSaid :=
  Claim7.holds_tied_plain_at .later [] _ _ _ _ said (fun _ h => by cases h) (by kernel_rfl) (fun _ h => by cases h) fnExactReadDecimal_row_tie rfl ⟨rfl, rfl⟩ (by kernel_rfl) rfl plain (by kernel_rfl)
end Go.Proofs.YtdhpcchmhikgeaaDoor.fnExactReadDecimal
namespace Go.Proofs.YtdhpcchmhikgeaaDoor
theorem fnExactReadDecimal_holds : Rows.FnExactReadDecimalCardSaid := fnExactReadDecimal.card
end Go.Proofs.YtdhpcchmhikgeaaDoor
