/- The given card 'TopTextsCardSaid', proved: whatever the input is, the law returns true and its arguments read as they did. Condition: the listed package variables hold what the program's text lays there (the card ties it). -/
import Derived.Test.YtcdhcihjcjpmkaaGreatDoorRows
import Derived.Test.YtcdhcihjcjpmkaaGreatDoorCards
import Derived.Test.YtcdhcihjcjpmkaaGreatDoorTie
import Derived.Test.YtcdhcihjcjpmkaaGreatDoorFnTopTexts
import Derived.Test.YtcdhcihjcjpmkaaGreatDoorEng13
import Derived.Test.YtcdhcihjcjpmkaaGreatDoorPureTopTexts
import Derived.ChangeSame
import Derived.ChangeVars
import Derived.JoinedOf
import Derived.RowKit
import Derived.RowKitTokens
import Derived.LaidLaws
import Derived.LaidHandle
import Derived.LaidMore
import Derived.LaidSub
import Derived.MakeChecks
import Derived.Lib.LaidTab
import Derived.Lay
import Derived.OpenShut
import Derived.Stop.Joined
import Derived.SevenTiedAt
namespace Go.Proofs.YtcdhcihjcjpmkaaGreatDoor.topTextsRow
open Go Go.ChangeShapes Go.WideShapes Go.ChangeAt Go.RowKit Go.Proofs.YtcdhcihjcjpmkaaGreatDoor.Eng Go.Proofs.YtcdhcihjcjpmkaaGreatDoor.Fns
set_option linter.unusedVariables false
theorem own : ownKnob Tryz.prog.godebug = none := by kernel_rfl
theorem laidOut : laidOutB Tryz.prog = true := by kernel_rfl
theorem tab_of_laid {W : World} (h0 : laidMetH Tryz.prog Rows.topTextsRow.laid W) : W.cell? ⟨5, 15, none⟩ = some (.int .u8 4) := by
  have h1 := laidMetH.filter (fun x => x.1 == "math/bits.deBruijn64tab") h0
  have e : (Rows.topTextsRow.laid.filter fun x => x.1 == "math/bits.deBruijn64tab") = [("math/bits.deBruijn64tab", Rows.laid_math_bits_deBruijn64tab)] := by kernel_rfl
  rw [e, MakeChecks.laidMetH_plain _ _ _ (by kernel_rfl)] at h1
  obtain ⟨ps, ⟨g, t, cs, fuel, p, q, e1, e2, e3, e4, e5, e6⟩, _⟩ := h1
  obtain rfl : g = 5 := Option.some.inj (e1.symm.trans (by kernel_rfl))
  obtain rfl : t = 196 := Option.some.inj (e2.symm.trans (by kernel_rfl))
  obtain ⟨xs, m, rfl, hx, hl, hn, hi⟩ := DataW.trod_array (n := 64) (e := 5) (by kernel_rfl) e4
  have h15 := hi 15 (by decide)
  rw [show Tryz.prog.cellsOf 5 = 1 from by kernel_rfl] at h15
  have hx15 : xs[15]? = some (xs[15]'(by omega)) := List.getElem?_eq_getElem (by omega)
  rw [hx15] at h15
  obtain ⟨n, ea, eb, _⟩ := DataW.trod_int (k := .u8) (by kernel_rfl) h15
  have hd : (Rows.laid_math_bits_deBruijn64tab : DataW Unit) = .agg (xs.map (·.1)) := congrArg Prod.fst hx
  have hl2 : (xs.map (·.1))[15]? = some (.lit (.int .u8 4)) := by
    have h3 : xs.map (·.1) = (match (Rows.laid_math_bits_deBruijn64tab : DataW Unit) with | .agg l => l | _ => []) := by rw [hd]
    rw [h3]; rfl
  rw [List.getElem?_map, hx15, eb] at hl2
  have hn4 : n = 4 := by simpa using hl2
  subst hn4
  have hc := World.var?_cell e1 e3 15
  rw [hc]
  have h4 : cs.toList[15]? = some (.int .u8 4) := by
    have h5 := congrArg (fun l : List Value => l[0]?) ea
    simpa using h5
  simpa using h4
theorem pow_of_laid {W : World} (h0 : laidMetH Tryz.prog Rows.topTextsRow.laid W) : ∃ t m, W.heap[0]? = some (.cells (List.toArray [.int .u64 1, .int .u64 10, .int .u64 100, .int .u64 1000, .int .u64 10000, .int .u64 100000, .int .u64 1000000, .int .u64 10000000, .int .u64 100000000, .int .u64 1000000000, .int .u64 10000000000, .int .u64 100000000000, .int .u64 1000000000000, .int .u64 10000000000000, .int .u64 100000000000000, .int .u64 1000000000000000, .int .u64 10000000000000000, .int .u64 100000000000000000, .int .u64 1000000000000000000, .int .u64 10000000000000000000]) t m) := by
  have h1 := laidMetH.filter (fun x => x.1 == "internal/strconv.uint64pow10") h0
  have e : (Rows.topTextsRow.laid.filter fun x => x.1 == "internal/strconv.uint64pow10") = [("internal/strconv.uint64pow10", Rows.laid_internal_strconv_uint64pow10)] := by kernel_rfl
  rw [e, MakeChecks.laidMetH_plain _ _ _ (by kernel_rfl)] at h1
  have ed : (Rows.laid_internal_strconv_uint64pow10 : DataW Unit) = Lib.tabData .u64 Lib.pow10Tab := by kernel_rfl
  rw [ed] at h1
  have hg : Tryz.prog.globalNamed "internal/strconv.uint64pow10" = some 0 := by kernel_rfl
  have h2 := Lib.tabIs_of_head (t := 186) (e := 22) (n := 20) hg (by kernel_rfl) (by kernel_rfl) (by kernel_rfl) (by kernel_rfl) (by kernel_rfl) h1
  unfold Lib.TabIs World.var? at h2
  rw [hg, Num.pow10_tab] at h2
  replace h2 : (match W.heap[0]? with | some (Obj.cells cs _ _) => some cs | _ => none) = some (List.toArray ([.int .u64 1, .int .u64 10, .int .u64 100, .int .u64 1000, .int .u64 10000, .int .u64 100000, .int .u64 1000000, .int .u64 10000000, .int .u64 100000000, .int .u64 1000000000, .int .u64 10000000000, .int .u64 100000000000, .int .u64 1000000000000, .int .u64 10000000000000, .int .u64 100000000000000, .int .u64 1000000000000000, .int .u64 10000000000000000, .int .u64 100000000000000000, .int .u64 1000000000000000000, .int .u64 10000000000000000000] : List Value)) := h2
  cases hh : W.heap[0]? with
  | none => rw [hh] at h2; cases h2
  | some ob =>
    rw [hh] at h2
    cases ob with
    | cells cs t m => exact ⟨t, m, by rw [Option.some.inj h2]⟩
    | _ => cases h2
theorem gv_of_laid {W : World} (h0 : laidMetH Tryz.prog Rows.topTextsRow.laid W) : GV W := by
  refine ⟨fun p hp => ?_, fun p hp => ?_⟩
  · unfold gvals at hp
    rcases List.mem_cons.1 hp with rfl | hp
    · exact tab_of_laid h0
    exact absurd hp List.not_mem_nil
  · unfold gtabs at hp
    rcases List.mem_cons.1 hp with rfl | hp
    · exact pow_of_laid h0
    exact absurd hp List.not_mem_nil
theorem lay_met (os : Os) (args : Array Value) : laidMetH Tryz.prog Rows.topTextsRow.laid ((World.laidAll Tryz.prog os Rows.topTextsRow.laid).forCall (fun _ _ => 0) ⟨#[], args, []⟩).memory := by
  rw [MakeChecks.laidMetH_plain _ _ _ (by kernel_rfl)]
  exact laidMet_laidAll _ (by kernel_rfl) (by kernel_rfl)
set_option maxRecDepth 100000 in
theorem lifted (os : Os) (started : os.Started) (H : Type) (enc : TypeId × Value → H) :
    ReturnsInHanded {} Tryz.checked os 3 .any (fun w args => (Rows.topTextsSpec.pre enc Tryz.prog Tryz.f3 Rows.topTextsRow.domain false w args ∧ laidMetH Tryz.prog Rows.topTextsRow.laid w) ∧ sizedMet enc Tryz.prog Tryz.f3 (OpenSpec.ofChange Rows.topTextsSpec) false w args) (Rows.topTextsSpec.post enc Tryz.prog Tryz.f3 false true false false) := by
  refine returnsInHanded_of_change_and (C := Tryz.checked) (X := fun w _ => laidMetH Tryz.prog Rows.topTextsRow.laid w) (fun _ _ _ hh h => h.of_heap hh) own started (by kernel_rfl) Tryz.func3
    (ChangeSpec.witness_shaped (enc := enc) (C := Tryz.checked) (os := os) (X := fun w _ => laidMetH Tryz.prog Rows.topTextsRow.laid w) false (World.laidAll Tryz.prog os Rows.topTextsRow.laid) #[.int .u64 0, .string ⟨#[]⟩, .int .i64 0] 8 (World.laidAll_os _ _ _) (World.shaped_of_ZipB (by kernel_rfl) (by kernel_rfl)) (by kernel_rfl) (by kernel_rfl) (by kernel_rfl) (lay_met os _)) ?_
  intro W base args ds gs before hval0 hW hcnd hsz0 hL _
  have hval : ∀ (j : Nat) t v, Tryz.f3.params[j]? = some t → args[j]? = some v → Value.okWide Tryz.prog W .any base t v := hval0
  have hW' := hW
  obtain ⟨p, q, hA0, hV, rfl, hfz, hnd⟩ := hW
  have hA : DataW.TrodAll enc Tryz.prog W 0 (fun _ => true) true Tryz.f3.params.toList args.toList ds p := hA0
  rw [Tryz.params3] at hA hval
  obtain ⟨v0, vs0, d0, ds0, p0, q0, hargs, rfl, rfl, h0, r0⟩ := trodAll_cons hA
  obtain ⟨v1, vs1, d1, ds1, p1, q1, rfl, rfl, rfl, h1, r1⟩ := trodAll_cons r0
  obtain ⟨v2, vs2, d2, ds2, p2, q2, rfl, rfl, rfl, h2, r2⟩ := trodAll_cons r1
  obtain ⟨rfl, rfl, rfl⟩ := trodAll_nil r2
  obtain rfl : args = #[v0, v1, v2] := by cases args; simp_all
  obtain ⟨rfl, rfl⟩ := trodVars_none hV
  obtain ⟨a0, w0, c0⟩ := arg_int Tryz.underlying22 (hval 0 22 v0 rfl rfl) h0
  obtain ⟨a1, w1, c1⟩ := arg_str Tryz.underlying9 (hval 1 9 v1 rfl rfl) h1
  obtain ⟨a2, w2, c2⟩ := arg_int Tryz.underlying3 (hval 2 3 v2 rfl rfl) h2
  have l0 : ∀ x ∈ p0, x.block < W.heap.size := fun x hx => by have := hW'.lt x; simp only [List.mem_append] at this; exact this (by simp [hx])
  have l1 : ∀ x ∈ p1, x.block < W.heap.size := fun x hx => by have := hW'.lt x; simp only [List.mem_append] at this; exact this (by simp [hx])
  have l2 : ∀ x ∈ p2, x.block < W.heap.size := fun x hx => by have := hW'.lt x; simp only [List.mem_append] at this; exact this (by simp [hx])
  obtain ⟨N, hN⟩ := pure_TopTexts a0 a1 a2 w0 w1 w2
  have hI := ok3 N (a0, a1, a2, ()) _ hN
  refine (hI.calls (code := c3) Tryz.func3 (by kernel_rfl) (by kernel_rfl) [v0, v1, v2] W (gv_of_laid hL) ⟨c0, c1, c2, trivial⟩).mono fun e W' ⟨v, he, bel, hv⟩ => ?_
  obtain rfl : v = .bool true := hv
  subst he
  exact ⟨_, rfl, _, _, _, [], _, [], hW', trodAll_mk1 (shut_bool Tryz.underlying4 _), (trodAll_cons_mk (Below.trod laidOut (by kernel_rfl) (of_decide_eq_true (by kernel_rfl)) h0 bel l0) (trodAll_cons_mk (Below.trod laidOut (by kernel_rfl) (of_decide_eq_true (by kernel_rfl)) h1 bel l1) (trodAll_cons_mk (Below.trod laidOut (by kernel_rfl) (of_decide_eq_true (by kernel_rfl)) h2 bel l2) trodAll_mk0))), rfl, bel.frame _, fun h => by cases h⟩
theorem over : Rows.topTextsRow.holds Tryz.pinned (OpenSpec.ofChange Rows.topTextsSpec) :=
  OpenClaim.holds_of_wide 3 Tryz.f3 rfl rfl rfl rfl rfl rfl rfl ⟨rfl, rfl, rfl, rfl, rfl⟩ rfl rfl rfl rfl rfl (by kernel_rfl) Tryz.func3 (by kernel_rfl)
    (of_decide_eq_true (by kernel_rfl)) (by unfold Func.isWrapper; first | (rw [if_pos (by decide +kernel)]; kernel_rfl) | (rw [if_neg (by decide +kernel)]; exact ⟨rfl, rfl⟩))
    (fun os started H enc _ => lifted os started H enc)
theorem card : Claim7.holds Tryz.pinned (.plain (OpenSpec.ofChange Rows.topTextsSpec)) Rows.topTextsCard :=
  Claim7.holds_tied_plain_at .later [] [.data, .data, .data, .data, .pinned] true (true, "8337db50047619cb32c5b4af83fac655cdeed4375cdf533348daed1200bfee5d") false
    over (fun _ h => by cases h) (by kernel_rfl) (fun _ h => by cases h) topTexts_row_tie rfl ⟨rfl, rfl⟩ (by kernel_rfl) rfl
    (fun f fn hf hfn => by
      obtain rfl : f = 3 := Option.some.inj ((show Tryz.prog.funcNamed "tiller/tillertop.TopTexts" = some 3 by kernel_rfl).symm.trans hf) |>.symm
      obtain rfl : fn = Tryz.f3 := (Option.some.inj (Tryz.func3.symm.trans hfn)).symm
      exact ⟨by kernel_rfl, fun j t ht => by
        rw [Tryz.params3] at ht
        rcases j with _ | _ | _ | j
        · simp at ht; subst ht; exact (show Tryz.prog.wantsStandIn 22 = false by kernel_rfl)
        · simp at ht; subst ht; exact (show Tryz.prog.wantsStandIn 9 = false by kernel_rfl)
        · simp at ht; subst ht; exact (show Tryz.prog.wantsStandIn 3 = false by kernel_rfl)
        · simp at ht⟩)
    (by kernel_rfl)
end Go.Proofs.YtcdhcihjcjpmkaaGreatDoor.topTextsRow
namespace Go.Proofs.YtcdhcihjcjpmkaaGreatDoor
/-- The given card, proved. -/
theorem topTexts_holds : Rows.TopTextsCardSaid := topTextsRow.card
#print axioms topTexts_holds
end Go.Proofs.YtcdhcihjcjpmkaaGreatDoor
