/- The given card 'PatMakesCardSaid', proved: whatever the input is, the law returns true and its arguments read as they did. Condition: the listed package variables hold what the program's text lays there (the card ties it). -/
import Derived.Test.YtnpcejiijhgkjaaDoorRows
import Derived.Test.YtnpcejiijhgkjaaDoorCards
import Derived.Test.YtnpcejiijhgkjaaDoorTie
import Derived.Test.YtnpcejiijhgkjaaDoorFnPatMakes
import Derived.Test.YtnpcejiijhgkjaaDoorEng14
import Derived.Test.YtnpcejiijhgkjaaDoorPurePatMakes
import Derived.ChangeSame
import Derived.ChangeVars
import Derived.JoinedOf
import Derived.RowKit
import Derived.RowKitTokens
import Derived.LaidLaws
import Derived.LaidHandle
import Derived.LaidMore
import Derived.LaidSub
import Derived.MakeChecks
import Derived.OpenShut
import Derived.Stop.Joined
import Derived.SevenTiedAt
namespace Go.Proofs.YtnpcejiijhgkjaaDoor.patMakesRow
open Go Go.ChangeShapes Go.WideShapes Go.ChangeAt Go.RowKit Go.Proofs.YtnpcejiijhgkjaaDoor.Eng Go.Proofs.YtnpcejiijhgkjaaDoor.Fns
set_option linter.unusedVariables false
theorem own : ownKnob Tryd.prog.godebug = none := by kernel_rfl
theorem laidOut : laidOutB Tryd.prog = true := by kernel_rfl
theorem et : Tryd.prog.globalNamed "errors.errorType" = some 0 := by kernel_rfl
theorem rtp : (Tryd.prog.cutTypes.find? (·.1 == "internal/reflectlite.rtype")).map (·.2) = some 68 := by kernel_rfl
theorem oneRow : ((List.range 120).filter fun t => Tryd.prog.rowNamed t [101, 114, 114, 111, 114]) = [24] := by kernel_rfl
theorem tsize : Tryd.prog.types.size = 120 := by kernel_rfl
theorem handle_of_laid {W : World} (h0 : laidMetH Tryd.prog Rows.patMakesRow.laid W) : W.cell? ⟨0, 0, none⟩ = some (.iface 68 (.agg #[.pointer (some ⟨4, 24, none⟩)])) := by
  have h1 := laidMetH.filter (fun x => x.1 == "errors.errorType") h0
  have e : (Rows.patMakesRow.laid.filter fun x => x.1 == "errors.errorType") = [("errors.errorType", Rows.laid_errors_errorType)] := by kernel_rfl
  rw [e] at h1
  have h' : laidMet Tryd.prog [] W ∧ handlesMet Tryd.prog [("errors.errorType", Rows.laid_errors_errorType)] W := h1
  obtain ⟨name, u, ty, e1, e2, e3, e4, e5⟩ := h'.2 _ (List.mem_singleton.2 rfl)
  have en : name = [101, 114, 114, 111, 114] := (Option.some.inj e1).symm
  subst en
  obtain rfl := Option.some.inj (rtp.symm.trans e2)
  have hm : ty ∈ (List.range 120).filter fun t => Tryd.prog.rowNamed t [101, 114, 114, 111, 114] := List.mem_filter.2 ⟨List.mem_range.2 (by rw [← tsize]; exact e3), e4⟩
  rw [oneRow] at hm
  obtain rfl := List.mem_singleton.1 hm
  have hh : typeHandle Tryd.prog 24 = .pointer (some ⟨4, 24, none⟩) := by kernel_rfl
  rw [hh] at e5
  simpa using World.var?_cell et e5 0
theorem tab_of_laid {W : World} (h0 : laidMetH Tryd.prog Rows.patMakesRow.laid W) : W.cell? ⟨3, 15, none⟩ = some (.int .u8 4) := by
  have h1 := laidMetH.filter (fun x => x.1 == "math/bits.deBruijn64tab") h0
  have e : (Rows.patMakesRow.laid.filter fun x => x.1 == "math/bits.deBruijn64tab") = [("math/bits.deBruijn64tab", Rows.laid_math_bits_deBruijn64tab)] := by kernel_rfl
  rw [e, MakeChecks.laidMetH_plain _ _ _ (by kernel_rfl)] at h1
  obtain ⟨ps, ⟨g, t, cs, fuel, p, q, e1, e2, e3, e4, e5, e6⟩, _⟩ := h1
  obtain rfl : g = 3 := Option.some.inj (e1.symm.trans (by kernel_rfl))
  obtain rfl : t = 90 := Option.some.inj (e2.symm.trans (by kernel_rfl))
  obtain ⟨xs, m, rfl, hx, hl, hn, hi⟩ := DataW.trod_array (n := 64) (e := 5) (by kernel_rfl) e4
  have h15 := hi 15 (by decide)
  rw [show Tryd.prog.cellsOf 5 = 1 from by kernel_rfl] at h15
  have hx15 : xs[15]? = some (xs[15]'(by omega)) := List.getElem?_eq_getElem (by omega)
  rw [hx15] at h15
  obtain ⟨n, ea, eb, _⟩ := DataW.trod_int (k := .u8) (by kernel_rfl) h15
  have hd : (Rows.laid_math_bits_deBruijn64tab : DataW Unit) = .agg (xs.map (·.1)) := congrArg Prod.fst hx
  have hl2 : (xs.map (·.1))[15]? = some (.lit (.int .u8 4)) := by
    have h3 : xs.map (·.1) = (match (Rows.laid_math_bits_deBruijn64tab : DataW Unit) with | .agg l => l | _ => []) := by rw [hd]
    rw [h3]; rfl
  rw [List.getElem?_map, hx15, eb] at hl2
  have hn4 : n = 4 := by simpa using hl2
  subst hn4
  have hc := World.var?_cell e1 e3 15
  rw [hc]
  have h4 : cs.toList[15]? = some (.int .u8 4) := by
    have h5 := congrArg (fun l : List Value => l[0]?) ea
    simpa using h5
  simpa using h4
theorem gv_of_laid {W : World} (h0 : laidMetH Tryd.prog Rows.patMakesRow.laid W) : GV W := by
  intro p hp
  unfold gvals at hp
  rcases List.mem_cons.1 hp with rfl | hp
  · exact handle_of_laid h0
  rcases List.mem_cons.1 hp with rfl | hp
  · exact tab_of_laid h0
  exact absurd hp List.not_mem_nil
theorem door_met (os : Os) (args : Array Value) : laidMetH Tryd.prog Rows.patMakesRow.laid ((World.doorLaid Tryd.prog 400 os).forCall (fun _ _ => 0) ⟨#[], args, []⟩).memory :=
  laidMetH_of_parts3 (fuel := 8) (laidMet_of_run' 8 (by kernel_rfl) (by kernel_rfl)) (by kernel_rfl) (by kernel_rfl)
set_option maxRecDepth 100000 in
theorem lifted (os : Os) (started : os.Started) (H : Type) (enc : TypeId × Value → H) :
    ReturnsInHanded {} Tryd.checked os 4 .any (fun w args => (Rows.patMakesSpec.pre enc Tryd.prog Tryd.f4 Rows.patMakesRow.domain false w args ∧ laidMetH Tryd.prog Rows.patMakesRow.laid w) ∧ sizedMet enc Tryd.prog Tryd.f4 (OpenSpec.ofChange Rows.patMakesSpec) false w args) (Rows.patMakesSpec.post enc Tryd.prog Tryd.f4 false true false false) := by
  refine returnsInHanded_of_change_and (C := Tryd.checked) (X := fun w _ => laidMetH Tryd.prog Rows.patMakesRow.laid w) (fun _ _ _ hh h => h.of_heap hh) own started (by kernel_rfl) Tryd.func4
    (ChangeSpec.witness_shaped (enc := enc) (C := Tryd.checked) (os := os) (X := fun w _ => laidMetH Tryd.prog Rows.patMakesRow.laid w) false (World.doorLaid Tryd.prog 400 os) #[.agg #[.bool false, .int .i64 0, .int .i64 0, .int .u64 0]] 8 rfl (World.shaped_of_RefB (by kernel_rfl) (by kernel_rfl)) (by kernel_rfl) (by kernel_rfl) (by kernel_rfl) (door_met os _)) ?_
  intro W base args ds gs before hval0 hW hcnd hsz0 hL _
  have hval : ∀ (j : Nat) t v, Tryd.f4.params[j]? = some t → args[j]? = some v → Value.okWide Tryd.prog W .any base t v := hval0
  have hW' := hW
  obtain ⟨p, q, hA0, hV, rfl, hfz, hnd⟩ := hW
  have hA : DataW.TrodAll enc Tryd.prog W 0 (fun _ => true) true Tryd.f4.params.toList args.toList ds p := hA0
  rw [Tryd.params4] at hA hval
  obtain ⟨v0, vs0, d0, ds0, p0, q0, hargs, rfl, rfl, h0, r0⟩ := trodAll_cons hA
  obtain ⟨rfl, rfl, rfl⟩ := trodAll_nil r0
  obtain rfl : args = #[v0] := by cases args; simp_all
  obtain ⟨rfl, rfl⟩ := trodVars_none hV
  obtain ⟨a0, w0, c0⟩ := arg_parts (by kernel_rfl) (by kernel_rfl) (by kernel_rfl) (by kernel_rfl) (by kernel_rfl) (by kernel_rfl) (by kernel_rfl) (by kernel_rfl) (hval 0 34 v0 rfl rfl) h0
  have l0 : ∀ x ∈ p0, x.block < W.heap.size := fun x hx => by have := hW'.lt x; simp only [List.mem_append] at this; exact this (by simp [hx])
  obtain ⟨N, hN⟩ := pure_PatMakes a0 w0
  have hI := ok4 N (a0, ()) _ hN
  refine (hI.calls (code := c4) Tryd.func4 (by kernel_rfl) (by kernel_rfl) [v0] W (gv_of_laid hL) ⟨c0, trivial⟩).mono fun e W' ⟨v, he, bel, hv⟩ => ?_
  obtain rfl : v = .bool true := hv
  subst he
  exact ⟨_, rfl, _, _, _, [], _, [], hW', trodAll_mk1 (shut_bool Tryd.underlying4 _), (trodAll_cons_mk (Below.trod laidOut (by kernel_rfl) (of_decide_eq_true (by kernel_rfl)) h0 bel l0) trodAll_mk0), rfl, bel.frame _, fun h => by cases h⟩
theorem over : Rows.patMakesRow.holds Tryd.pinned (OpenSpec.ofChange Rows.patMakesSpec) :=
  OpenClaim.holds_of_wide 4 Tryd.f4 rfl rfl rfl rfl rfl rfl rfl ⟨rfl, rfl, rfl, rfl, rfl⟩ rfl rfl rfl rfl rfl (by kernel_rfl) Tryd.func4 (by kernel_rfl)
    (of_decide_eq_true (by kernel_rfl)) (by unfold Func.isWrapper; first | (rw [if_pos (by decide +kernel)]; kernel_rfl) | (rw [if_neg (by decide +kernel)]; exact ⟨rfl, rfl⟩))
    (fun os started H enc _ => lifted os started H enc)
theorem card : Claim7.holds Tryd.pinned (.plain (OpenSpec.ofChange Rows.patMakesSpec)) Rows.patMakesCard :=
  Claim7.holds_tied_plain_at .later [] [.data, .data, .data, .handle] true (true, "e1237891e65c88b0abf8230ad319c6d205c916cf8ff2951b2699894c8c25ad90") true
    over (fun _ h => by cases h) (by kernel_rfl) (fun _ h => by cases h) patMakes_row_tie rfl ⟨rfl, rfl⟩ (by kernel_rfl) rfl
    (fun f fn hf hfn => by
      obtain rfl : f = 4 := Option.some.inj ((show Tryd.prog.funcNamed "tiller/tillerlaw03.PatMakes" = some 4 by kernel_rfl).symm.trans hf) |>.symm
      obtain rfl : fn = Tryd.f4 := (Option.some.inj (Tryd.func4.symm.trans hfn)).symm
      exact ⟨by kernel_rfl, fun j t ht => by
        rw [Tryd.params4] at ht
        rcases j with _ | j
        · simp at ht; subst ht; exact (show Tryd.prog.wantsStandIn 34 = false by kernel_rfl)
        · simp at ht⟩)
    (by kernel_rfl)
end Go.Proofs.YtnpcejiijhgkjaaDoor.patMakesRow
namespace Go.Proofs.YtnpcejiijhgkjaaDoor
/-- The given card, proved. -/
theorem patMakes_holds : Rows.PatMakesCardSaid := patMakesRow.card
#print axioms patMakes_holds
end Go.Proofs.YtnpcejiijhgkjaaDoor
