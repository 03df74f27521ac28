/- The given card 'TopWholesCardSaid', proved: whatever the input is, the law returns true and its arguments read as they did. Condition: the listed package variables hold what the program's text lays there (the card ties it). -/
import Derived.Test.YtopcajgknbmbcaaGreatDoorRows
import Derived.Test.YtopcajgknbmbcaaGreatDoorCards
import Derived.Test.YtopcajgknbmbcaaGreatDoorTie
import Derived.Test.YtopcajgknbmbcaaGreatDoorFnTopWholes
import Derived.Test.YtopcajgknbmbcaaGreatDoorEng13
import Derived.Test.YtopcajgknbmbcaaGreatDoorPureTopWholes
import Derived.ChangeSame
import Derived.ChangeVars
import Derived.JoinedOf
import Derived.RowKit
import Derived.RowKitTokens
import Derived.LaidLaws
import Derived.LaidHandle
import Derived.LaidMore
import Derived.LaidSub
import Derived.MakeChecks
import Derived.OpenShut
import Derived.Stop.Joined
import Derived.SevenTiedAt
namespace Go.Proofs.YtopcajgknbmbcaaGreatDoor.topWholesRow
open Go Go.ChangeShapes Go.WideShapes Go.ChangeAt Go.RowKit Go.Proofs.YtopcajgknbmbcaaGreatDoor.Eng Go.Proofs.YtopcajgknbmbcaaGreatDoor.Fns
set_option linter.unusedVariables false
theorem own : ownKnob Tryz.prog.godebug = none := by kernel_rfl
theorem laidOut : laidOutB Tryz.prog = true := by kernel_rfl
theorem tab_of_laid {W : World} (h0 : laidMetH Tryz.prog Rows.topWholesRow.laid W) : W.cell? ⟨3, 15, none⟩ = some (.int .u8 4) := by
  have h1 := laidMetH.filter (fun x => x.1 == "math/bits.deBruijn64tab") h0
  have e : (Rows.topWholesRow.laid.filter fun x => x.1 == "math/bits.deBruijn64tab") = [("math/bits.deBruijn64tab", Rows.laid_math_bits_deBruijn64tab)] := by kernel_rfl
  rw [e, MakeChecks.laidMetH_plain _ _ _ (by kernel_rfl)] at h1
  obtain ⟨ps, ⟨g, t, cs, fuel, p, q, e1, e2, e3, e4, e5, e6⟩, _⟩ := h1
  obtain rfl : g = 3 := Option.some.inj (e1.symm.trans (by kernel_rfl))
  obtain rfl : t = 206 := Option.some.inj (e2.symm.trans (by kernel_rfl))
  obtain ⟨xs, m, rfl, hx, hl, hn, hi⟩ := DataW.trod_array (n := 64) (e := 5) (by kernel_rfl) e4
  have h15 := hi 15 (by decide)
  rw [show Tryz.prog.cellsOf 5 = 1 from by kernel_rfl] at h15
  have hx15 : xs[15]? = some (xs[15]'(by omega)) := List.getElem?_eq_getElem (by omega)
  rw [hx15] at h15
  obtain ⟨n, ea, eb, _⟩ := DataW.trod_int (k := .u8) (by kernel_rfl) h15
  have hd : (Rows.laid_math_bits_deBruijn64tab : DataW Unit) = .agg (xs.map (·.1)) := congrArg Prod.fst hx
  have hl2 : (xs.map (·.1))[15]? = some (.lit (.int .u8 4)) := by
    have h3 : xs.map (·.1) = (match (Rows.laid_math_bits_deBruijn64tab : DataW Unit) with | .agg l => l | _ => []) := by rw [hd]
    rw [h3]; rfl
  rw [List.getElem?_map, hx15, eb] at hl2
  have hn4 : n = 4 := by simpa using hl2
  subst hn4
  have hc := World.var?_cell e1 e3 15
  rw [hc]
  have h4 : cs.toList[15]? = some (.int .u8 4) := by
    have h5 := congrArg (fun l : List Value => l[0]?) ea
    simpa using h5
  simpa using h4
theorem gv_of_laid {W : World} (h0 : laidMetH Tryz.prog Rows.topWholesRow.laid W) : GV W := by
  intro p hp
  unfold gvals at hp
  rcases List.mem_cons.1 hp with rfl | hp
  · exact tab_of_laid h0
  exact absurd hp List.not_mem_nil
theorem door_met (os : Os) (args : Array Value) : laidMetH Tryz.prog Rows.topWholesRow.laid ((World.doorLaid Tryz.prog 400 os).forCall (fun _ _ => 0) ⟨#[], args, []⟩).memory :=
  laidMetH_of_parts3 (fuel := 8) (laidMet_of_run' 8 (by kernel_rfl) (by kernel_rfl)) (by kernel_rfl) (by kernel_rfl)
set_option maxRecDepth 100000 in
theorem lifted (os : Os) (started : os.Started) (H : Type) (enc : TypeId × Value → H) :
    ReturnsInHanded {} Tryz.checked os 4 .any (fun w args => (Rows.topWholesSpec.pre enc Tryz.prog Tryz.f4 Rows.topWholesRow.domain false w args ∧ laidMetH Tryz.prog Rows.topWholesRow.laid w) ∧ sizedMet enc Tryz.prog Tryz.f4 (OpenSpec.ofChange Rows.topWholesSpec) false w args) (Rows.topWholesSpec.post enc Tryz.prog Tryz.f4 false true false false) := by
  refine returnsInHanded_of_change_and (C := Tryz.checked) (X := fun w _ => laidMetH Tryz.prog Rows.topWholesRow.laid w) (fun _ _ _ hh h => h.of_heap hh) own started (by kernel_rfl) Tryz.func4
    (ChangeSpec.witness_shaped (enc := enc) (C := Tryz.checked) (os := os) (X := fun w _ => laidMetH Tryz.prog Rows.topWholesRow.laid w) false (World.doorLaid Tryz.prog 400 os) #[.int .i64 0, .int .i64 0, .int .i64 0] 8 rfl (World.shaped_of_RefB (by kernel_rfl) (by kernel_rfl)) (by kernel_rfl) (by kernel_rfl) (by kernel_rfl) (door_met os _)) ?_
  intro W base args ds gs before hval0 hW hcnd hsz0 hL _
  have hval : ∀ (j : Nat) t v, Tryz.f4.params[j]? = some t → args[j]? = some v → Value.okWide Tryz.prog W .any base t v := hval0
  have hW' := hW
  obtain ⟨p, q, hA0, hV, rfl, hfz, hnd⟩ := hW
  have hA : DataW.TrodAll enc Tryz.prog W 0 (fun _ => true) true Tryz.f4.params.toList args.toList ds p := hA0
  rw [Tryz.params4] at hA hval
  obtain ⟨v0, vs0, d0, ds0, p0, q0, hargs, rfl, rfl, h0, r0⟩ := trodAll_cons hA
  obtain ⟨v1, vs1, d1, ds1, p1, q1, rfl, rfl, rfl, h1, r1⟩ := trodAll_cons r0
  obtain ⟨v2, vs2, d2, ds2, p2, q2, rfl, rfl, rfl, h2, r2⟩ := trodAll_cons r1
  obtain ⟨rfl, rfl, rfl⟩ := trodAll_nil r2
  obtain rfl : args = #[v0, v1, v2] := by cases args; simp_all
  obtain ⟨rfl, rfl⟩ := trodVars_none hV
  obtain ⟨a0, w0, c0⟩ := arg_int Tryz.underlying3 (hval 0 3 v0 rfl rfl) h0
  obtain ⟨a1, w1, c1⟩ := arg_int Tryz.underlying3 (hval 1 3 v1 rfl rfl) h1
  obtain ⟨a2, w2, c2⟩ := arg_int Tryz.underlying3 (hval 2 3 v2 rfl rfl) h2
  have l0 : ∀ x ∈ p0, x.block < W.heap.size := fun x hx => by have := hW'.lt x; simp only [List.mem_append] at this; exact this (by simp [hx])
  have l1 : ∀ x ∈ p1, x.block < W.heap.size := fun x hx => by have := hW'.lt x; simp only [List.mem_append] at this; exact this (by simp [hx])
  have l2 : ∀ x ∈ p2, x.block < W.heap.size := fun x hx => by have := hW'.lt x; simp only [List.mem_append] at this; exact this (by simp [hx])
  obtain ⟨N, hN⟩ := pure_TopWholes a0 a1 a2 w0 w1 w2
  have hI := ok4 N (a0, a1, a2, ()) _ hN
  refine (hI.calls (code := c4) Tryz.func4 (by kernel_rfl) (by kernel_rfl) [v0, v1, v2] W (gv_of_laid hL) ⟨c0, c1, c2, trivial⟩).mono fun e W' ⟨v, he, bel, hv⟩ => ?_
  obtain rfl : v = .bool true := hv
  subst he
  exact ⟨_, rfl, _, _, _, [], _, [], hW', trodAll_mk1 (shut_bool Tryz.underlying4 _), (trodAll_cons_mk (Below.trod laidOut (by kernel_rfl) (of_decide_eq_true (by kernel_rfl)) h0 bel l0) (trodAll_cons_mk (Below.trod laidOut (by kernel_rfl) (of_decide_eq_true (by kernel_rfl)) h1 bel l1) (trodAll_cons_mk (Below.trod laidOut (by kernel_rfl) (of_decide_eq_true (by kernel_rfl)) h2 bel l2) trodAll_mk0))), rfl, bel.frame _, fun h => by cases h⟩
theorem over : Rows.topWholesRow.holds Tryz.pinned (OpenSpec.ofChange Rows.topWholesSpec) :=
  OpenClaim.holds_of_wide 4 Tryz.f4 rfl rfl rfl rfl rfl rfl rfl ⟨rfl, rfl, rfl, rfl, rfl⟩ rfl rfl rfl rfl rfl (by kernel_rfl) Tryz.func4 (by kernel_rfl)
    (of_decide_eq_true (by kernel_rfl)) (by unfold Func.isWrapper; first | (rw [if_pos (by decide +kernel)]; kernel_rfl) | (rw [if_neg (by decide +kernel)]; exact ⟨rfl, rfl⟩))
    (fun os started H enc _ => lifted os started H enc)
theorem card : Claim7.holds Tryz.pinned (.plain (OpenSpec.ofChange Rows.topWholesSpec)) Rows.topWholesCard :=
  Claim7.holds_tied_plain_at .later [] [.data, .data, .data] true (true, "1efc4111e95f9b4e9b21f1b5b94b27b2f42eeb073d11cb079aacedf2480d9c36") false
    over (fun _ h => by cases h) (by kernel_rfl) (fun _ h => by cases h) topWholes_row_tie rfl ⟨rfl, rfl⟩ (by kernel_rfl) rfl
    (fun f fn hf hfn => by
      obtain rfl : f = 4 := Option.some.inj ((show Tryz.prog.funcNamed "tiller/tillertop.TopWholes" = some 4 by kernel_rfl).symm.trans hf) |>.symm
      obtain rfl : fn = Tryz.f4 := (Option.some.inj (Tryz.func4.symm.trans hfn)).symm
      exact ⟨by kernel_rfl, fun j t ht => by
        rw [Tryz.params4] at ht
        rcases j with _ | _ | _ | j
        · simp at ht; subst ht; exact (show Tryz.prog.wantsStandIn 3 = false by kernel_rfl)
        · simp at ht; subst ht; exact (show Tryz.prog.wantsStandIn 3 = false by kernel_rfl)
        · simp at ht; subst ht; exact (show Tryz.prog.wantsStandIn 3 = false by kernel_rfl)
        · simp at ht⟩)
    (by kernel_rfl)
end Go.Proofs.YtopcajgknbmbcaaGreatDoor.topWholesRow
namespace Go.Proofs.YtopcajgknbmbcaaGreatDoor
/-- The given card, proved. -/
theorem topWholes_holds : Rows.TopWholesCardSaid := topWholesRow.card
#print axioms topWholes_holds
end Go.Proofs.YtopcajgknbmbcaaGreatDoor
