/- PLAIN FACTS on the operations, part 3: sums, products, quotients, roots, products with a sum, by all modes. No statement is proved here. -/
import Derived.Test.YtopcajgknbmbcaaGreatDoorTop5
namespace Go.Proofs.YtopcajgknbmbcaaGreatDoor.Top
open Go Go.RowKit Go.Proofs.YtopcajgknbmbcaaGreatDoor.Eng Go.Proofs.YtopcajgknbmbcaaGreatDoor.Fns Go.Proofs.YtopcajgknbmbcaaGreatDoor.Bw Go.Proofs.YtopcajgknbmbcaaGreatDoor.Wid Go.Proofs.YtopcajgknbmbcaaGreatDoor.Patp
set_option linter.unusedVariables false
set_option linter.unusedSimpArgs false
theorem add_rest (N : Nat) (hN : 300 ≤ N) {a b : Int} (ha : U a) (hb : U b) : Sp (fun m => (fn_rnd_Of N a).bind fun r9 =>
    (fn_rnd_Of N b).bind fun r10 =>
     cond (!(isNoneI r9.2))
      ((fn_sums_none N [a, b]).bind fun r11 =>
       some (r11.1, r11.2))
      (cond (!(isNoneI r10.2))
       ((fn_sums_none N [a, b]).bind fun r12 =>
        some (r12.1, r12.2))
       ((fn_sums_join N (r9.1.1, r9.1.2.1, r9.1.2.2.1, r9.1.2.2.2) (r10.1.1, r10.1.2.1, r10.1.2.2.1, r10.1.2.2.2) m).bind fun r13 =>
        (fn_rnd_Round N (r13.1, r13.2.1, r13.2.2.1, r13.2.2.2) m).bind fun r14 =>
         some (r14.1, r14.2)))) := by
  obtain ⟨mi, E, s, mo, e, h1, hs⟩ := of_num N hN ha
  obtain ⟨mi2, E2, s2, mo2, e2, h2, hs2⟩ := of_num N hN hb
  obtain ⟨f, hf⟩ := snone2 N hN ha hb
  refine Sp.bnd h1 (Sp.bnd h2 (Sp.cnd (fun _ => Sp.bnd hf (Sp.nan f)) fun _ => Sp.cnd (fun _ => Sp.bnd hf (Sp.nan f)) fun _ => ?_))
  exact Sp.sum N hN (join_mi N hN mi mo mi2 mo2 E E2 s s2 hs hs2)
theorem add_sp (N : Nat) (hN : 300 ≤ N) {a b : Int} (ha : U a) (hb : U b) : Sp (fun m => fn_sums_Add N a b m) := by
  obtain ⟨f, hf⟩ := snone2 N hN ha hb
  have ca := clsP_eq N a ha.1 ha.2
  have cb := clsP_eq N b hb.1 hb.2
  unfold fn_sums_Add
  refine Sp.bnd (nan_eq N a ha.1 ha.2) (Sp.cnd (fun _ => Sp.bnd hf (Sp.nan f)) fun na => Sp.bnd (nan_eq N b hb.1 hb.2) (Sp.cnd (fun _ => Sp.bnd hf (Sp.nan f)) fun nb => ?_))
  have oa := ok_of_nan ha na
  have ob := ok_of_nan hb nb
  have rest2 : Sp (fun m => (fn_pat_Class N a).bind fun r15 =>
           cond (eqI r15 3)
            (some (a, 0))
            ((fn_pat_Class N b).bind fun r16 =>
             cond (eqI r16 3)
              (some (b, 0))
              ((fn_rnd_Of N a).bind fun r9 =>
    (fn_rnd_Of N b).bind fun r10 =>
     cond (!(isNoneI r9.2))
      ((fn_sums_none N [a, b]).bind fun r11 =>
       some (r11.1, r11.2))
      (cond (!(isNoneI r10.2))
       ((fn_sums_none N [a, b]).bind fun r12 =>
        some (r12.1, r12.2))
       ((fn_sums_join N (r9.1.1, r9.1.2.1, r9.1.2.2.1, r9.1.2.2.2) (r10.1.1, r10.1.2.1, r10.1.2.2.1, r10.1.2.2.2) m).bind fun r13 =>
        (fn_rnd_Round N (r13.1, r13.2.1, r13.2.2.1, r13.2.2.2) m).bind fun r14 =>
         some (r14.1, r14.2)))))) :=
    Sp.bnd ca (Sp.cnd (fun _ => Sp.const oa (.inl rfl)) fun _ => Sp.bnd cb (Sp.cnd (fun _ => Sp.const ob (.inl rfl)) fun _ => add_rest N hN ha hb))
  exact Sp.bnd ca (Sp.cnd (fun _ => Sp.bnd cb (Sp.cnd (fun _ => Sp.cnd (fun _ => Sp.nan 1) fun _ => rest2) fun _ => rest2)) fun _ => rest2)
theorem nothing_eq (N : Nat) {a b : Int} (ha : U a) (hb : U b) : ∃ t, fn_prod_nothing N a b = some t := by
  unfold fn_prod_nothing
  rw [abs_eq N a ha.1 ha.2, Option.bind_some, abs_eq N b hb.1 hb.2, Option.bind_some]
  cases eqI (a % 9223372036854775808) 0 <;> cases eqI (b % 9223372036854775808) 9218868437227405312 <;> cases eqI (a % 9223372036854775808) 9218868437227405312 <;> exact ⟨_, rfl⟩
theorem psign_eq (N : Nat) (a b : Int) : ∃ t, fn_prod_sign N a b = some (sg t) := by
  obtain ⟨t, ht⟩ := sign_sg a b
  exact ⟨t, congrArg some ht⟩
theorem inf_sp (t : Bool) {f : Int} (hf : f = 0 ∨ f = 2) : Sp (fun _ => some (orI .u64 9218868437227405312 (sg t), f)) := by
  rw [inf_sg]; exact Sp.const (ok_inf t) hf
theorem mul_sp (N : Nat) (hN : 300 ≤ N) {a b : Int} (ha : U a) (hb : U b) : Sp (fun m => fn_prod_Mul N a b m) := by
  obtain ⟨f, hf⟩ := loud2 N hN ha hb
  obtain ⟨t, ht⟩ := nothing_eq N ha hb
  obtain ⟨g, hg⟩ := psign_eq N a b
  obtain ⟨mi, E, s, mo, hx, hs⟩ := exact_num N hN ha hb
  unfold fn_prod_Mul
  refine Sp.bnd (nan_eq N a ha.1 ha.2) (Sp.cnd (fun _ => Sp.bnd hf (Sp.nan f)) fun na => Sp.bnd (nan_eq N b hb.1 hb.2) (Sp.cnd (fun _ => Sp.bnd hf (Sp.nan f)) fun nb => ?_))
  refine Sp.bnd ht (Sp.cnd (fun _ => Sp.nan 1) fun _ => Sp.bnd (finP_eq N a ha.1 ha.2 (by omega)) (Sp.cnd (fun _ => Sp.bnd hg (inf_sp g (.inl rfl))) fun _ => Sp.bnd (finP_eq N b hb.1 hb.2 (by omega)) (Sp.cnd (fun _ => Sp.bnd hg (inf_sp g (.inl rfl))) fun _ => ?_)))
  exact Sp.bnd hx (Sp.rnd N hN ⟨s, hs, rfl⟩)
theorem div_sp (N : Nat) (hN : 300 ≤ N) {a b : Int} (ha : U a) (hb : U b) : Sp (fun m => fn_quot_Div N a b m) := by
  obtain ⟨f, hf⟩ := qnone N ha hb
  obtain ⟨k, hk, hk2⟩ := sig_nat ha
  obtain ⟨j, hj, hj2⟩ := sig_nat hb
  obtain ⟨t, ht⟩ := sign_sg a b
  obtain ⟨q, r, e, hd, hq⟩ := div_total N hN (shlZ k 128) j (shl_lt k (by omega) 128) (by omega)
  have ofa : fn_wide_Of N (sigR a) = some (W k) := by rw [hk]; exact of_small N k (by omega)
  have ofb : fn_wide_Of N (sigR b) = some (W j) := by rw [hj]; exact of_small N j (by omega)
  unfold fn_quot_Div
  refine Sp.bnd (takeP_eq N a ha.1 ha.2) (Sp.bnd (takeP_eq N b hb.1 hb.2) (Sp.bnd (nan_eq N a ha.1 ha.2) (Sp.cnd (fun _ => Sp.bnd hf (Sp.nan f)) fun na => Sp.bnd (nan_eq N b hb.1 hb.2) (Sp.cnd (fun _ => Sp.bnd hf (Sp.nan f)) fun nb => ?_))))
  rw [ht]
  simp only
  have main : Sp (fun m => (fn_wide_Of N (sigR a)).bind fun r7 =>
               (fn_wide_Shl N r7 128).bind fun r8 =>
                (fn_wide_Of N (sigR b)).bind fun r9 =>
                 (fn_wide_DivMod N r8 r9).bind fun r10 =>
                  cond (!(isNoneI r10.2.2))
                   (some (9221120237041090560, 1))
                   ((fn_rnd_Round N (!(eqI (sg t) 0), subI .i64 (subI .i64 (expR a) (expR b)) 128, r10.1, !(eqL r10.2.1.1 (Vec.zero 4).1)) m).bind fun r11 =>
                    some (r11.1, r11.2))) :=
    Sp.bnd ofa (Sp.bnd (shl_eq N hN k _) (Sp.bnd ofb (Sp.bnd hd (Sp.cnd (fun _ => Sp.nan 1) fun _ => Sp.rnd N hN ⟨q, hq, rfl⟩))))
  have tailS : Sp (fun m => cond (eqI (clsR a) 3)
            (some (orI .u64 9218868437227405312 (sg t), 0))
            (cond (eqI (clsR b) 3)
             (some (sg t, 0))
             (cond (eqI (clsR b) 0)
              (some (orI .u64 9218868437227405312 (sg t), 2))
              ((fn_wide_Of N (sigR a)).bind fun r7 =>
               (fn_wide_Shl N r7 128).bind fun r8 =>
                (fn_wide_Of N (sigR b)).bind fun r9 =>
                 (fn_wide_DivMod N r8 r9).bind fun r10 =>
                  cond (!(isNoneI r10.2.2))
                   (some (9221120237041090560, 1))
                   ((fn_rnd_Round N (!(eqI (sg t) 0), subI .i64 (subI .i64 (expR a) (expR b)) 128, r10.1, !(eqL r10.2.1.1 (Vec.zero 4).1)) m).bind fun r11 =>
                    some (r11.1, r11.2)))))) :=
    Sp.cnd (fun _ => inf_sp t (.inl rfl)) fun _ => Sp.cnd (fun _ => Sp.const (ok_sg t) (.inl rfl)) fun _ => Sp.cnd (fun _ => inf_sp t (.inr rfl)) fun _ => main
  exact Sp.cnd (fun _ => Sp.cnd (fun _ => Sp.nan 1) fun _ => Sp.cnd (fun _ => Sp.nan 1) fun _ => tailS) fun _ => tailS
theorem right_eq (N : Nat) (hN : 300 ≤ N) (mi mo : Bool) (E : Int) (s : Nat) (hs : s < 2 ^ 256) : ∃ t, fn_sums_right N (mi, E, W s, mo) = some t := by
  unfold fn_sums_right
  simp only
  rw [len_eq N hN s hs, Option.bind_some]
  cases leI (lenN s : Int) 128 <;> cases mo <;> cases leI (-100000) E <;> exact ⟨_, rfl⟩
theorem fma_sp (N : Nat) (hN : 300 ≤ N) {a b c : Int} (ha : U a) (hb : U b) (hc : U c) : Sp (fun m => fn_prod_Fma N a b c m) := by
  obtain ⟨f, hf⟩ := loud3 N hN ha hb hc
  obtain ⟨t, ht⟩ := nothing_eq N ha hb
  obtain ⟨g, hg⟩ := psign_eq N a b
  obtain ⟨mi, E, s, mo, hx, hs⟩ := exact_num N hN ha hb
  obtain ⟨mi2, E2, s2, mo2, e2, h2, hs2⟩ := of_num N hN hc
  have hu : U (orI .u64 9218868437227405312 (sg g)) := by rw [inf_sg]; cases g <;> exact ⟨by decide, by decide⟩
  unfold fn_prod_Fma
  refine Sp.bnd hg (Sp.bnd ht (Sp.cnd (fun _ => Sp.nan 1) fun _ => Sp.bnd (nan_eq N a ha.1 ha.2) (Sp.cnd (fun _ => Sp.bnd hf (Sp.nan f)) fun na => Sp.bnd (nan_eq N b hb.1 hb.2) (Sp.cnd (fun _ => Sp.bnd hf (Sp.nan f)) fun nb =>
    Sp.bnd (nan_eq N c hc.1 hc.2) (Sp.cnd (fun _ => Sp.bnd hf (Sp.nan f)) fun nc => ?_)))))
  have oc := ok_of_nan hc nc
  refine Sp.bnd (finP_eq N a ha.1 ha.2 (by omega)) (Sp.cnd (fun _ => Sp.eta (add_sp N hN hu hc)) fun _ => Sp.bnd (finP_eq N b hb.1 hb.2 (by omega)) (Sp.cnd (fun _ => Sp.eta (add_sp N hN hu hc)) fun _ => Sp.bnd (finP_eq N c hc.1 hc.2 (by omega)) (Sp.cnd (fun _ => Sp.const oc (.inl rfl)) fun _ => ?_)))
  refine Sp.bnd h2 (Sp.cnd (fun _ => Sp.nan 1) fun _ => Sp.bnd hx ?_)
  obtain ⟨t1, h3⟩ := right_eq N hN mi mo E s hs
  obtain ⟨t2, h4⟩ := right_eq N hN mi2 mo2 E2 s2 hs2
  have bad : ∀ K : Int → Option (Int × Int), Sp K → (∀ m, (fn_sums_Exact N (mi, E, W s, mo) (mi2, E2, W s2, mo2) m).bind (fun r16 => cond (!(isNoneI r16.2)) (some (9221120237041090560, 1)) ((fn_rnd_Round N (r16.1.1, r16.1.2.1, r16.1.2.2.1, r16.1.2.2.2) m).bind fun r17 => some (r17.1, r17.2))) = K m) →
      Sp (fun m => (fn_sums_Exact N (mi, E, W s, mo) (mi2, E2, W s2, mo2) m).bind fun r16 => cond (!(isNoneI r16.2)) (some (9221120237041090560, 1)) ((fn_rnd_Round N (r16.1.1, r16.1.2.1, r16.1.2.2.1, r16.1.2.2.2) m).bind fun r17 => some (r17.1, r17.2))) := by
    intro K hK h
    rw [funext h]; exact hK
  cases t1
  · refine bad _ (Sp.nan 1) fun m => ?_
    unfold fn_sums_Exact
    simp only
    rw [h3, Option.bind_some]; rfl
  · cases t2
    · refine bad _ (Sp.nan 1) fun m => ?_
      unfold fn_sums_Exact
      simp only
      rw [h3, Option.bind_some, show (!true) = false from rfl, cond_false, h4, Option.bind_some]; rfl
    · refine bad _ (Sp.sum N hN (join_mi N hN mi mo mi2 mo2 E E2 s s2 hs hs2)) fun m => ?_
      unfold fn_sums_Exact
      simp only
      rw [h3, Option.bind_some, show (!true) = false from rfl, cond_false, h4, Option.bind_some, show (!true) = false from rfl, cond_false]
      cases fn_sums_join N (mi, E, W s, mo) (mi2, E2, W s2, mo2) m <;> rfl
end Go.Proofs.YtopcajgknbmbcaaGreatDoor.Top
