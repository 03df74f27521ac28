/- PLAIN FACTS on chapters 5 and 6, by values: sums, products and products with a sum of finite patterns are numbers of their values, rounded. No statement is proved here. -/
import Derived.Test.YtopcajgknbmbcaaGreatDoorVal3
namespace Go.Proofs.YtopcajgknbmbcaaGreatDoor.Top
open Go Go.RowKit Go.Proofs.YtopcajgknbmbcaaGreatDoor.Eng Go.Proofs.YtopcajgknbmbcaaGreatDoor.Fns Go.Proofs.YtopcajgknbmbcaaGreatDoor.Bw Go.Proofs.YtopcajgknbmbcaaGreatDoor.Wid Go.Proofs.YtopcajgknbmbcaaGreatDoor.Patp
set_option linter.unusedVariables false
set_option linter.unusedSimpArgs false
theorem cTv {α : Type} {b : Bool} {x y w : α} (h : b = true) (hx : x = w) : cond b x y = w := by rw [h]; exact hx
theorem cFv {α : Type} {b : Bool} {x y w : α} (h : b = false) (hy : y = w) : cond b x y = w := by rw [h]; exact hy
/-- the sign of a pattern -/
def mn (p : Int) : Bool := decide (9223372036854775808 ≤ p)
theorem okF_nan {a : Int} (ha : okF a) : nanB a = false := decide_eq_false (by have := ha.2; unfold sz at this; omega)
theorem okF_cls {a : Int} (ha : okF a) : eqI (clsR a) 3 = false := by
  obtain ⟨⟨h0, h1⟩, h2⟩ := ha
  have : eN a ≠ 2047 := by unfold eN; unfold sz at h2; omega
  unfold clsR
  rw [if_neg this]
  split
  · split <;> rfl
  · rfl
theorem okF_fin {a : Int} (ha : okF a) : decide (a % 9223372036854775808 < 9218868437227405312) = true := decide_eq_true (by have := ha.2; unfold sz at this; omega)
theorem of_F (N : Nat) (hN : 300 ≤ N) (K : Nat) {a : Int} (ha : okF a) : ∃ k : Nat, k < 2 ^ 53 ∧ sigR a = (k : Int) ∧ VN K (sz a) = k * P K (expR a) ∧ -1074 ≤ expR a ∧ expR a ≤ 971 ∧ fn_rnd_Of N a = some ((mn a, expR a, W k, false), none) := by
  obtain ⟨k, h1, h2, h3, h4, h5, _⟩ := sig_val K ha.1 ha.2
  refine ⟨k, h2, h1, h3, h4, h5, ?_⟩
  unfold fn_rnd_Of
  refine bndE (takeP_eq N a ha.1.1 ha.1.2) (bndE (finP_eq N a ha.1.1 ha.1.2 (by omega)) (cFv (by rw [okF_fin ha]; rfl) ?_))
  simp only [h1]
  exact bndE (of_small N k (by omega)) rfl
/-- a number's value by its parts -/
def NV (K : Nat) (mi : Bool) (E : Int) (s : Nat) : Int := sv mi (s * P K E)
/-- an operation is a number, rounded -/
def Is (N K : Nat) (o : Option (Int × Int)) (m : Int) (v : Int) : Prop := ∃ mi E s, o = fn_rnd_Round N (mi, E, W s, false) m ∧ s < 2 ^ 256 ∧ NV K mi E s = v ∧ -2500 ≤ E ∧ E ≤ 2500
theorem sv_abs (mi : Bool) (x : Nat) : (sv mi x).natAbs = x := by cases mi <;> simp only [sv, cond_true, cond_false] <;> omega
theorem Is.exact {N K : Nat} (hN : 300 ≤ N) (hK : 3000 ≤ K) {o : Option (Int × Int)} {m v : Int} (h : Is N K o m v) (hb : v.natAbs < P K 1000) (hr : Rep K v.natAbs) : ∃ p, o = some (p, 0) ∧ okF p ∧ SV K p = v := by
  obtain ⟨mi, E, s, h1, h2, h3, h4, h5⟩ := h
  have h6 : v.natAbs = s * P K E := by rw [← h3]; exact sv_abs _ _
  rw [h6] at hb hr
  obtain ⟨b, g1, g2, g3⟩ := round_exact N hN mi E s m K h2 (by omega) (by omega) (by omega) (by omega) hb hr
  exact ⟨sg mi + b, by rw [h1, g1], okF_sg mi g2, by rw [SV_sg K mi (by omega), g3]; exact h3⟩
theorem Is.any {N K : Nat} (hN : 300 ≤ N) (hK : 3000 ≤ K) {o : Option (Int × Int)} {m v : Int} (h : Is N K o m v) (hb : v.natAbs < P K 1000) : ∃ p f, o = some (p, f) ∧ okF p ∧ (v < 0 → mn p = true) ∧ (0 < v → mn p = false) := by
  obtain ⟨mi, E, s, h1, h2, h3, h4, h5⟩ := h
  have h6 : v.natAbs = s * P K E := by rw [← h3]; exact sv_abs _ _
  rw [h6] at hb
  obtain ⟨b, f, g1, g2⟩ := round_any N hN mi E s m K h2 (by omega) (by omega) (by omega) (by omega) hb
  have hmn : mn (sg mi + (b : Int)) = mi := minus_sg mi (by omega)
  refine ⟨sg mi + b, f, by rw [h1, g1], okF_sg mi g2, fun hv => ?_, fun hv => ?_⟩
  · rw [hmn]; rw [← h3] at hv; unfold NV at hv; cases mi
    · simp only [sv, cond_false] at hv; omega
    · rfl
  · rw [hmn]; rw [← h3] at hv; unfold NV at hv; cases mi
    · rfl
    · simp only [sv, cond_true] at hv; omega
theorem SV_neg {K : Nat} {p : Int} (h : SV K p < 0) : mn p = true := by
  unfold SV at h; unfold mn
  cases hh : decide ((9223372036854775808 : Int) ≤ p)
  · rw [hh] at h; simp only [sv, cond_false] at h; omega
  · rfl
theorem SV_pos {K : Nat} {p : Int} (h : 0 < SV K p) : mn p = false := by
  unfold SV at h; unfold mn
  cases hh : decide ((9223372036854775808 : Int) ≤ p)
  · rfl
  · rw [hh] at h; simp only [sv, cond_true] at h; omega
theorem SV_abs (K : Nat) (p : Int) : (SV K p).natAbs = VN K (sz p) := sv_abs _ _
theorem VN_eq0 {K : Nat} (hK : 3000 ≤ K) {p : Nat} (h : VN K p = 0) : p = 0 := VN_inj K (by omega) (by rw [h, VN_zero])
theorem SV_inj {K : Nat} (hK : 3000 ≤ K) {p q : Int} (hp : okF p) (hq : okF q) (h : SV K p = SV K q) : p = q ∨ (sz p = 0 ∧ sz q = 0) := by
  have h1 : VN K (sz p) = VN K (sz q) := by rw [← SV_abs, ← SV_abs, h]
  have h2 := VN_inj K (by omega) h1
  rcases Int.lt_trichotomy (SV K p) 0 with h3 | h3 | h3
  · refine .inl ?_
    have a := SV_neg h3
    rw [h] at h3
    have b := SV_neg h3
    unfold mn at a b
    rw [pat_split hp.1, pat_split hq.1, a, b, h2]
  · right
    have : VN K (sz p) = 0 := by rw [← SV_abs, h3]; rfl
    have := VN_eq0 hK this
    omega
  · refine .inl ?_
    have a := SV_pos h3
    rw [h] at h3
    have b := SV_pos h3
    unfold mn at a b
    rw [pat_split hp.1, pat_split hq.1, a, b, h2]
theorem bind_eta2 (o : Option (Int × Int)) : (o.bind fun r => some (r.1, r.2)) = o := bind_eta o
/-- a sum -/
theorem add_is (N : Nat) (hN : 300 ≤ N) (K : Nat) (hK : 3000 ≤ K) {a b : Int} (ha : okF a) (hb : okF b) (m : Int) (hal : 0 < VN K (sz a) → 0 < VN K (sz b) → VN K (sz a) ≤ 2 ^ 60 * VN K (sz b) ∧ VN K (sz b) ≤ 2 ^ 60 * VN K (sz a)) :
    Is N K (fn_sums_Add N a b m) m (SV K a + SV K b) := by
  obtain ⟨k, k1, k2, k3, k4, k5, k6⟩ := of_F N hN K ha
  obtain ⟨j, j1, j2, j3, j4, j5, j6⟩ := of_F N hN K hb
  have hal' : 0 < k → 0 < j → k * P K (expR a) ≤ 2 ^ 60 * (j * P K (expR b)) ∧ j * P K (expR b) ≤ 2 ^ 60 * (k * P K (expR a)) := by
    intro h1 h2
    rw [k3, j3] at hal
    exact hal (Nat.mul_pos h1 (P_pos _ _)) (Nat.mul_pos h2 (P_pos _ _))
  obtain ⟨mi3, E3, s3, r1, r2, r3, r4⟩ := join_val N hN K (mn a) (mn b) (expR a) (expR b) k j m (by omega) (by omega) (by omega) (by omega) (by omega) (by omega) (by omega) (by omega) hal'
  refine ⟨mi3, E3, s3, ?_, r2, ?_, by omega, by omega⟩
  · have rest : ((fn_pat_Class N a).bind fun r23 => cond (eqI r23 3) (some (a, 0)) ((fn_pat_Class N b).bind fun r24 => cond (eqI r24 3) (some (b, 0)) ((fn_rnd_Of N a).bind fun r25 => (fn_rnd_Of N b).bind fun r26 =>
        cond (!(isNoneI r25.2)) ((fn_sums_none N [a, b]).bind fun r27 => some (r27.1, r27.2)) (cond (!(isNoneI r26.2)) ((fn_sums_none N [a, b]).bind fun r28 => some (r28.1, r28.2))
          ((fn_sums_join N (r25.1.1, r25.1.2.1, r25.1.2.2.1, r25.1.2.2.2) (r26.1.1, r26.1.2.1, r26.1.2.2.1, r26.1.2.2.2) m).bind fun r29 => (fn_rnd_Round N (r29.1, r29.2.1, r29.2.2.1, r29.2.2.2) m).bind fun r30 => some (r30.1, r30.2)))))) = fn_rnd_Round N (mi3, E3, W s3, false) m :=
      bndE (clsP_eq N a ha.1.1 ha.1.2) (cFv (okF_cls ha) (bndE (clsP_eq N b hb.1.1 hb.1.2) (cFv (okF_cls hb) (bndE k6 (bndE j6 (cFv rfl (cFv rfl (bndE r1 (bind_eta2 _)))))))))
    unfold fn_sums_Add
    exact bndE (nan_eq N a ha.1.1 ha.1.2) (cFv (okF_nan ha) (bndE (nan_eq N b hb.1.1 hb.1.2) (cFv (okF_nan hb) (bndE (clsP_eq N a ha.1.1 ha.1.2) (cFv (okF_cls ha) rest)))))
  · unfold NV SV
    rw [r3, k3, j3]; rfl
theorem neg_F {b : Int} (hb : okF b) (N : Nat) : ∃ c, fn_pat_Neg N b = some c ∧ okF c ∧ sz c = sz b ∧ (∀ K, SV K c = -(SV K b)) ∧ mn c = !(mn b) := by
  refine ⟨_, negP_eq N b hb.1.1 hb.1.2, ?_⟩
  have hs := pat_split hb.1
  have hl : sz b < 9223372036854775808 := by have := hb.2; omega
  have he : (if b < 9223372036854775808 then b + 9223372036854775808 else b - 9223372036854775808) = sg (!(mn b)) + (sz b : Int) := by
    unfold mn sz
    have := hb.1
    unfold U at this
    by_cases h : b < 9223372036854775808
    · rw [if_pos h, decide_eq_false (by omega)]; simp only [sg, Bool.not_false, cond_true]; omega
    · rw [if_neg h, decide_eq_true (by omega)]; simp only [sg, Bool.not_true, cond_false]; omega
  rw [he]
  refine ⟨okF_sg _ hb.2, sz_sg _ _ hl, fun K => ?_, minus_sg _ hl⟩
  rw [SV_sg K _ hl]
  unfold SV mn
  cases decide ((9223372036854775808 : Int) ≤ b) <;> simp only [sv, Bool.not_false, Bool.not_true, cond_true, cond_false] <;> omega
theorem sub_is (N : Nat) (hN : 300 ≤ N) (K : Nat) (hK : 3000 ≤ K) {a b : Int} (ha : okF a) (hb : okF b) (m : Int) (hal : 0 < VN K (sz a) → 0 < VN K (sz b) → VN K (sz a) ≤ 2 ^ 60 * VN K (sz b) ∧ VN K (sz b) ≤ 2 ^ 60 * VN K (sz a)) :
    Is N K (fn_sums_Sub N a b m) m (SV K a - SV K b) := by
  obtain ⟨c, c1, c2, c3, c4, _⟩ := neg_F hb N
  have h := add_is N hN K hK ha c2 m (by rw [c3]; exact hal)
  rw [c4, ← Int.sub_eq_add_neg] at h
  have e : fn_sums_Sub N a b m = fn_sums_Add N a c m := by
    unfold fn_sums_Sub
    exact bndE (nan_eq N b hb.1.1 hb.1.2) (cTv (by rw [okF_nan hb]; rfl) (bndE c1 (bind_eta2 _)))
  rw [e]; exact h
theorem nothing_F (N : Nat) {a b : Int} (ha : okF a) (hb : okF b) : fn_prod_nothing N a b = some false := by
  have e1 : eqI (a % 9223372036854775808) 9218868437227405312 = false := eqI_f (by have := ha.2; unfold sz at this; omega)
  have e2 : eqI (b % 9223372036854775808) 9218868437227405312 = false := eqI_f (by have := hb.2; unfold sz at this; omega)
  unfold fn_prod_nothing
  refine bndE (abs_eq N a ha.1.1 ha.1.2) (bndE (abs_eq N b hb.1.1 hb.1.2) ?_)
  rw [e1, e2]
  cases eqI (a % 9223372036854775808) 0 <;> rfl
theorem prod_lt53 {k j : Nat} (h1 : k < 2 ^ 53) (h2 : j < 2 ^ 53) : k * j < 2 ^ 106 := by
  have := Nat.mul_le_mul (Nat.le_of_lt_succ (show k < 9007199254740991 + 1 by omega)) (Nat.le_of_lt_succ (show j < 9007199254740991 + 1 by omega))
  exact Nat.lt_of_le_of_lt this (by decide)
theorem sv_mul (a b : Bool) (x y : Nat) : sv (a != b) (x * y) = sv a x * sv b y := by
  cases a <;> cases b <;> simp [sv, Int.neg_mul, Int.mul_neg]
/-- an exact product -/
theorem exact_val (N : Nat) (hN : 300 ≤ N) (K : Nat) (hK : 3000 ≤ K) {a b : Int} (ha : okF a) (hb : okF b) : ∃ E s, fn_prod_exact N a b = some (mn a != mn b, E, W s, false) ∧ s < 2 ^ 106 ∧ -2148 ≤ E ∧ E ≤ 1942 ∧ s * P K E * P K 0 = VN K (sz a) * VN K (sz b) := by
  obtain ⟨k, k1, k2, k3, k4, k5, _⟩ := of_F N hN K ha
  obtain ⟨j, j1, j2, j3, j4, j5, _⟩ := of_F N hN K hb
  have hp := prod_lt53 k1 j1
  refine ⟨expR a + expR b, k * j, ?_, hp, by omega, by omega, ?_⟩
  · unfold fn_prod_exact
    refine bndE (takeP_eq N a ha.1.1 ha.1.2) (bndE (takeP_eq N b hb.1.1 hb.1.2) ?_)
    simp only [k2, j2]
    refine bndE (of_small N k (by omega)) (bndE (of_small N j (by omega)) (bndE (mul_eq N hN k j (by omega) (by omega)) ?_))
    rw [Nat.mod_eq_of_lt (by omega), addI_i (by omega) (by omega)]
    have : (!(eqB (decide (9223372036854775808 ≤ a)) (decide (9223372036854775808 ≤ b)))) = (mn a != mn b) := by
      unfold mn
      cases decide ((9223372036854775808 : Int) ≤ a) <;> cases decide ((9223372036854775808 : Int) ≤ b) <;> rfl
    rw [this]
  · rw [k3, j3, Nat.mul_mul_mul_comm, P_two K (by omega) (by omega) (by omega), Nat.mul_assoc]
theorem NV_mul (K : Nat) (t : Bool) (x c y z : Nat) (h : x * c = y * z) (a b : Bool) (ht : t = (a != b)) : sv t x * (c : Int) = sv a y * sv b z := by
  rw [← sv_mul, ← h, ht]
  cases a <;> cases b <;> simp [sv, Int.neg_mul]
theorem mul_is (N : Nat) (hN : 300 ≤ N) (K : Nat) (hK : 3000 ≤ K) {a b : Int} (ha : okF a) (hb : okF b) (m v : Int) (hv : SV K a * SV K b = v * (P K 0 : Int)) : Is N K (fn_prod_Mul N a b m) m v := by
  obtain ⟨E, s, e1, e2, e3, e4, e5⟩ := exact_val N hN K hK ha hb
  refine ⟨mn a != mn b, E, s, ?_, by omega, ?_, by omega, by omega⟩
  · unfold fn_prod_Mul
    exact bndE (nan_eq N a ha.1.1 ha.1.2) (cFv (okF_nan ha) (bndE (nan_eq N b hb.1.1 hb.1.2) (cFv (okF_nan hb) (bndE (nothing_F N ha hb) (cFv rfl (bndE (finP_eq N a ha.1.1 ha.1.2 (by omega)) (cFv (by rw [okF_fin ha]; rfl)
      (bndE (finP_eq N b hb.1.1 hb.1.2 (by omega)) (cFv (by rw [okF_fin hb]; rfl) (bndE e1 (bind_eta2 _)))))))))))
  · have h := NV_mul K _ _ _ _ _ e5 (mn a) (mn b) rfl
    have hp := P_pos K 0
    have : NV K (mn a != mn b) E s * (P K 0 : Int) = v * (P K 0 : Int) := by rw [← hv]; exact h
    exact Int.eq_of_mul_eq_mul_right (by omega) this
theorem right_t (N : Nat) (hN : 300 ≤ N) (mi : Bool) (E : Int) (s : Nat) (hs : s < 2 ^ 128) (h0 : -100000 ≤ E) (h1 : E ≤ 100000) : fn_sums_right N (mi, E, W s, false) = some true := by
  have hl : lenN s ≤ 128 := lenN_le hs
  unfold fn_sums_right
  simp only
  refine bndE (len_eq N hN s (by omega)) (cTv (leI_t (by omega)) (cTv rfl (cTv (leI_t h0) ?_)))
  rw [leI_t h1]
theorem psign_any (N : Nat) (a b : Int) : ∃ t, fn_prod_sign N a b = some t := ⟨_, rfl⟩
/-- a product with a sum -/
theorem fma_is (N : Nat) (hN : 300 ≤ N) (K : Nat) (hK : 3000 ≤ K) {a b c : Int} (ha : okF a) (hb : okF b) (hc : okF c) (m v : Int) (hv : SV K a * SV K b = v * (P K 0 : Int)) (hal : 0 < v.natAbs → 0 < VN K (sz c) → v.natAbs ≤ 2 ^ 60 * VN K (sz c) ∧ VN K (sz c) ≤ 2 ^ 60 * v.natAbs) :
    Is N K (fn_prod_Fma N a b c m) m (v + SV K c) := by
  obtain ⟨E, s, e1, e2, e3, e4, e5⟩ := exact_val N hN K hK ha hb
  obtain ⟨j, j1, j2, j3, j4, j5, j6⟩ := of_F N hN K hc
  have hsv : NV K (mn a != mn b) E s = v := by
    have h := NV_mul K _ _ _ _ _ e5 (mn a) (mn b) rfl
    have hp := P_pos K 0
    have : NV K (mn a != mn b) E s * (P K 0 : Int) = v * (P K 0 : Int) := by rw [← hv]; exact h
    exact Int.eq_of_mul_eq_mul_right (by omega) this
  have hva : v.natAbs = s * P K E := by rw [← hsv]; exact sv_abs _ _
  rw [hva, j3] at hal
  obtain ⟨mi3, E3, s3, r1, r2, r3, r4⟩ := join_val N hN K (mn a != mn b) (mn c) E (expR c) s j m (by omega) (by omega) (by omega) (by omega) (by omega) (by omega) (by omega) (by omega) (fun h1 h2 => hal (Nat.mul_pos h1 (P_pos _ _)) (Nat.mul_pos h2 (P_pos _ _)))
  have hE : fn_sums_Exact N (mn a != mn b, E, W s, false) (mn c, expR c, W j, false) m = some ((mi3, E3, W s3, false), none) := by
    unfold fn_sums_Exact
    exact bndE (right_t N hN (mn a != mn b) E s (by omega) (by omega) (by omega)) (cFv rfl (bndE (right_t N hN (mn c) (expR c) j (by omega) (by omega) (by omega)) (cFv rfl (bndE r1 rfl))))
  obtain ⟨t, ht⟩ := psign_any N a b
  refine ⟨mi3, E3, s3, ?_, r2, ?_, by omega, by omega⟩
  · unfold fn_prod_Fma
    exact bndE ht (bndE (nothing_F N ha hb) (cFv rfl (bndE (nan_eq N a ha.1.1 ha.1.2) (cFv (okF_nan ha) (bndE (nan_eq N b hb.1.1 hb.1.2) (cFv (okF_nan hb) (bndE (nan_eq N c hc.1.1 hc.1.2) (cFv (okF_nan hc)
      (bndE (finP_eq N a ha.1.1 ha.1.2 (by omega)) (cFv (by rw [okF_fin ha]; rfl) (bndE (finP_eq N b hb.1.1 hb.1.2 (by omega)) (cFv (by rw [okF_fin hb]; rfl) (bndE (finP_eq N c hc.1.1 hc.1.2 (by omega)) (cFv (by rw [okF_fin hc]; rfl)
        (bndE j6 (cFv rfl (bndE e1 (bndE hE (cFv rfl (bind_eta2 _))))))))))))))))))))
  · show NV K mi3 E3 s3 = _
    unfold NV SV at *
    rw [r3, hsv, j3]; rfl
end Go.Proofs.YtopcajgknbmbcaaGreatDoor.Top
