/- PLAIN FACTS on the operations, part 2: each answers a number of no mode, rounded. No statement is proved here. -/
import Derived.Test.YtopcajgknbmbcaaGreatDoorTop4
namespace Go.Proofs.YtopcajgknbmbcaaGreatDoor.Top
open Go Go.RowKit Go.Proofs.YtopcajgknbmbcaaGreatDoor.Eng Go.Proofs.YtopcajgknbmbcaaGreatDoor.Fns Go.Proofs.YtopcajgknbmbcaaGreatDoor.Bw Go.Proofs.YtopcajgknbmbcaaGreatDoor.Wid Go.Proofs.YtopcajgknbmbcaaGreatDoor.Patp
set_option linter.unusedVariables false
set_option linter.unusedSimpArgs false
/-- a pattern -/
def U (a : Int) : Prop := 0 ≤ a ∧ a < 18446744073709551616
theorem lrd_u {l : List Int} (hl : ∀ x ∈ l, U x) {i : Nat} (hi : i < l.length) : U (lrd l (i : Int)) := by
  have e : lrd l (i : Int) = l[i] := by simp [lrd, List.getD_eq_getElem?_getD, hi]
  rw [e]; exact hl _ (List.getElem_mem _)
theorem snone_loop (N : Nat) (l : List Int) (hl : ∀ x ∈ l, U x) (hb : l.length < 1000) : ∀ n i : Nat, l.length < i + n → i ≤ l.length → ∃ f, l38_0 N n l (l.length : Int) (i : Int) = some (9221120237041090560, f)
  | 0, i, h, h2 => by omega
  | n + 1, i, h, h2 => by
    show ∃ f, s38_0 N (l38_0 N n) l (l.length : Int) (i : Int) = _
    unfold s38_0
    by_cases hi : i < l.length
    · rw [ltI_t (by omega), cond_true, leI_t (by omega), cond_true, cond_true, clsP_eq N _ (lrd_u hl hi).1 (lrd_u hl hi).2, Option.bind_some]
      cases eqI (clsR (lrd l (i : Int))) 5
      · rw [cond_false, addI_i (by omega) (by omega), show (i : Int) + 1 = ((i + 1 : Nat) : Int) by omega]
        exact snone_loop N l hl hb n (i + 1) (by omega) (by omega)
      · exact ⟨1, rfl⟩
    · rw [ltI_f (by omega), cond_false]
      exact ⟨0, rfl⟩
theorem loud_loop (N : Nat) (l : List Int) (hl : ∀ x ∈ l, U x) (hb : l.length < 1000) : ∀ n i : Nat, l.length < i + n → i ≤ l.length → ∃ f, l34_0 N n l (l.length : Int) (i : Int) = some f
  | 0, i, h, h2 => by omega
  | n + 1, i, h, h2 => by
    show ∃ f, s34_0 N (l34_0 N n) l (l.length : Int) (i : Int) = _
    unfold s34_0
    by_cases hi : i < l.length
    · rw [ltI_t (by omega), cond_true, leI_t (by omega), cond_true, cond_true, clsP_eq N _ (lrd_u hl hi).1 (lrd_u hl hi).2, Option.bind_some]
      cases eqI (clsR (lrd l (i : Int))) 5
      · rw [cond_false, addI_i (by omega) (by omega), show (i : Int) + 1 = ((i + 1 : Nat) : Int) by omega]
        exact loud_loop N l hl hb n (i + 1) (by omega) (by omega)
      · exact ⟨_, rfl⟩
    · rw [ltI_f (by omega), cond_false]
      exact ⟨_, rfl⟩
theorem snone2 (N : Nat) (hN : 300 ≤ N) {a b : Int} (ha : U a) (hb : U b) : ∃ f, fn_sums_none N [a, b] = some (9221120237041090560, f) := by
  unfold fn_sums_none t38
  exact snone_loop N [a, b] (by simp [ha, hb]) (by simp) N 0 (by simp; omega) (by simp)
theorem loud2 (N : Nat) (hN : 300 ≤ N) {a b : Int} (ha : U a) (hb : U b) : ∃ f, fn_prod_loud N [a, b] = some f := by
  unfold fn_prod_loud t34
  exact loud_loop N [a, b] (by simp [ha, hb]) (by simp) N 0 (by simp; omega) (by simp)
theorem loud3 (N : Nat) (hN : 300 ≤ N) {a b c : Int} (ha : U a) (hb : U b) (hc : U c) : ∃ f, fn_prod_loud N [a, b, c] = some f := by
  unfold fn_prod_loud t34
  exact loud_loop N [a, b, c] (by simp [ha, hb, hc]) (by simp) N 0 (by simp; omega) (by simp)
theorem qnone (N : Nat) {a b : Int} (ha : U a) (hb : U b) : ∃ f, fn_quot_none N a b = some (9221120237041090560, f) := by
  unfold fn_quot_none
  rw [clsP_eq N a ha.1 ha.2, Option.bind_some, clsP_eq N b hb.1 hb.2, Option.bind_some]
  cases eqI (clsR a) 5 <;> cases eqI (clsR b) 5 <;> exact ⟨_, rfl⟩
theorem ok_of_nan {a : Int} (ha : U a) (h : nanB a = false) : okP a := ⟨ha.1, ha.2, by unfold nanB at h; simpa using h⟩
theorem sig_nat {a : Int} (ha : U a) : ∃ k : Nat, sigR a = (k : Int) ∧ k < 2 ^ 53 := by
  have h0 : 0 ≤ sigR a ∧ sigR a < 2 ^ 53 := by
    have h1 : 0 ≤ fN a := Int.emod_nonneg _ (by decide)
    have h2 : fN a < 4503599627370496 := Int.emod_lt_of_pos _ (by decide)
    unfold sigR
    split
    · omega
    · split <;> omega
  obtain ⟨k, hk⟩ := Int.eq_ofNat_of_zero_le h0.1
  exact ⟨k, hk, by omega⟩
theorem of_num (N : Nat) (hN : 300 ≤ N) {a : Int} (ha : U a) : ∃ mi E s mo e, fn_rnd_Of N a = some ((mi, E, W s, mo), e) ∧ s < 2 ^ 256 := by
  unfold fn_rnd_Of
  rw [takeP_eq N a ha.1 ha.2, Option.bind_some, finP_eq N a ha.1 ha.2 (by omega), Option.bind_some]
  cases decide (a % 9223372036854775808 < 9218868437227405312)
  · rw [show (!false) = true from rfl, cond_true, W_zero]
    exact ⟨_, _, _, _, _, rfl, by decide⟩
  · obtain ⟨k, hk, hk2⟩ := sig_nat ha
    rw [show (!true) = false from rfl, cond_false]
    simp only [hk]
    rw [of_small N k (by omega), Option.bind_some]
    exact ⟨_, _, _, _, _, rfl, by omega⟩
theorem exact_num (N : Nat) (hN : 300 ≤ N) {a b : Int} (ha : U a) (hb : U b) : ∃ mi E s mo, fn_prod_exact N a b = some (mi, E, W s, mo) ∧ s < 2 ^ 256 := by
  obtain ⟨k, hk, hk2⟩ := sig_nat ha
  obtain ⟨j, hj, hj2⟩ := sig_nat hb
  unfold fn_prod_exact
  rw [takeP_eq N a ha.1 ha.2, Option.bind_some, takeP_eq N b hb.1 hb.2, Option.bind_some]
  simp only [hk, hj]
  rw [of_small N k (by omega), Option.bind_some, of_small N j (by omega), Option.bind_some, mul_eq N hN k j (by omega) (by omega), Option.bind_some]
  exact ⟨_, _, _, _, rfl, p256 _⟩
theorem wrap_u (x : Int) : U (IntKind.u64.wrap x) := by rw [wrap_u64]; exact ⟨by omega, by omega⟩
theorem sign_sg (a b : Int) : ∃ t, andI .u64 (xorI .u64 a b) 9223372036854775808 = sg t := by
  have h : U (xorI .u64 a b) := wrap_u _
  unfold andI
  rw [and_sign _ h.1 h.2]
  split
  · exact ⟨false, rfl⟩
  · exact ⟨true, rfl⟩
theorem inf_sg (t : Bool) : orI .u64 9218868437227405312 (sg t) = sg t + 9218868437227405312 := by cases t <;> decide +kernel
theorem ok_inf (t : Bool) : okP (sg t + 9218868437227405312) := by cases t <;> exact ⟨by decide, by decide, by decide⟩
theorem ok_sg (t : Bool) : okP (sg t) := by cases t <;> exact ⟨by decide, by decide, by decide⟩
theorem div_total (N : Nat) (hN : 300 ≤ N) (x y : Nat) (hx : x < 2 ^ 256) (hy : y < 2 ^ 256) : ∃ q r e, fn_wide_DivMod N (W x) (W y) = some (W q, r, e) ∧ q < 2 ^ 256 := by
  rcases Nat.eq_zero_or_pos y with h | h
  · subst h
    unfold fn_wide_DivMod t26
    rw [show eqL (W 0).1 (Vec.zero 4).1 = true by rw [W_zero, W_eq (by decide) (by decide)]; rfl, cond_true, W_zero]
    exact ⟨_, _, _, rfl, by decide⟩
  · exact ⟨_, _, _, divmod_eq N hN x y hx hy h, Nat.lt_of_le_of_lt (Nat.div_le_self _ _) hx⟩
end Go.Proofs.YtopcajgknbmbcaaGreatDoor.Top
