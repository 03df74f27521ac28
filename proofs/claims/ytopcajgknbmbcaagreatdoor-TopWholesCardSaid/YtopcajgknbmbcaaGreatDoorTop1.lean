/- PLAIN FACTS on chapter 4: what rounding does, by any mode. No statement is proved here. -/
import Derived.Test.YtopcajgknbmbcaaGreatDoorWide2
import Derived.Test.YtopcajgknbmbcaaGreatDoorPatp
namespace Go.Proofs.YtopcajgknbmbcaaGreatDoor.Top
open Go Go.RowKit Go.Proofs.YtopcajgknbmbcaaGreatDoor.Eng Go.Proofs.YtopcajgknbmbcaaGreatDoor.Fns Go.Proofs.YtopcajgknbmbcaaGreatDoor.Bw Go.Proofs.YtopcajgknbmbcaaGreatDoor.Wid Go.Proofs.YtopcajgknbmbcaaGreatDoor.Patp
set_option linter.unusedVariables false
set_option linter.unusedSimpArgs false
abbrev NumV := Bool × Int × Vec 4 × Bool
/-- its words are words -/
def WF (x : NumV) : Prop := ∃ s, s < 2 ^ 256 ∧ x.2.2.1 = W s
theorem p256 (s : Nat) : s % 2 ^ 256 < 2 ^ 256 := Nat.mod_lt _ (Nat.pow_pos (by decide))
theorem of_one (N : Nat) : fn_wide_Of N 1 = some (W 1) := of_small N 1 (by decide)
theorem near_eq (N : Nat) (x : NumV) : ∃ E, fn_rnd_Num_near N x = some (x.1, E, x.2.2.1, x.2.2.2) ∧ -131072 ≤ E ∧ E ≤ 131072 := by
  refine ⟨minI (maxI x.2.1 (-131072)) 131072, rfl, ?_, ?_⟩
  · unfold minI maxI; split <;> split <;> omega
  · unfold minI maxI; split <;> split <;> omega
theorem exact_eq (N : Nat) (hN : 300 ≤ N) (mi mo : Bool) (E : Int) (s : Nat) (hs : s < 2 ^ 256) (h0 : -131072 ≤ E) (h1 : E ≤ 131072) :
    ∃ E' s' mo', fn_rnd_Num_exact N (mi, E, W s, mo) = some (mi, E', W s', mo') ∧ s' < 2 ^ 256 ∧ -131073 ≤ E' ∧ E' ≤ 131072 := by
  unfold fn_rnd_Num_exact
  simp only
  cases mo
  · exact ⟨E, s, false, rfl, hs, by omega, h1⟩
  · rw [len_eq N hN s hs, Option.bind_some]
    cases hl : ltI 254 (lenN s : Int)
    · rw [show (!true) = false from rfl, cond_false, cond_false, shl_eq N hN, Option.bind_some, show (1 : Int) = ((1 : Nat) : Int) from rfl, of_small N 1 (by decide), Option.bind_some, add_eq N hN _ _ (shl_lt _ hs _) (by decide), Option.bind_some,
        subI_i (by omega) (by omega)]
      exact ⟨_, _, _, rfl, p256 _, by omega, by omega⟩
    · rw [show (!true) = false from rfl, cond_false, cond_true]
      exact ⟨_, _, _, rfl, hs, by omega, h1⟩
/-- whole times of a power of two -/
def qv (s : Nat) (d : Int) : Nat := if d ≤ 0 then shlZ s (-d) else shrZ s d
theorem qv_lt (s : Nat) (d : Int) (hs : s < 2 ^ 256) : qv s d < 2 ^ 256 := by
  unfold qv; split
  · exact shl_lt _ hs _
  · exact shr_lt _ hs _
theorem cut_eq (N : Nat) (hN : 300 ≤ N) (mi mo : Bool) (E n : Int) (s : Nat) (hs : s < 2 ^ 256) (h0 : -200000 ≤ E) (h1 : E ≤ 200000) (h2 : -200000 ≤ n) (h3 : n ≤ 200000) :
    ∃ h r, fn_rnd_Num_cut N (mi, E, W s, mo) n = some (W (qv s (n - E)), h, r) := by
  unfold fn_rnd_Num_cut
  simp only
  have hd0 : -400000 ≤ n - E := by omega
  have hd1 : n - E ≤ 400000 := by omega
  rw [subI_i (by omega) (by omega)]
  generalize n - E = d at hd0 hd1 ⊢
  rw [subI_i (by omega) (by omega), subI_i (by omega) (by omega)]
  by_cases hd : d ≤ 0
  · rw [leI_t hd, cond_true, shl_eq N hN, Option.bind_some, show (0 : Int) - d = -d by omega, show qv s d = shlZ s (-d) from if_pos hd]
    cases eqI d 0
    · exact ⟨_, _, rfl⟩
    · exact ⟨_, _, rfl⟩
  · have hq : qv s d = shrZ s d := if_neg hd
    have hsh := shr_lt s hs d
    have hl1 := shl_lt (shrZ s d) hsh d
    have hl2 : shlZ 1 (d - 1) < 2 ^ 256 := shl_lt 1 (by decide) _
    rw [leI_f hd, cond_false, shr_eq N hN s hs, Option.bind_some, wbit_eq, Option.bind_some, hq]
    simp only
    cases ltI 1 d
    · exact ⟨_, _, rfl⟩
    rw [cond_true, shl_eq N hN, Option.bind_some, sub_eq N hN _ _ hs hl1, Option.bind_some, of_one N]
    cases ltI 256 d <;> cases eqI (bitZ s (d - 1)) 1
    · cases mo <;> exact ⟨_, _, rfl⟩
    · rw [cond_false, cond_true, Option.bind_some, shl_eq N hN, Option.bind_some, sub_eq N hN _ _ (p256 _) hl2, Option.bind_some]
      cases mo <;> exact ⟨_, _, rfl⟩
    · cases mo <;> exact ⟨_, _, rfl⟩
    · rw [cond_true, cond_true, Option.bind_some, shl_eq N hN, Option.bind_some, sub_eq N hN _ _ hs hl2, Option.bind_some]
      cases mo <;> exact ⟨_, _, rfl⟩
/-- is a size rounded to the greater one? -/
def upB (m : Int) (mi odd h r : Bool) : Bool := cond (eqI m 2) false (cond (eqI m 3) (!mi && (h || r)) (cond (eqI m 4) (mi && (h || r)) (cond (eqI m 1) h (h && (r || odd)))))
theorem up_eq (N : Nat) (m : Int) (mi odd h r : Bool) : fn_rnd_up N m mi odd h r = some (upB m mi odd h r) := by
  unfold fn_rnd_up upB
  cases eqI m 2 <;> cases eqI m 3 <;> cases eqI m 4 <;> cases eqI m 1 <;> cases mi <;> cases odd <;> cases h <;> cases r <;> rfl
theorem up_none (m : Int) (mi odd : Bool) : upB m mi odd false false = false := by
  unfold upB
  cases eqI m 2 <;> cases eqI m 3 <;> cases eqI m 4 <;> cases eqI m 1 <;> cases mi <;> cases odd <;> rfl
theorem to_eq (N : Nat) (hN : 300 ≤ N) (x : NumV) (n : Int) (q : Nat) (h r : Bool) (hq : q < 2 ^ 256) (hc : fn_rnd_Num_cut N x n = some (W q, h, r)) :
    ∃ odd, ∀ m, fn_rnd_Num_to N x n m = some (W ((q + (upB m x.1 odd h r).toNat) % 2 ^ 256), h || r) := by
  refine ⟨eqI (andI .u64 (Vec.rd (W q) 0) 1) 1, fun m => ?_⟩
  unfold fn_rnd_Num_to
  obtain ⟨mi, E, s, mo⟩ := x
  simp only
  rw [hc, Option.bind_some, up_eq, Option.bind_some]
  simp only
  cases upB m mi (eqI (andI .u64 (Vec.rd (W q) 0) 1) 1) h r
  · rw [cond_false, show (q + false.toNat) % 2 ^ 256 = q from Nat.mod_eq_of_lt hq]
    cases h <;> rfl
  · rw [cond_true, of_one N, Option.bind_some, add_eq N hN _ _ hq (by decide), Option.bind_some]
    cases h <;> rfl
theorem tiny_eq (N : Nat) (hN : 300 ≤ N) (mi mo : Bool) (E T m : Int) (s : Nat) (hs : s < 2 ^ 256) (h0 : -200000 ≤ E) (h1 : E ≤ 200000) (h2 : -190000 ≤ T) (h3 : T ≤ 190000) :
    ∃ b, fn_rnd_Num_tiny N (mi, E, W s, mo) T m = some b := by
  unfold fn_rnd_Num_tiny
  simp only
  rw [subI_i (by omega) (by omega)]
  obtain ⟨h, r, hc⟩ := cut_eq N hN mi mo E (T - 53) s hs h0 h1 (by omega) (by omega)
  obtain ⟨odd, ht⟩ := to_eq N hN (mi, E, W s, mo) (T - 53) _ h r (qv_lt s _ hs) hc
  cases leI (-1074) (T - 53)
  · rw [cond_false]
    cases ltI T (-1022)
    · rw [cond_false, ht, Option.bind_some, len_eq N hN _ (p256 _), Option.bind_some]
      exact ⟨_, rfl⟩
    · exact ⟨_, rfl⟩
  · exact ⟨_, rfl⟩
def sg (mi : Bool) : Int := cond mi 9223372036854775808 0
def lowB (mi : Bool) (m : Int) : Bool := eqI m 2 || (eqI m 3 && mi) || (eqI m 4 && !mi)
theorem over_eq (N : Nat) (mi : Bool) (m : Int) : fn_rnd_over N mi m = some (sg mi + cond (lowB mi m) 9218868437227405311 9218868437227405312) := by
  have h1 : fn_pat_Neg N 9218868437227405312 = some 18442240474082181120 := by rw [negP_eq N _ (by decide) (by decide)]; rfl
  have h2 : subI .u64 9218868437227405312 1 = 9218868437227405311 := by rw [subI_u (by decide) (by decide)]; rfl
  have h3 : fn_pat_Neg N 9218868437227405311 = some 18442240474082181119 := by rw [negP_eq N _ (by decide) (by decide)]; rfl
  unfold fn_rnd_over lowB sg
  rw [h2, h1, h3]
  cases eqI m 2 <;> cases eqI m 3 <;> cases eqI m 4 <;> cases mi <;> rfl
end Go.Proofs.YtopcajgknbmbcaaGreatDoor.Top
