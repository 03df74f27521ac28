/- PLAIN FACTS: a quotient, rounded to a whole number, is the nearest one or beside it; small things. No statement is proved here. -/
import Derived.Test.YtopcajgknbmbcaaGreatDoorVal8
namespace Go.Proofs.YtopcajgknbmbcaaGreatDoor.Top
open Go Go.RowKit Go.Proofs.YtopcajgknbmbcaaGreatDoor.Eng Go.Proofs.YtopcajgknbmbcaaGreatDoor.Fns Go.Proofs.YtopcajgknbmbcaaGreatDoor.Bw Go.Proofs.YtopcajgknbmbcaaGreatDoor.Wid Go.Proofs.YtopcajgknbmbcaaGreatDoor.Patp
set_option linter.unusedVariables false
set_option linter.unusedSimpArgs false
theorem ex2 (h Y : Nat) : (2 * h + 1) * Y = 2 * (h * Y) + Y := by rw [Nat.add_mul, Nat.one_mul, Nat.mul_assoc]
theorem ex0 (h Y : Nat) : 2 * h * Y = 2 * (h * Y) := Nat.mul_assoc ..
theorem ex1 (h Y : Nat) : (h + 1) * Y = h * Y + Y := by rw [Nat.add_mul, Nat.one_mul]
/-- the quotient, rounded to z, then to M; the nearest one is Q -/
theorem beside {X Y p z M Q : Nat} (hp : 0 < p) (hY : 0 < Y) (g1 : ∀ h, h * Y ≤ 2 * X → h * p ≤ z) (g2 : ∀ h, 2 * X ≤ h * Y → z ≤ h * p) (hM : NE z (2 * p) M) (hQ : NE X Y Q) :
    M = Q ∨ (M = Q + 1 ∧ Q * Y < X ∧ X < M * Y ∧ 2 ≤ M) ∨ (Q = M + 1 ∧ X < Q * Y ∧ M * Y < X) := by
  obtain ⟨m1, m2, m3, m4⟩ := hM
  obtain ⟨q1, q2, q3, q4⟩ := hQ
  have a1 : 2 * M * (2 * p) = 4 * (M * p) := by rw [Nat.mul_mul_mul_comm]
  have a2 : (2 * M + 1) * (2 * p) = 4 * (M * p) + 2 * p := by rw [Nat.add_mul, Nat.one_mul, a1]
  rw [a1] at m1 m4
  rw [a2] at m2 m3
  have hu := g2 (2 * Q + 1) q2
  rw [ex2] at q2 q3 hu
  rw [ex0] at q1 q4
  have b1 : M * p ≤ (Q + 1) * p := by rw [ex1]; omega
  have b2 := Nat.le_of_mul_le_mul_right b1 hp
  rcases Nat.lt_or_ge M Q with h | h
  · have hl := g1 (2 * (Q - 1) + 1) (by
      have := ex1 (Q - 1) Y
      rw [show Q - 1 + 1 = Q by omega] at this
      rw [ex2]; omega)
    rw [ex2] at hl
    have b3 : (Q - 1) * p ≤ M * p := by omega
    have b4 := Nat.le_of_mul_le_mul_right b3 hp
    have hQM : Q = M + 1 := by omega
    right; right
    subst hQM
    rw [Nat.add_sub_cancel] at hl
    have e := ex1 M Y
    rw [e] at q1 q2 q3 q4 ⊢
    have hme := m3 (by omega)
    refine ⟨rfl, ?_, ?_⟩
    · rcases Nat.lt_or_ge X (M * Y + Y) with h' | h'
      · exact h'
      · have := g1 (2 * (M + 1)) (by rw [ex0, e]; omega)
        rw [ex0, ex1 M p] at this
        omega
    · rcases Nat.lt_or_ge (M * Y) X with h' | h'
      · exact h'
      · have : 2 * (M * Y + Y) = 2 * X + Y := by omega
        have := q4 this
        omega
  · rcases Nat.eq_or_lt_of_le h with h' | h'
    · left; exact h'.symm
    · have hMQ : M = Q + 1 := by omega
      right; left
      subst hMQ
      have e := ex1 Q p
      rw [e] at m1 m2 m3 m4
      have hme := m4 (by omega)
      have e3 := ex1 Q Y
      rw [e3]
      refine ⟨rfl, ?_, ?_, by omega⟩
      · rcases Nat.lt_or_ge (Q * Y) X with h' | h'
        · exact h'
        · have := g2 (2 * Q) (by rw [ex0]; omega)
          rw [ex0] at this
          omega
      · rcases Nat.lt_or_ge X (Q * Y + Y) with h' | h'
        · exact h'
        · have := q3 (by omega)
          omega
theorem or_sign {c : Int} (h0 : 0 ≤ c) (h1 : c < 9223372036854775808) : orI .u64 c 9223372036854775808 = 9223372036854775808 + c := by
  obtain ⟨n, rfl⟩ := Int.eq_ofNat_of_zero_le h0
  rw [show (9223372036854775808 : Int) = ((2 ^ 63 : Nat) : Int) from rfl, orI_n (by omega) (by decide), Nat.or_comm]
  have := Nat.two_pow_add_eq_or_of_lt (i := 63) (b := n) (by omega) 1
  rw [Nat.mul_one] at this
  rw [← this]; omega
theorem minus_F {c : Int} (hc : okF c) (hm : mn c = false) : okF (orI .u64 c 9223372036854775808) ∧ ∀ K, SV K (orI .u64 c 9223372036854775808) = -(SV K c) := by
  have h := pat_split hc.1
  unfold mn at hm
  rw [hm, show sg false = 0 from rfl, Int.zero_add] at h
  have hl := hc.2
  have e : orI .u64 c 9223372036854775808 = sg true + (sz c : Int) := by rw [or_sign (by omega) (by omega)]; show _ = (9223372036854775808 : Int) + _; omega
  rw [e]
  refine ⟨okF_sg _ hl, fun K => ?_⟩
  rw [SV_sg K _ (by omega)]
  unfold SV
  rw [hm]; rfl
theorem flip_F {b : Int} (hb : okF b) : okF (xorI .u64 b 9223372036854775808) ∧ ∀ K, SV K (xorI .u64 b 9223372036854775808) = -(SV K b) := by
  obtain ⟨c, h1, h2, h3, h4, _⟩ := neg_F hb 0
  have e : fn_pat_Neg 0 b = some (xorI .u64 b 9223372036854775808) := rfl
  rw [e] at h1
  injection h1 with h1
  rw [h1]
  exact ⟨h2, h4⟩
theorem one_F : okF 4607182418800017408 ∧ ∀ K, 3000 ≤ K → SV K 4607182418800017408 = (P K 0 : Int) := by
  have hs : sz 4607182418800017408 = 4607182418800017408 := by decide
  refine ⟨⟨⟨by decide, by decide⟩, by rw [hs]; decide⟩, fun K hK => ?_⟩
  unfold SV
  rw [hs, show (decide ((9223372036854775808 : Int) ≤ 4607182418800017408)) = false from rfl]
  show ((VN K 4607182418800017408 : Nat) : Int) = _
  congr 1
  have := VN_pack K (by omega) 4503599627370496 1022 (by decide) (fun _ => Nat.le_refl _)
  rw [show 4503599627370496 + 1022 * 4503599627370496 = 4607182418800017408 from rfl] at this
  rw [this, Nat.mul_comm]
  have h2 := P_add K (E := ((1022 : Nat) : Int) - 1074) 52 (by omega)
  rw [show (4503599627370496 : Nat) = 2 ^ 52 from rfl, ← h2]
  rfl
theorem one_sz (K : Nat) (hK : 3000 ≤ K) : VN K (sz 4607182418800017408) = P K 0 := by
  have := SV_abs K 4607182418800017408
  rw [one_F.2 K hK] at this
  rw [← this]; rfl
theorem Sp.ex {g : Int → Option (Int × Int)} (h : Sp g) (m : Int) : ∃ r, g m = some r := by
  rcases h with ⟨p, f, h, _⟩ | ⟨mi, b, ix, u, _, _, h, _⟩ | h
  · exact ⟨_, h m⟩
  · obtain ⟨f, h, _⟩ := h m; exact ⟨_, h⟩
  · exact ⟨_, h m⟩
theorem mn_ne {p q : Int} (h1 : mn p = true) (h2 : mn q = false) : ¬ p = q := fun h => by rw [h, h2] at h1; cases h1
theorem pos_SV {K : Nat} {p : Int} (h : mn p = false) : SV K p = (VN K (sz p) : Int) := by
  unfold SV
  have : decide ((9223372036854775808 : Int) ≤ p) = false := h
  rw [this]; rfl
end Go.Proofs.YtopcajgknbmbcaaGreatDoor.Top
