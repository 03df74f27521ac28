/- PLAIN FACTS on chapter 4, by values, part 1: powers of two by a scale, what is cut off, the value of a pattern. No statement is proved here. -/
import Derived.Test.YtopcajgknbmbcaaGreatDoorTop6
namespace Go.Proofs.YtopcajgknbmbcaaGreatDoor.Top
open Go Go.RowKit Go.Proofs.YtopcajgknbmbcaaGreatDoor.Eng Go.Proofs.YtopcajgknbmbcaaGreatDoor.Fns Go.Proofs.YtopcajgknbmbcaaGreatDoor.Bw Go.Proofs.YtopcajgknbmbcaaGreatDoor.Wid Go.Proofs.YtopcajgknbmbcaaGreatDoor.Patp
set_option linter.unusedVariables false
set_option linter.unusedSimpArgs false
/-- a power of two, by a scale -/
def P (K : Nat) (E : Int) : Nat := 2 ^ (E + K).toNat
theorem P_pos (K : Nat) (E : Int) : 0 < P K E := Nat.pow_pos (by decide)
theorem P_add (K : Nat) {E : Int} (d : Nat) (h : -(K : Int) ≤ E) : P K (E + d) = P K E * 2 ^ d := by
  unfold P; rw [← Nat.pow_add]; congr 1; omega
theorem P_two (K : Nat) {E F : Int} (h1 : -(K : Int) ≤ E) (h2 : -(K : Int) ≤ F) (h : -(K : Int) ≤ E + F) : P K E * P K F = P K (E + F) * P K 0 := by
  unfold P; rw [← Nat.pow_add, ← Nat.pow_add]; congr 1; omega
theorem div_sand (s d : Nat) (hd : 0 < d) : s / d * d ≤ s ∧ s < (s / d + 1) * d := by
  have h1 := Nat.div_add_mod s d
  have h2 := Nat.mod_lt s hd
  rw [Nat.mul_comm] at h1
  rw [Nat.add_mul, Nat.one_mul]
  omega
theorem qv_pos (s k : Nat) (hk : 0 < k) : qv s (k : Int) = s / 2 ^ k := by
  unfold qv shrZ
  rw [if_neg (by omega), if_neg (by omega)]; rfl
theorem qv_sand (K s : Nat) {E d : Int} (hE : -(K : Int) ≤ E) (hd : 0 < d) : qv s d * P K (E + d) ≤ s * P K E ∧ s * P K E < (qv s d + 1) * P K (E + d) := by
  obtain ⟨k, rfl⟩ := Int.eq_ofNat_of_zero_le (Int.le_of_lt hd)
  rw [qv_pos s k (by omega), P_add K k hE, Nat.mul_comm (P K E), ← Nat.mul_assoc, ← Nat.mul_assoc]
  obtain ⟨h1, h2⟩ := div_sand s (2 ^ k) (Nat.pow_pos (by decide))
  exact ⟨Nat.mul_le_mul_right _ h1, Nat.mul_lt_mul_of_pos_right h2 (P_pos _ _)⟩
theorem qv_same (K s : Nat) {E d : Int} (hE : -(K : Int) ≤ E + d) (hd : d ≤ 0) (hs : 0 < s) (hb : s * 2 ^ (-d).toNat < 2 ^ 256) : qv s d * P K (E + d) = s * P K E := by
  obtain ⟨k, hk⟩ := Int.eq_ofNat_of_zero_le (show 0 ≤ -d by omega)
  have e1 : E = (E + d) + (k : Int) := by omega
  have h2 : P K E = P K (E + d) * 2 ^ k := by rw [← P_add K k hE, ← e1]
  have h3 : qv s d = s * 2 ^ k := by
    unfold qv shlZ
    rw [if_pos hd, hk]
    by_cases h : (k : Int) < 1
    · rw [if_pos h, show k = 0 by omega, Nat.pow_zero, Nat.mul_one]
    · rw [if_neg h]
      rw [hk, Int.toNat_natCast] at hb
      have h4 : ¬ (256 : Int) ≤ (k : Int) := by
        intro hh
        have h5 : 2 ^ 256 ≤ 2 ^ k := pow_le' (by omega)
        have h6 : 2 ^ k ≤ s * 2 ^ k := Nat.le_mul_of_pos_left _ hs
        exact Nat.lt_irrefl _ (Nat.lt_of_lt_of_le hb (Nat.le_trans h5 h6))
      rw [if_neg h4, Int.toNat_natCast, Nat.mod_eq_of_lt hb]
  rw [h3, h2, Nat.mul_assoc, Nat.mul_comm (2 ^ k)]
/-- is half left? more? -/
def hb (s : Nat) (d : Int) : Bool := decide (0 < d ∧ s / 2 ^ (d - 1).toNat % 2 = 1)
def rb (s : Nat) (d : Int) : Bool := decide (0 < d ∧ s % 2 ^ (d - 1).toNat ≠ 0)
theorem bitZ_hb (s : Nat) (hs : s < 2 ^ 256) (d : Int) (hd : 0 < d) : eqI (bitZ s (d - 1)) 1 = hb s d := by
  unfold bitZ hb
  by_cases h : 255 < d - 1
  · rw [if_pos (.inr h), decide_eq_false]
    · rfl
    · rintro ⟨_, h2⟩
      have : s < 2 ^ (d - 1).toNat := Nat.lt_of_lt_of_le hs (pow_le' (by omega))
      rw [Nat.div_eq_of_lt this] at h2
      cases h2
  · rw [if_neg (by omega), eqI_eq]
    unfold bitN
    congr 1
    apply propext
    constructor
    · intro h1; exact ⟨hd, by omega⟩
    · intro h1; have := h1.2; omega
theorem mod_half (s k : Nat) : s % 2 ^ (k + 1) = s % 2 ^ k + 2 ^ k * (s / 2 ^ k % 2) := by rw [Nat.pow_succ, Nat.mod_mul]
theorem low_eq (s : Nat) (hs : s < 2 ^ 256) (d : Int) (hd : 0 < d) (h256 : d ≤ 256) : (2 ^ 256 + s - shlZ (shrZ s d) d) % 2 ^ 256 = s % 2 ^ d.toNat := by
  obtain ⟨k, rfl⟩ := Int.eq_ofNat_of_zero_le (Int.le_of_lt hd)
  have h1 : shrZ s (k : Int) = s / 2 ^ k := by unfold shrZ; rw [if_neg (by omega)]; rfl
  have h2 : s / 2 ^ k * 2 ^ k ≤ s := Nat.div_mul_le_self ..
  have h3 := Nat.div_add_mod s (2 ^ k)
  rw [Nat.mul_comm] at h3
  have h4 : shlZ (s / 2 ^ k) (k : Int) = s / 2 ^ k * 2 ^ k := by
    unfold shlZ
    rw [if_neg (by omega)]
    by_cases h : (256 : Int) ≤ (k : Int)
    · have : k = 256 := by omega
      subst this
      rw [if_pos h, Nat.div_eq_of_lt hs, Nat.zero_mul]
    · rw [if_neg h, Int.toNat_natCast, Nat.mod_eq_of_lt (Nat.lt_of_le_of_lt h2 hs)]
  rw [h1, h4, Int.toNat_natCast]
  have h5 : 2 ^ 256 + s - s / 2 ^ k * 2 ^ k = s % 2 ^ k + 2 ^ 256 := by omega
  rw [h5, Nat.add_mod_right, Nat.mod_eq_of_lt (Nat.lt_of_le_of_lt (Nat.mod_le _ _) hs)]
theorem notW (x : Nat) (hx : x < 2 ^ 256) : (!(eqL (W x).1 (Vec.zero 4).1)) = decide (x ≠ 0) := by
  rw [W_zero, W_eq hx (by decide)]
  by_cases h : x = 0
  · rw [decide_eq_true h, decide_eq_false (by simpa using h)]; rfl
  · rw [decide_eq_false h, decide_eq_true h]; rfl
theorem cut_val (N : Nat) (hN : 300 ≤ N) (mi : Bool) (E n : Int) (s : Nat) (hs : s < 2 ^ 256) (h0 : -200000 ≤ E) (h1 : E ≤ 200000) (h2 : -200000 ≤ n) (h3 : n ≤ 200000) :
    fn_rnd_Num_cut N (mi, E, W s, false) n = some (W (qv s (n - E)), hb s (n - E), rb s (n - E)) := by
  unfold fn_rnd_Num_cut
  simp only
  have hd0 : -400000 ≤ n - E := by omega
  have hd1 : n - E ≤ 400000 := by omega
  rw [subI_i (by omega) (by omega)]
  generalize n - E = d at hd0 hd1 ⊢
  rw [subI_i (by omega) (by omega), subI_i (by omega) (by omega)]
  by_cases hd : d ≤ 0
  · have e1 : hb s d = false := decide_eq_false (fun h => by have := h.1; omega)
    have e2 : rb s d = false := decide_eq_false (fun h => by have := h.1; omega)
    rw [leI_t hd, cond_true, shl_eq N hN, Option.bind_some, show (0 : Int) - d = -d by omega, show qv s d = shlZ s (-d) from if_pos hd, e1, e2]
    cases eqI d 0 <;> rfl
  · have hq : qv s d = shrZ s d := if_neg hd
    have hsh := shr_lt s hs d
    have hl1 := shl_lt (shrZ s d) hsh d
    have hl2 : shlZ 1 (d - 1) < 2 ^ 256 := shl_lt 1 (by decide) _
    have hbit := bitZ_hb s hs d (by omega)
    rw [leI_f hd, cond_false, shr_eq N hN s hs, Option.bind_some, wbit_eq, Option.bind_some, hq, hbit]
    simp only
    obtain ⟨k, hk⟩ := Int.eq_ofNat_of_zero_le (show 0 ≤ d - 1 by omega)
    have hkk : d.toNat = k + 1 := by omega
    by_cases h1' : 1 < d
    · have hlow : ∀ x, x < 2 ^ 256 → x = s % 2 ^ d.toNat → ((hb s d = true → shlZ 1 (d - 1) = 2 ^ k ∧ (2 ^ 256 + x - 2 ^ k) % 2 ^ 256 = s % 2 ^ k) ∧ (hb s d = false → x = s % 2 ^ k)) := by
        intro x hx hxe
        have hm := mod_half s k
        have hbv : hb s d = decide (s / 2 ^ k % 2 = 1) := by
          unfold hb; rw [hk, Int.toNat_natCast]; congr 1; apply propext; exact ⟨fun h => h.2, fun h => ⟨by omega, h⟩⟩
        rw [hxe, hkk, hm, hbv]
        constructor
        · intro h
          have h := of_decide_eq_true h
          have hk256 : k < 256 := by
            rcases Nat.lt_or_ge k 256 with h' | h'
            · exact h'
            · have : s < 2 ^ k := Nat.lt_of_lt_of_le hs (pow_le' h')
              rw [Nat.div_eq_of_lt this] at h; cases h
          have hp : (2 : Nat) ^ k < 2 ^ 256 := Nat.pow_lt_pow_right (by decide) hk256
          refine ⟨?_, ?_⟩
          · unfold shlZ
            rw [hk, if_neg (by omega), if_neg (by omega), Int.toNat_natCast, Nat.one_mul, Nat.mod_eq_of_lt hp]
          · rw [h, Nat.mul_one, show 2 ^ 256 + (s % 2 ^ k + 2 ^ k) - 2 ^ k = s % 2 ^ k + 2 ^ 256 by omega, Nat.add_mod_right, Nat.mod_eq_of_lt (Nat.lt_of_le_of_lt (Nat.mod_le _ _) hs)]
        · intro h
          have h := of_decide_eq_false h
          have : s / 2 ^ k % 2 = 0 := by omega
          rw [this, Nat.mul_zero, Nat.add_zero]
      have hrb : rb s d = decide (s % 2 ^ k ≠ 0) := by
        unfold rb; rw [hk, Int.toNat_natCast]; congr 1; apply propext; exact ⟨fun h => h.2, fun h => ⟨by omega, h⟩⟩
      have hmk : s % 2 ^ k < 2 ^ 256 := Nat.lt_of_le_of_lt (Nat.mod_le _ _) hs
      rw [ltI_t h1', cond_true, shl_eq N hN, Option.bind_some, sub_eq N hN _ _ hs hl1, Option.bind_some, of_one N, hrb]
      by_cases h256 : 256 < d
      · have hself : s = s % 2 ^ d.toNat := (Nat.mod_eq_of_lt (Nat.lt_of_lt_of_le hs (pow_le' (by omega)))).symm
        obtain ⟨l1, l2⟩ := hlow s hs hself
        rw [ltI_t h256, cond_true]
        cases hh : hb s d
        · have := l2 hh
          rw [cond_false, cond_false, notW s hs, ← this]
        · obtain ⟨g1, g2⟩ := l1 hh
          rw [cond_true, Option.bind_some, shl_eq N hN, Option.bind_some, sub_eq N hN _ _ hs hl2, Option.bind_some, cond_false, g1, g2, notW _ hmk]
      · have hm := low_eq s hs d (by omega) (by omega)
        obtain ⟨l1, l2⟩ := hlow _ (p256 _) hm
        rw [ltI_f h256, cond_false]
        cases hh : hb s d
        · have := l2 hh
          rw [cond_false, cond_false]
          simp only
          rw [notW _ (p256 _), this]
        · obtain ⟨g1, g2⟩ := l1 hh
          rw [cond_true, Option.bind_some, shl_eq N hN, Option.bind_some]
          simp only
          rw [sub_eq N hN _ _ (p256 _) hl2, Option.bind_some, cond_false, g1, g2, notW _ hmk]
    · have h1 : d = 1 := by omega
      subst h1
      rw [ltI_f h1', cond_false]
      have : rb s 1 = false := by
        unfold rb
        exact decide_eq_false (fun h => h.2 (Nat.mod_one s))
      rw [this]
end Go.Proofs.YtopcajgknbmbcaaGreatDoor.Top
