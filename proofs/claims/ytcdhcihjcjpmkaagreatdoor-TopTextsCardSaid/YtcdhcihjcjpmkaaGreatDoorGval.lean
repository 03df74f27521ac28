/- Plain facts on the functions that were printed. Texts in one: Val1, Val2, Val3, Val4, Val5, Val11, Val12, Val13, Val14. No statement is proved here. -/
import Derived.Test.YtcdhcihjcjpmkaaGreatDoorGtop
namespace Go.Proofs.YtcdhcihjcjpmkaaGreatDoor.Top
open Go Go.RowKit Go.Proofs.YtcdhcihjcjpmkaaGreatDoor.Eng Go.Proofs.YtcdhcihjcjpmkaaGreatDoor.Fns Go.Proofs.YtcdhcihjcjpmkaaGreatDoor.Bw Go.Proofs.YtcdhcihjcjpmkaaGreatDoor.Wid Go.Proofs.YtcdhcihjcjpmkaaGreatDoor.Patp
set_option linter.unusedVariables false
set_option linter.unusedSimpArgs false
/-- a power of two, by a scale -/
def P (K : Nat) (E : Int) : Nat := 2 ^ (E + K).toNat
theorem P_pos (K : Nat) (E : Int) : 0 < P K E := Nat.pow_pos (by decide)
theorem P_add (K : Nat) {E : Int} (d : Nat) (h : -(K : Int) ≤ E) : P K (E + d) = P K E * 2 ^ d := by
  unfold P; rw [← Nat.pow_add]; congr 1; omega
theorem P_two (K : Nat) {E F : Int} (h1 : -(K : Int) ≤ E) (h2 : -(K : Int) ≤ F) (h : -(K : Int) ≤ E + F) : P K E * P K F = P K (E + F) * P K 0 := by
  unfold P; rw [← Nat.pow_add, ← Nat.pow_add]; congr 1; omega
theorem div_sand (s d : Nat) (hd : 0 < d) : s / d * d ≤ s ∧ s < (s / d + 1) * d := by
  have h1 := Nat.div_add_mod s d
  have h2 := Nat.mod_lt s hd
  rw [Nat.mul_comm] at h1
  rw [Nat.add_mul, Nat.one_mul]
  omega
theorem qv_pos (s k : Nat) (hk : 0 < k) : qv s (k : Int) = s / 2 ^ k := by
  unfold qv shrZ
  rw [if_neg (by omega), if_neg (by omega)]; rfl
theorem qv_sand (K s : Nat) {E d : Int} (hE : -(K : Int) ≤ E) (hd : 0 < d) : qv s d * P K (E + d) ≤ s * P K E ∧ s * P K E < (qv s d + 1) * P K (E + d) := by
  obtain ⟨k, rfl⟩ := Int.eq_ofNat_of_zero_le (Int.le_of_lt hd)
  rw [qv_pos s k (by omega), P_add K k hE, Nat.mul_comm (P K E), ← Nat.mul_assoc, ← Nat.mul_assoc]
  obtain ⟨h1, h2⟩ := div_sand s (2 ^ k) (Nat.pow_pos (by decide))
  exact ⟨Nat.mul_le_mul_right _ h1, Nat.mul_lt_mul_of_pos_right h2 (P_pos _ _)⟩
theorem qv_same (K s : Nat) {E d : Int} (hE : -(K : Int) ≤ E + d) (hd : d ≤ 0) (hs : 0 < s) (hb : s * 2 ^ (-d).toNat < 2 ^ 256) : qv s d * P K (E + d) = s * P K E := by
  obtain ⟨k, hk⟩ := Int.eq_ofNat_of_zero_le (show 0 ≤ -d by omega)
  have e1 : E = (E + d) + (k : Int) := by omega
  have h2 : P K E = P K (E + d) * 2 ^ k := by rw [← P_add K k hE, ← e1]
  have h3 : qv s d = s * 2 ^ k := by
    unfold qv shlZ
    rw [if_pos hd, hk]
    by_cases h : (k : Int) < 1
    · rw [if_pos h, show k = 0 by omega, Nat.pow_zero, Nat.mul_one]
    · rw [if_neg h]
      rw [hk, Int.toNat_natCast] at hb
      have h4 : ¬ (256 : Int) ≤ (k : Int) := by
        intro hh
        have h5 : 2 ^ 256 ≤ 2 ^ k := pow_le' (by omega)
        have h6 : 2 ^ k ≤ s * 2 ^ k := Nat.le_mul_of_pos_left _ hs
        exact Nat.lt_irrefl _ (Nat.lt_of_lt_of_le hb (Nat.le_trans h5 h6))
      rw [if_neg h4, Int.toNat_natCast, Nat.mod_eq_of_lt hb]
  rw [h3, h2, Nat.mul_assoc, Nat.mul_comm (2 ^ k)]
/-- is half left? more? -/
def hb (s : Nat) (d : Int) : Bool := decide (0 < d ∧ s / 2 ^ (d - 1).toNat % 2 = 1)
def rb (s : Nat) (d : Int) : Bool := decide (0 < d ∧ s % 2 ^ (d - 1).toNat ≠ 0)
theorem bitZ_hb (s : Nat) (hs : s < 2 ^ 256) (d : Int) (hd : 0 < d) : eqI (bitZ s (d - 1)) 1 = hb s d := by
  unfold bitZ hb
  by_cases h : 255 < d - 1
  · rw [if_pos (.inr h), decide_eq_false]
    · rfl
    · rintro ⟨_, h2⟩
      have : s < 2 ^ (d - 1).toNat := Nat.lt_of_lt_of_le hs (pow_le' (by omega))
      rw [Nat.div_eq_of_lt this] at h2
      cases h2
  · rw [if_neg (by omega), eqI_eq]
    unfold bitN
    congr 1
    apply propext
    constructor
    · intro h1; exact ⟨hd, by omega⟩
    · intro h1; have := h1.2; omega
theorem mod_half (s k : Nat) : s % 2 ^ (k + 1) = s % 2 ^ k + 2 ^ k * (s / 2 ^ k % 2) := by rw [Nat.pow_succ, Nat.mod_mul]
theorem low_eq (s : Nat) (hs : s < 2 ^ 256) (d : Int) (hd : 0 < d) (h256 : d ≤ 256) : (2 ^ 256 + s - shlZ (shrZ s d) d) % 2 ^ 256 = s % 2 ^ d.toNat := by
  obtain ⟨k, rfl⟩ := Int.eq_ofNat_of_zero_le (Int.le_of_lt hd)
  have h1 : shrZ s (k : Int) = s / 2 ^ k := by unfold shrZ; rw [if_neg (by omega)]; rfl
  have h2 : s / 2 ^ k * 2 ^ k ≤ s := Nat.div_mul_le_self ..
  have h3 := Nat.div_add_mod s (2 ^ k)
  rw [Nat.mul_comm] at h3
  have h4 : shlZ (s / 2 ^ k) (k : Int) = s / 2 ^ k * 2 ^ k := by
    unfold shlZ
    rw [if_neg (by omega)]
    by_cases h : (256 : Int) ≤ (k : Int)
    · have : k = 256 := by omega
      subst this
      rw [if_pos h, Nat.div_eq_of_lt hs, Nat.zero_mul]
    · rw [if_neg h, Int.toNat_natCast, Nat.mod_eq_of_lt (Nat.lt_of_le_of_lt h2 hs)]
  rw [h1, h4, Int.toNat_natCast]
  have h5 : 2 ^ 256 + s - s / 2 ^ k * 2 ^ k = s % 2 ^ k + 2 ^ 256 := by omega
  rw [h5, Nat.add_mod_right, Nat.mod_eq_of_lt (Nat.lt_of_le_of_lt (Nat.mod_le _ _) hs)]
theorem notW (x : Nat) (hx : x < 2 ^ 256) : (!(eqL (W x).1 (Vec.zero 4).1)) = decide (x ≠ 0) := by
  rw [W_zero, W_eq hx (by decide)]
  by_cases h : x = 0
  · rw [decide_eq_true h, decide_eq_false (by simpa using h)]; rfl
  · rw [decide_eq_false h, decide_eq_true h]; rfl
theorem cut_val (N : Nat) (hN : 300 ≤ N) (mi : Bool) (E n : Int) (s : Nat) (hs : s < 2 ^ 256) (h0 : -200000 ≤ E) (h1 : E ≤ 200000) (h2 : -200000 ≤ n) (h3 : n ≤ 200000) :
    fn_rnd_Num_cut N (mi, E, W s, false) n = some (W (qv s (n - E)), hb s (n - E), rb s (n - E)) := by
  unfold fn_rnd_Num_cut
  simp only
  have hd0 : -400000 ≤ n - E := by omega
  have hd1 : n - E ≤ 400000 := by omega
  rw [subI_i (by omega) (by omega)]
  generalize n - E = d at hd0 hd1 ⊢
  rw [subI_i (by omega) (by omega), subI_i (by omega) (by omega)]
  by_cases hd : d ≤ 0
  · have e1 : hb s d = false := decide_eq_false (fun h => by have := h.1; omega)
    have e2 : rb s d = false := decide_eq_false (fun h => by have := h.1; omega)
    rw [leI_t hd, cond_true, shl_eq N hN, Option.bind_some, show (0 : Int) - d = -d by omega, show qv s d = shlZ s (-d) from if_pos hd, e1, e2]
    cases eqI d 0 <;> rfl
  · have hq : qv s d = shrZ s d := if_neg hd
    have hsh := shr_lt s hs d
    have hl1 := shl_lt (shrZ s d) hsh d
    have hl2 : shlZ 1 (d - 1) < 2 ^ 256 := shl_lt 1 (by decide) _
    have hbit := bitZ_hb s hs d (by omega)
    rw [leI_f hd, cond_false, shr_eq N hN s hs, Option.bind_some, wbit_eq, Option.bind_some, hq, hbit]
    simp only
    obtain ⟨k, hk⟩ := Int.eq_ofNat_of_zero_le (show 0 ≤ d - 1 by omega)
    have hkk : d.toNat = k + 1 := by omega
    by_cases h1' : 1 < d
    · have hlow : ∀ x, x < 2 ^ 256 → x = s % 2 ^ d.toNat → ((hb s d = true → shlZ 1 (d - 1) = 2 ^ k ∧ (2 ^ 256 + x - 2 ^ k) % 2 ^ 256 = s % 2 ^ k) ∧ (hb s d = false → x = s % 2 ^ k)) := by
        intro x hx hxe
        have hm := mod_half s k
        have hbv : hb s d = decide (s / 2 ^ k % 2 = 1) := by
          unfold hb; rw [hk, Int.toNat_natCast]; congr 1; apply propext; exact ⟨fun h => h.2, fun h => ⟨by omega, h⟩⟩
        rw [hxe, hkk, hm, hbv]
        constructor
        · intro h
          have h := of_decide_eq_true h
          have hk256 : k < 256 := by
            rcases Nat.lt_or_ge k 256 with h' | h'
            · exact h'
            · have : s < 2 ^ k := Nat.lt_of_lt_of_le hs (pow_le' h')
              rw [Nat.div_eq_of_lt this] at h; cases h
          have hp : (2 : Nat) ^ k < 2 ^ 256 := Nat.pow_lt_pow_right (by decide) hk256
          refine ⟨?_, ?_⟩
          · unfold shlZ
            rw [hk, if_neg (by omega), if_neg (by omega), Int.toNat_natCast, Nat.one_mul, Nat.mod_eq_of_lt hp]
          · rw [h, Nat.mul_one, show 2 ^ 256 + (s % 2 ^ k + 2 ^ k) - 2 ^ k = s % 2 ^ k + 2 ^ 256 by omega, Nat.add_mod_right, Nat.mod_eq_of_lt (Nat.lt_of_le_of_lt (Nat.mod_le _ _) hs)]
        · intro h
          have h := of_decide_eq_false h
          have : s / 2 ^ k % 2 = 0 := by omega
          rw [this, Nat.mul_zero, Nat.add_zero]
      have hrb : rb s d = decide (s % 2 ^ k ≠ 0) := by
        unfold rb; rw [hk, Int.toNat_natCast]; congr 1; apply propext; exact ⟨fun h => h.2, fun h => ⟨by omega, h⟩⟩
      have hmk : s % 2 ^ k < 2 ^ 256 := Nat.lt_of_le_of_lt (Nat.mod_le _ _) hs
      rw [ltI_t h1', cond_true, shl_eq N hN, Option.bind_some, sub_eq N hN _ _ hs hl1, Option.bind_some, of_one N, hrb]
      by_cases h256 : 256 < d
      · have hself : s = s % 2 ^ d.toNat := (Nat.mod_eq_of_lt (Nat.lt_of_lt_of_le hs (pow_le' (by omega)))).symm
        obtain ⟨l1, l2⟩ := hlow s hs hself
        rw [ltI_t h256, cond_true]
        cases hh : hb s d
        · have := l2 hh
          rw [cond_false, cond_false, notW s hs, ← this]
        · obtain ⟨g1, g2⟩ := l1 hh
          rw [cond_true, Option.bind_some, shl_eq N hN, Option.bind_some, sub_eq N hN _ _ hs hl2, Option.bind_some, cond_false, g1, g2, notW _ hmk]
      · have hm := low_eq s hs d (by omega) (by omega)
        obtain ⟨l1, l2⟩ := hlow _ (p256 _) hm
        rw [ltI_f h256, cond_false]
        cases hh : hb s d
        · have := l2 hh
          rw [cond_false, cond_false]
          simp only
          rw [notW _ (p256 _), this]
        · obtain ⟨g1, g2⟩ := l1 hh
          rw [cond_true, Option.bind_some, shl_eq N hN, Option.bind_some]
          simp only
          rw [sub_eq N hN _ _ (p256 _) hl2, Option.bind_some, cond_false, g1, g2, notW _ hmk]
    · have h1 : d = 1 := by omega
      subst h1
      rw [ltI_f h1', cond_false]
      have : rb s 1 = false := by
        unfold rb
        exact decide_eq_false (fun h => h.2 (Nat.mod_one s))
      rw [this]
end Go.Proofs.YtcdhcihjcjpmkaaGreatDoor.Top
/- PLAIN FACTS on chapter 4, by values, part 2: the value of a pattern; what rounding answers, by values. No statement is proved here. -/
namespace Go.Proofs.YtcdhcihjcjpmkaaGreatDoor.Top
open Go Go.RowKit Go.Proofs.YtcdhcihjcjpmkaaGreatDoor.Eng Go.Proofs.YtcdhcihjcjpmkaaGreatDoor.Fns Go.Proofs.YtcdhcihjcjpmkaaGreatDoor.Bw Go.Proofs.YtcdhcihjcjpmkaaGreatDoor.Wid Go.Proofs.YtcdhcihjcjpmkaaGreatDoor.Patp
set_option linter.unusedVariables false
set_option linter.unusedSimpArgs false
/-- the value of a size -/
def VN (K : Nat) (p : Nat) : Nat := if p / 4503599627370496 = 0 then p % 4503599627370496 * P K (-1074) else (p % 4503599627370496 + 4503599627370496) * P K ((p / 4503599627370496 : Nat) - 1075)
theorem VN_pack (K : Nat) (hK : 1074 ≤ K) (q j : Nat) (hq : q ≤ 9007199254740992) (h : 0 < j → 4503599627370496 ≤ q) : VN K (q + j * 4503599627370496) = q * P K ((j : Int) - 1074) := by
  unfold VN
  by_cases h1 : q < 4503599627370496
  · have hj : j = 0 := by
      rcases Nat.eq_zero_or_pos j with h' | h'
      · exact h'
      · have := h h'; omega
    subst hj
    rw [if_pos (by omega), show (q + 0 * 4503599627370496) % 4503599627370496 = q by omega]
    rfl
  · by_cases h2 : q < 9007199254740992
    · have e1 : (q + j * 4503599627370496) / 4503599627370496 = j + 1 := by omega
      have e2 : (q + j * 4503599627370496) % 4503599627370496 = q - 4503599627370496 := by omega
      rw [if_neg (by omega), e1, e2, show q - 4503599627370496 + 4503599627370496 = q by omega]
      congr 2; omega
    · have hq : q = 9007199254740992 := by omega
      subst hq
      have e1 : (9007199254740992 + j * 4503599627370496) / 4503599627370496 = j + 2 := by omega
      have e2 : (9007199254740992 + j * 4503599627370496) % 4503599627370496 = 0 := by omega
      rw [if_neg (by omega), e1, e2, show (((j + 2 : Nat) : Int) - 1075) = ((j : Int) - 1074) + ((1 : Nat) : Int) by omega, P_add K 1 (by omega), Nat.pow_one, Nat.zero_add, Nat.mul_comm (P K _) 2, ← Nat.mul_assoc]
/-- a size's parts -/
theorem unpack (p : Nat) : ∃ q j, p = q + j * 4503599627370496 ∧ q < 9007199254740992 ∧ (0 < j → 4503599627370496 ≤ q) ∧ (j + 1 = p / 4503599627370496 ∨ (j = 0 ∧ p < 4503599627370496)) := by
  by_cases h : p / 4503599627370496 = 0
  · exact ⟨p, 0, by omega, by omega, by omega, .inr ⟨rfl, by omega⟩⟩
  · exact ⟨p % 4503599627370496 + 4503599627370496, p / 4503599627370496 - 1, by omega, by omega, by omega, .inl (by omega)⟩
theorem VN_step (K : Nat) (hK : 1074 ≤ K) (p : Nat) : VN K p < VN K (p + 1) := by
  obtain ⟨q, j, e, hq, hj, _⟩ := unpack p
  have h1 := VN_pack K hK q j (by omega) hj
  have h2 := VN_pack K hK (q + 1) j (by omega) (fun h => by have := hj h; omega)
  rw [e, h1, show q + j * 4503599627370496 + 1 = q + 1 + j * 4503599627370496 by omega, h2, Nat.add_mul, Nat.one_mul]
  exact Nat.lt_add_of_pos_right (P_pos _ _)
theorem VN_lt (K : Nat) (hK : 1074 ≤ K) (p : Nat) : ∀ d, VN K p < VN K (p + (d + 1))
  | 0 => VN_step K hK p
  | d + 1 => Nat.lt_trans (VN_lt K hK p d) (VN_step K hK (p + (d + 1)))
theorem VN_mono (K : Nat) (hK : 1074 ≤ K) {p q : Nat} (h : p < q) : VN K p < VN K q := by
  have := VN_lt K hK p (q - p - 1)
  rwa [show p + (q - p - 1 + 1) = q by omega] at this
theorem VN_inj (K : Nat) (hK : 1074 ≤ K) {p q : Nat} (h : VN K p = VN K q) : p = q := by
  rcases Nat.lt_trichotomy p q with h' | h' | h'
  · have := VN_mono K hK h'; omega
  · exact h'
  · have := VN_mono K hK h'; omega
theorem VN_zero (K : Nat) : VN K 0 = 0 := by unfold VN; rw [if_pos (by decide)]; exact Nat.zero_mul _
/-- the size of a pattern -/
def sz (a : Int) : Nat := (a % 9223372036854775808).toNat
theorem sz_sg (mi : Bool) (b : Nat) (h : b < 9223372036854775808) : sz (sg mi + b) = b := by unfold sz sg; cases mi <;> simp only [cond_true, cond_false] <;> omega
theorem sig_val (K : Nat) {a : Int} (ha : U a) (hf : sz a < 9218868437227405312) : ∃ k : Nat, sigR a = (k : Int) ∧ k < 2 ^ 53 ∧ VN K (sz a) = k * P K (expR a) ∧ -1074 ≤ expR a ∧ expR a ≤ 971 ∧ (-1074 < expR a → 2 ^ 52 ≤ k) := by
  obtain ⟨h0, h1⟩ := ha
  unfold sz at hf
  have he : eN a = ((sz a / 4503599627370496 : Nat) : Int) := by unfold eN sz; omega
  have hm : fN a = ((sz a % 4503599627370496 : Nat) : Int) := by unfold fN sz; omega
  have hlt : sz a / 4503599627370496 < 2047 := by unfold sz; omega
  unfold sigR expR VN
  rw [he, hm]
  generalize sz a / 4503599627370496 = e at *
  have hml : sz a % 4503599627370496 < 4503599627370496 := Nat.mod_lt _ (by decide)
  generalize sz a % 4503599627370496 = f at *
  have n1 : ¬ ((e : Int) = 2047) := by omega
  rw [if_neg n1, if_neg n1]
  by_cases hz : e = 0
  · subst hz
    exact ⟨f, rfl, by omega, rfl, by decide, by decide, fun h => by exact absurd h (by decide)⟩
  · have n2 : ¬ ((e : Int) = 0) := by omega
    rw [if_neg n2, if_neg n2, if_neg hz]
    exact ⟨f + 4503599627370496, by omega, by omega, rfl, by omega, by omega, fun _ => by omega⟩
theorem exact_none {s : Nat} {d : Int} (h : 0 < d → s % 2 ^ d.toNat = 0) : hb s d = false ∧ rb s d = false := by
  unfold hb rb
  by_cases hd : 0 < d
  · obtain ⟨k, hk⟩ := Int.eq_ofNat_of_zero_le (show 0 ≤ d - 1 by omega)
    have h2 := h hd
    rw [show d.toNat = k + 1 by omega, mod_half] at h2
    rw [hk, Int.toNat_natCast]
    have h3 : s % 2 ^ k = 0 := by omega
    have h4 : 2 ^ k * (s / 2 ^ k % 2) = 0 := by omega
    have h5 : s / 2 ^ k % 2 = 0 := by
      rcases Nat.mul_eq_zero.1 h4 with h | h
      · have : 0 < 2 ^ k := Nat.pow_pos (by decide)
        omega
      · exact h
    exact ⟨decide_eq_false (fun h => by have := h.2; omega), decide_eq_false (fun h => h.2 h3)⟩
  · exact ⟨decide_eq_false (fun h => hd h.1), decide_eq_false (fun h => hd h.1)⟩
theorem round_val (N : Nat) (hN : 300 ≤ N) (mi : Bool) (E : Int) (s : Nat) (m : Int) (K : Nat) (hs : s < 2 ^ 256) (hpos : 0 < s) (h0 : -100000 ≤ E) (h1 : E ≤ 100000) (hE : -(K : Int) ≤ E) (hK : 1074 ≤ K) (hT : E + (lenN s : Int) ≤ 1000) :
    ∃ (b : Nat) (u : Bool) (F n : Int) (q : Nat), fn_rnd_Round N (mi, E, W s, false) m = some (sg mi + (b : Int) + cond u 1 0, F) ∧ b + 1 < 9218868437227405312 ∧ -1074 ≤ n ∧ E + lenN s - 53 ≤ n ∧ n ≤ 947 ∧ (-1074 < n → n = E + lenN s - 53) ∧
      VN K b = q * P K n ∧ VN K (b + 1) = (q + 1) * P K n ∧ q * P K n ≤ s * P K E ∧ s * P K E < (q + 1) * P K n ∧ (q * P K n = s * P K E → u = false ∧ F = 0) ∧ (m = 2 → u = false) := by
  have hz : s ≠ 0 := by omega
  have hnear : fn_rnd_Num_near N (mi, E, W s, false) = some (mi, E, W s, false) := by
    show some (mi, minI (maxI E (-131072)) 131072, W s, false) = _
    have : minI (maxI E (-131072)) 131072 = E := by unfold minI maxI; split <;> split <;> omega
    rw [this]
  have hex : fn_rnd_Num_exact N (mi, E, W s, false) = some (mi, E, W s, false) := rfl
  obtain ⟨l1, l2⟩ := lenN_spec s
  have l3 : lenN s ≤ 256 := lenN_le hs
  have l4 : 1 ≤ lenN s := by
    rcases l2 with h | h
    · rw [h] at l1; omega
    · rcases Nat.eq_zero_or_pos (lenN s) with h0 | h0
      · rw [h0] at l1; omega
      · exact h0
  have l5 : 2 ^ (lenN s - 1) ≤ s := by
    rcases l2 with h | h
    · omega
    · exact h
  have hlen := len_eq N hN s hs
  generalize lenN s = L at *
  have hmax : ∃ n, maxI (E + (L : Int) - 53) (-1074) = n ∧ ((n = E + L - 53 ∧ -1074 ≤ n) ∨ (n = -1074 ∧ E + L - 53 < n)) := by
    unfold maxI
    by_cases h : (-1074 : Int) > E + (L : Int) - 53
    · rw [if_pos h]; exact ⟨_, rfl, .inr ⟨rfl, by omega⟩⟩
    · rw [if_neg h]; exact ⟨_, rfl, .inl ⟨rfl, by omega⟩⟩
  obtain ⟨n, hn, hn2⟩ := hmax
  have hT' : addI .i64 E (L : Int) = E + L := addI_i (by omega) (by omega)
  have hS : subI .i64 (E + (L : Int)) 53 = E + L - 53 := subI_i (by omega) (by omega)
  have hc := cut_val N hN mi E n s hs (by omega) (by omega) (by omega) (by omega)
  have hq1 := qv_hi s L (n - E) l1 l3 (by omega)
  have hq2 : -1074 < n → 2 ^ 52 ≤ qv s (n - E) := fun hh => qv_lo s L (n - E) l1 l4 l5 l3 (by omega)
  have hq3 := qv_lt s (n - E) hs
  have hex2 : qv s (n - E) * P K n = s * P K E → hb s (n - E) = false ∧ rb s (n - E) = false := by
    intro h
    refine exact_none fun hd => ?_
    obtain ⟨k, hk⟩ := Int.eq_ofNat_of_zero_le (Int.le_of_lt hd)
    rw [hk, qv_pos s k (by omega), show n = E + (k : Int) by omega, P_add K k hE, Nat.mul_comm (P K E), ← Nat.mul_assoc] at h
    have h2 := Nat.eq_of_mul_eq_mul_right (P_pos K E) h
    rw [hk, Int.toNat_natCast]
    have h3 := Nat.div_add_mod s (2 ^ k)
    rw [Nat.mul_comm] at h3
    omega
  have hsand : qv s (n - E) * P K n ≤ s * P K E ∧ s * P K E < (qv s (n - E) + 1) * P K n := by
    by_cases hd : 0 < n - E
    · have := qv_sand K s hE hd
      rwa [show E + (n - E) = n by omega] at this
    · have hb : s * 2 ^ (-(n - E)).toNat < 2 ^ 256 := by
        have h3 : s * 2 ^ (-(n - E)).toNat < 2 ^ L * 2 ^ (-(n - E)).toNat := Nat.mul_lt_mul_of_pos_right l1 (Nat.pow_pos (by decide))
        rw [← Nat.pow_add] at h3
        exact Nat.lt_of_lt_of_le h3 (pow_le' (by omega))
      have := qv_same K s (E := E) (d := n - E) (by omega) (by omega) hpos hb
      rw [show E + (n - E) = n by omega] at this
      rw [Nat.add_mul, this, Nat.one_mul]
      exact ⟨Nat.le_refl _, Nat.lt_add_of_pos_right (P_pos _ _)⟩
  generalize qv s (n - E) = q at *
  generalize hb s (n - E) = h at *
  generalize rb s (n - E) = r at *
  obtain ⟨odd, ht⟩ := to_eq N hN (mi, E, W s, false) n q h r hq3 hc
  have hu1 : (upB m mi odd h r).toNat ≤ 1 := by cases upB m mi odd h r <;> decide
  have hQ : (q + (upB m mi odd h r).toNat) % 2 ^ 256 = q + (upB m mi odd h r).toNat := Nat.mod_eq_of_lt (by omega)
  have hQ2 : q + (upB m mi odd h r).toNat ≤ 2 ^ 53 := by omega
  have hQ3 : -1074 < n → 2 ^ 52 ≤ q + (upB m mi odd h r).toNat := fun hh => Nat.le_trans (hq2 hh) (Nat.le_add_right _ _)
  have key : ∃ F, fn_rnd_Round N (mi, E, W s, false) m = tail N mi n (W (q + (upB m mi odd h r).toNat)) m F ∧ ((h || r) = false → F = 0) := by
    rw [round_unf, hnear, Option.bind_some, hex, Option.bind_some]
    simp only
    rw [W_zero, W_eq hs (by decide), decide_eq_false hz, cond_false, hlen, Option.bind_some, hT', hS, hn, ht m, hQ, Option.bind_some]
    simp only
    cases hr : (h || r)
    · exact ⟨0, rfl, fun _ => rfl⟩
    · obtain ⟨b, hb⟩ := tiny_eq N hN mi false E (E + L) m s hs (by omega) (by omega) (by omega) (by omega)
      rw [cond_true, hb, Option.bind_some]
      cases b
      · exact ⟨16, rfl, fun h => by cases h⟩
      · exact ⟨_, rfl, fun h => by cases h⟩
  obtain ⟨F, hk, hF⟩ := key
  obtain ⟨j, hj⟩ := Int.eq_ofNat_of_zero_le (show 0 ≤ n + 1074 by omega)
  have p1 := VN_pack K hK q j (by omega) (fun hh => by have := hq2 (by omega); omega)
  have p2 := VN_pack K hK (q + 1) j (by omega) (fun hh => by have := hq2 (by omega); omega)
  rw [show (j : Int) - 1074 = n by omega] at p1 p2
  refine ⟨q + j * 4503599627370496, upB m mi odd h r, F, n, q, ?_, by omega, by omega, by omega, by omega, by omega, p1, by rw [show q + j * 4503599627370496 + 1 = q + 1 + j * 4503599627370496 by omega]; exact p2, hsand.1, hsand.2, ?_, ?_⟩
  · rw [hk, tail_eq N hN mi n _ m F hQ2 (by omega) (by omega) hQ3, if_neg (by omega)]
    congr 2
    cases upB m mi odd h r <;> simp only [Bool.toNat_true, Bool.toNat_false, cond_true, cond_false] <;> omega
  · intro hh
    obtain ⟨a1, a2⟩ := hex2 hh
    rw [a1, a2] at hF ⊢
    exact ⟨up_none m mi odd, hF rfl⟩
  · intro hm
    subst hm
    rfl
end Go.Proofs.YtcdhcihjcjpmkaaGreatDoor.Top
/- PLAIN FACTS on chapters 4 and 5, by values: what is a pattern's value is rounded to it; sums. No statement is proved here. -/
namespace Go.Proofs.YtcdhcihjcjpmkaaGreatDoor.Top
open Go Go.RowKit Go.Proofs.YtcdhcihjcjpmkaaGreatDoor.Eng Go.Proofs.YtcdhcihjcjpmkaaGreatDoor.Fns Go.Proofs.YtcdhcihjcjpmkaaGreatDoor.Bw Go.Proofs.YtcdhcihjcjpmkaaGreatDoor.Wid Go.Proofs.YtcdhcihjcjpmkaaGreatDoor.Patp
set_option linter.unusedVariables false
set_option linter.unusedSimpArgs false
def sv (mi : Bool) (x : Nat) : Int := cond mi (-(x : Int)) (x : Int)
/-- the value of a pattern -/
def SV (K : Nat) (p : Int) : Int := sv (decide (9223372036854775808 ≤ p)) (VN K (sz p))
def okF (p : Int) : Prop := U p ∧ sz p < 9218868437227405312
theorem okF_sg (mi : Bool) {b : Nat} (h : b < 9218868437227405312) : okF (sg mi + b) := by
  refine ⟨⟨?_, ?_⟩, ?_⟩
  · cases mi <;> simp only [sg, cond_true, cond_false] <;> omega
  · cases mi <;> simp only [sg, cond_true, cond_false] <;> omega
  · rw [sz_sg mi b (by omega)]; exact h
theorem minus_sg (mi : Bool) {b : Nat} (h : b < 9223372036854775808) : decide ((9223372036854775808 : Int) ≤ sg mi + b) = mi := by
  cases mi
  · exact decide_eq_false (by simp only [sg, cond_false]; omega)
  · exact decide_eq_true (by simp only [sg, cond_true]; omega)
theorem SV_sg (K : Nat) (mi : Bool) {b : Nat} (h : b < 9223372036854775808) : SV K (sg mi + b) = sv mi (VN K b) := by
  unfold SV; rw [minus_sg mi h, sz_sg mi b h]
theorem pat_split {p : Int} (h : U p) : p = sg (decide (9223372036854775808 ≤ p)) + (sz p : Int) := by
  obtain ⟨h0, h1⟩ := h
  unfold sz
  by_cases h : 9223372036854775808 ≤ p
  · rw [decide_eq_true h]; simp only [sg, cond_true]; omega
  · rw [decide_eq_false h]; simp only [sg, cond_false]; omega
def Rep (K x : Nat) : Prop := ∃ t a, t < 2 ^ 53 ∧ (-1074 : Int) ≤ a ∧ x = t * P K a
theorem P_le (K : Nat) {a b : Int} (h : a ≤ b) : P K a ≤ P K b := pow_le' (by omega)
theorem P_lt (K : Nat) {a b : Int} (ha : -(K : Int) ≤ a) (h : a < b) : P K a < P K b := Nat.pow_lt_pow_right (by decide) (by omega)
theorem grid (K : Nat) {n a : Int} (hn : -(K : Int) ≤ n) (ha : n ≤ a) (k : Nat) : ∃ c, k * P K a = c * P K n := by
  obtain ⟨d, hd⟩ := Int.eq_ofNat_of_zero_le (show 0 ≤ a - n by omega)
  refine ⟨k * 2 ^ d, ?_⟩
  rw [show a = n + (d : Int) by omega, P_add K d hn, Nat.mul_assoc, Nat.mul_comm (2 ^ d)]
theorem grid_eq {q c p : Nat} (h1 : q * p ≤ c * p) (h2 : c * p < (q + 1) * p) : c = q := by
  have hp : 0 < p := by
    rcases Nat.eq_zero_or_pos p with h | h
    · subst h; simp at h2
    · exact h
  have := Nat.le_of_mul_le_mul_right h1 hp
  have := Nat.lt_of_mul_lt_mul_right h2
  omega
theorem len_pos {s : Nat} (h : 0 < s) : 1 ≤ lenN s ∧ 2 ^ (lenN s - 1) ≤ s := by
  obtain ⟨l1, l2⟩ := lenN_spec s
  rcases l2 with h' | h'
  · rw [h'] at l1; omega
  · refine ⟨?_, h'⟩
    rcases Nat.eq_zero_or_pos (lenN s) with h0 | h0
    · rw [h0] at l1; omega
    · exact h0
/-- a number's highest bit, by its value -/
theorem top_lt (K : Nat) {s : Nat} {E B : Int} (hs : 0 < s) (hE : -(K : Int) ≤ E) (h : s * P K E < P K B) : E + (lenN s : Int) ≤ B := by
  obtain ⟨l1, l2⟩ := len_pos hs
  have h1 : 2 ^ (lenN s - 1) * P K E < P K B := Nat.lt_of_le_of_lt (Nat.mul_le_mul_right _ l2) h
  rw [Nat.mul_comm, ← P_add K _ hE] at h1
  rcases Int.lt_or_le B (E + (lenN s : Int)) with h2 | h2
  · have : P K B ≤ P K (E + ((lenN s - 1 : Nat) : Int)) := P_le K (by omega)
    omega
  · exact h2
theorem round_zero (N : Nat) (mi : Bool) (E : Int) (m : Int) : fn_rnd_Round N (mi, E, W 0, false) m = some (sg mi, 0) := by
  obtain ⟨E0, hnear, e0, e1⟩ := near_eq N (mi, E, W 0, false)
  have hex : fn_rnd_Num_exact N (mi, E0, W 0, false) = some (mi, E0, W 0, false) := rfl
  have hz : eqL (W 0).1 (Vec.zero 4).1 = true := by rw [W_zero, W_eq (by decide) (by decide)]; rfl
  rw [round_unf, hnear, Option.bind_some, hex, Option.bind_some, hz, cond_true, sign_eq, Option.bind_some, copy_sg N 0 _ (by decide) (by decide), Option.bind_some, Int.add_zero]
theorem round_exact (N : Nat) (hN : 300 ≤ N) (mi : Bool) (E : Int) (s : Nat) (m : Int) (K : Nat) (hs : s < 2 ^ 256) (h0 : -100000 ≤ E) (h1 : E ≤ 100000) (hE : -(K : Int) ≤ E) (hK : 1074 ≤ K)
    (hT : s * P K E < P K 1000) (hr : Rep K (s * P K E)) : ∃ b : Nat, fn_rnd_Round N (mi, E, W s, false) m = some (sg mi + (b : Int), 0) ∧ b < 9218868437227405312 ∧ VN K b = s * P K E := by
  rcases Nat.eq_zero_or_pos s with hz | hpos
  · subst hz
    exact ⟨0, by rw [round_zero, show ((0 : Nat) : Int) = 0 from rfl, Int.add_zero], by decide, by rw [VN_zero, Nat.zero_mul]⟩
  · have hT2 := top_lt K hpos hE hT
    obtain ⟨b, u, F, n, q, r1, r2, r3, r4, r5, r6, r7, r8, r9, r10, r11, r12⟩ := round_val N hN mi E s m K hs hpos h0 h1 hE hK hT2
    obtain ⟨t, a, ht, ha, hta⟩ := hr
    have hg : ∃ c, s * P K E = c * P K n := by
      by_cases hna : n ≤ a
      · rw [hta]; exact grid K (by omega) hna t
      · exfalso
        have hn := r6 (by omega)
        obtain ⟨l1, l2⟩ := len_pos hpos
        have g1 : 2 ^ (lenN s - 1) * P K E ≤ s * P K E := Nat.mul_le_mul_right _ l2
        rw [Nat.mul_comm, ← P_add K _ hE] at g1
        have g2 : t * P K a < P K (a + ((53 : Nat) : Int)) := by
          rw [P_add K 53 (by omega), Nat.mul_comm (P K a)]
          exact Nat.mul_lt_mul_of_pos_right ht (P_pos _ _)
        have g3 : P K (a + ((53 : Nat) : Int)) ≤ P K (E + ((lenN s - 1 : Nat) : Int)) := P_le K (by omega)
        rw [hta] at g1
        omega
    obtain ⟨c, hc⟩ := hg
    have hcq : c = q := by rw [hc] at r9 r10; exact grid_eq r9 r10
    obtain ⟨hu, hF⟩ := r11 (by rw [hc, hcq])
    refine ⟨b, ?_, by omega, by rw [r7, hc, hcq]⟩
    rw [r1, hu, hF, cond_false, Int.add_zero]
theorem round_any (N : Nat) (hN : 300 ≤ N) (mi : Bool) (E : Int) (s : Nat) (m : Int) (K : Nat) (hs : s < 2 ^ 256) (h0 : -100000 ≤ E) (h1 : E ≤ 100000) (hE : -(K : Int) ≤ E) (hK : 1074 ≤ K)
    (hT : s * P K E < P K 1000) : ∃ (b : Nat) (f : Int), fn_rnd_Round N (mi, E, W s, false) m = some (sg mi + (b : Int), f) ∧ b < 9218868437227405312 := by
  rcases Nat.eq_zero_or_pos s with hz | hpos
  · subst hz
    exact ⟨0, 0, by rw [round_zero, show ((0 : Nat) : Int) = 0 from rfl, Int.add_zero], by decide⟩
  · obtain ⟨b, u, F, n, q, r1, r2, _⟩ := round_val N hN mi E s m K hs hpos h0 h1 hE hK (top_lt K hpos hE hT)
    refine ⟨b + u.toNat, F, ?_, ?_⟩
    · rw [r1]; congr 2; cases u <;> simp only [Bool.toNat_true, Bool.toNat_false, cond_true, cond_false] <;> omega
    · cases u <;> simp only [Bool.toNat_true, Bool.toNat_false] <;> omega
theorem len_al (K : Nat) {s t : Nat} {E F : Int} (hs : 0 < s) (hF : -(K : Int) ≤ F) (hFE : F ≤ E) (ht : t < 2 ^ 107) (h : s * P K E ≤ 2 ^ 60 * (t * P K F)) : (lenN s : Int) + E - F ≤ 168 := by
  obtain ⟨l1, l2⟩ := len_pos hs
  obtain ⟨d, hd⟩ := Int.eq_ofNat_of_zero_le (show 0 ≤ E - F by omega)
  rw [show E = F + (d : Int) by omega, P_add K d hF, Nat.mul_comm (P K F), ← Nat.mul_assoc, ← Nat.mul_assoc] at h
  have h2 := Nat.le_of_mul_le_mul_right h (P_pos K F)
  have h3 : 2 ^ (lenN s - 1) * 2 ^ d ≤ 2 ^ 60 * t := Nat.le_trans (Nat.mul_le_mul_right _ l2) h2
  rw [← Nat.pow_add] at h3
  have h4 : 2 ^ 60 * t < 2 ^ 167 := by omega
  rcases Nat.lt_or_ge (lenN s - 1 + d) 167 with h5 | h5
  · omega
  · have : 2 ^ 167 ≤ 2 ^ (lenN s - 1 + d) := pow_le' h5
    omega
theorem shl_val {s d : Nat} (h : lenN s + d < 250) : shlZ s (d : Int) = s * 2 ^ d ∧ s * 2 ^ d < 2 ^ 250 := by
  obtain ⟨l1, _⟩ := lenN_spec s
  have h3 : s * 2 ^ d < 2 ^ lenN s * 2 ^ d := Nat.mul_lt_mul_of_pos_right l1 (Nat.pow_pos (by decide))
  rw [← Nat.pow_add] at h3
  have h4 := Nat.lt_of_lt_of_le h3 (pow_le' (show lenN s + d ≤ 250 by omega))
  refine ⟨?_, h4⟩
  unfold shlZ
  by_cases h1 : (d : Int) < 1
  · rw [if_pos h1, show d = 0 by omega, Nat.pow_zero, Nat.mul_one]
  · rw [if_neg h1, if_neg (by omega), Int.toNat_natCast, Nat.mod_eq_of_lt (by omega)]
theorem cmp3 (x y : Nat) : cmpZ x y = if x < y then -1 else if x = y then 0 else 1 := rfl
theorem aligned_val (N : Nat) (hN : 300 ≤ N) (K : Nat) (mi mi2 : Bool) (E E2 : Int) (s s2 : Nat) (m : Int) (hs2 : s2 < 2 ^ 107) (hE2 : -(K : Int) ≤ E2) (hle : E2 ≤ E) (b0 : -100000 ≤ E2) (b1 : E ≤ 100000) (hl : (lenN s : Int) + E - E2 ≤ 168) :
    ∃ mi3 E3 s3, fn_sums_aligned N (mi, E, W s, false) (mi2, E2, W s2, false) m = some (mi3, E3, W s3, false) ∧ s3 < 2 ^ 256 ∧ sv mi3 (s3 * P K E3) = sv mi (s * P K E) + sv mi2 (s2 * P K E2) ∧ (E3 = E2 ∨ (E3 = 0 ∧ s3 = 0)) := by
  obtain ⟨d, hd⟩ := Int.eq_ofNat_of_zero_le (show 0 ≤ E - E2 by omega)
  obtain ⟨e1, e2⟩ := shl_val (s := s) (d := d) (by omega)
  have hv : s * P K E = s * 2 ^ d * P K E2 := by rw [show E = E2 + (d : Int) by omega, P_add K d hE2, Nat.mul_comm (P K E2), ← Nat.mul_assoc]
  unfold fn_sums_aligned
  simp only
  rw [subI_i (by omega) (by omega), hd, shl_eq N hN, Option.bind_some, e1, hv]
  generalize s * 2 ^ d = x at e2 ⊢
  have hx : x < 2 ^ 256 := by omega
  have hs2' : s2 < 2 ^ 256 := by omega
  by_cases hm : mi = mi2
  · subst hm
    rw [show eqB mi mi = true by cases mi <;> rfl, cond_true, add_eq N hN _ _ hx hs2', Option.bind_some]
    refine ⟨mi, E2, x + s2, ?_, by omega, ?_, .inl rfl⟩
    · rw [Nat.mod_eq_of_lt (by omega)]
    · rw [Nat.add_mul]
      generalize x * P K E2 = a
      generalize s2 * P K E2 = b
      cases mi <;> simp only [sv, cond_true, cond_false] <;> omega
  · rw [show eqB mi mi2 = false by cases mi <;> cases mi2 <;> first | rfl | exact absurd rfl hm, cond_false, cmp_eq N hN _ _ hx hs2', Option.bind_some, cmp3]
    by_cases hlt : x < s2
    · rw [if_pos hlt, show eqI (-1) 0 = false from rfl, cond_false, show eqI (-1) 1 = false from rfl, cond_false, sub_eq N hN _ _ hs2' hx, Option.bind_some]
      refine ⟨mi2, E2, s2 - x, ?_, by omega, ?_, .inl rfl⟩
      · rw [show (2 ^ 256 + s2 - x) % 2 ^ 256 = s2 - x by omega]
      · have := Nat.sub_mul s2 x (P K E2)
        have hle := Nat.mul_le_mul_right (P K E2) (Nat.le_of_lt hlt)
        rw [this]
        generalize x * P K E2 = a at *
        generalize s2 * P K E2 = b at *
        cases mi <;> cases mi2 <;> simp only [sv, cond_true, cond_false] <;> first | omega | exact absurd rfl hm
    · rw [if_neg hlt]
      by_cases heq : x = s2
      · rw [if_pos heq, show eqI 0 0 = true from rfl, cond_true]
        refine ⟨eqI m 4, 0, 0, ?_, by decide, ?_, .inr ⟨rfl, rfl⟩⟩
        · unfold fn_sums_nought
          rw [show eqB false true = false from rfl, cond_false, Option.bind_some, W_zero]
        · rw [heq, Nat.zero_mul]
          generalize s2 * P K E2 = b
          cases mi <;> cases mi2 <;> cases eqI m 4 <;> simp only [sv, cond_true, cond_false] <;> first | omega | exact absurd rfl hm
      · rw [if_neg heq, show eqI 1 0 = false from rfl, cond_false, show eqI 1 1 = true from rfl, cond_true, sub_eq N hN _ _ hx hs2', Option.bind_some]
        refine ⟨mi, E2, x - s2, ?_, by omega, ?_, .inl rfl⟩
        · rw [show (2 ^ 256 + x - s2) % 2 ^ 256 = x - s2 by omega]
        · have := Nat.sub_mul x s2 (P K E2)
          have hle := Nat.mul_le_mul_right (P K E2) (show s2 ≤ x by omega)
          rw [this]
          generalize x * P K E2 = a at *
          generalize s2 * P K E2 = b at *
          cases mi <;> cases mi2 <;> simp only [sv, cond_true, cond_false] <;> first | omega | exact absurd rfl hm
theorem bndE {α β : Type} {o : Option α} {v : α} {K : α → Option β} {w : Option β} (h : o = some v) (hk : K v = w) : (o.bind K) = w := by rw [h]; exact hk
theorem sv_zero (mi : Bool) : sv mi 0 = 0 := by cases mi <;> rfl
theorem join_val (N : Nat) (hN : 300 ≤ N) (K : Nat) (mi mi2 : Bool) (E E2 : Int) (s s2 : Nat) (m : Int) (hs : s < 2 ^ 107) (hs2 : s2 < 2 ^ 107) (hE : -(K : Int) ≤ E) (hE2 : -(K : Int) ≤ E2) (b0 : -50000 ≤ E) (b1 : E ≤ 50000) (b2 : -50000 ≤ E2) (b3 : E2 ≤ 50000)
    (hal : 0 < s → 0 < s2 → s * P K E ≤ 2 ^ 60 * (s2 * P K E2) ∧ s2 * P K E2 ≤ 2 ^ 60 * (s * P K E)) :
    ∃ mi3 E3 s3, fn_sums_join N (mi, E, W s, false) (mi2, E2, W s2, false) m = some (mi3, E3, W s3, false) ∧ s3 < 2 ^ 256 ∧ sv mi3 (s3 * P K E3) = sv mi (s * P K E) + sv mi2 (s2 * P K E2) ∧ (E3 = E ∨ E3 = E2 ∨ (E3 = 0 ∧ s3 = 0)) := by
  have z1 : eqL (W s).1 (Vec.zero 4).1 = decide (s = 0) := by rw [W_zero, W_eq (by omega) (by decide)]
  have z2 : eqL (W s2).1 (Vec.zero 4).1 = decide (s2 = 0) := by rw [W_zero, W_eq (by omega) (by decide)]
  unfold fn_sums_join
  simp only
  rw [z1, z2]
  rcases Nat.eq_zero_or_pos s with h | h
  · rw [decide_eq_true h, cond_true, cond_true, h, Nat.zero_mul, sv_zero, Int.zero_add]
    rcases Nat.eq_zero_or_pos s2 with h2 | h2
    · rw [decide_eq_true h2, cond_true, h2, Nat.zero_mul, sv_zero]
      unfold fn_sums_nought
      cases eqB mi mi2
      · exact ⟨_, 0, 0, by rw [cond_false, Option.bind_some, W_zero], by decide, by rw [Nat.zero_mul, sv_zero], .inr (.inr ⟨rfl, rfl⟩)⟩
      · exact ⟨_, 0, 0, by rw [cond_true, Option.bind_some, W_zero], by decide, by rw [Nat.zero_mul, sv_zero], .inr (.inr ⟨rfl, rfl⟩)⟩
    · rw [decide_eq_false (by omega), cond_false]
      exact ⟨mi2, E2, s2, rfl, by omega, rfl, .inr (.inl rfl)⟩
  · rw [decide_eq_false (show ¬ s = 0 by omega), cond_false, cond_false]
    rcases Nat.eq_zero_or_pos s2 with h2 | h2
    · rw [decide_eq_true h2, cond_true, h2, Nat.zero_mul, sv_zero, Int.add_zero]
      exact ⟨mi, E, s, rfl, by omega, rfl, .inl rfl⟩
    · rw [decide_eq_false (show ¬ s2 = 0 by omega), cond_false]
      obtain ⟨a1, a2⟩ := hal h h2
      have l1 : lenN s ≤ 107 := lenN_le hs
      have l2 : lenN s2 ≤ 107 := lenN_le hs2
      by_cases hlt : E < E2
      · have hl := len_al K h2 hE (by omega) hs a2
        obtain ⟨mi3, E3, s3, r1, r2, r3, r4⟩ := aligned_val N hN K mi2 mi E2 E s2 s m hs hE (by omega) (by omega) (by omega) hl
        refine ⟨mi3, E3, s3, ?_, r2, by rw [r3, Int.add_comm], by omega⟩
        rw [ltI_t hlt, cond_true]
        refine bndE (len_eq N hN s2 (by omega)) ?_
        rw [addI_i (by omega) (by omega), subI_i (by omega) (by omega), ltI_t (by omega), cond_true]
        exact bndE r1 rfl
      · have hl := len_al K h hE2 (by omega) hs2 a1
        obtain ⟨mi3, E3, s3, r1, r2, r3, r4⟩ := aligned_val N hN K mi mi2 E E2 s s2 m hs2 hE2 (by omega) (by omega) (by omega) hl
        refine ⟨mi3, E3, s3, ?_, r2, r3, by omega⟩
        rw [ltI_f hlt, cond_false]
        refine bndE (len_eq N hN s (by omega)) ?_
        rw [addI_i (by omega) (by omega), subI_i (by omega) (by omega), ltI_t (by omega), cond_true]
        exact bndE r1 rfl
end Go.Proofs.YtcdhcihjcjpmkaaGreatDoor.Top
/- PLAIN FACTS on chapters 5 and 6, by values: sums, products and products with a sum of finite patterns are numbers of their values, rounded. No statement is proved here. -/
namespace Go.Proofs.YtcdhcihjcjpmkaaGreatDoor.Top
open Go Go.RowKit Go.Proofs.YtcdhcihjcjpmkaaGreatDoor.Eng Go.Proofs.YtcdhcihjcjpmkaaGreatDoor.Fns Go.Proofs.YtcdhcihjcjpmkaaGreatDoor.Bw Go.Proofs.YtcdhcihjcjpmkaaGreatDoor.Wid Go.Proofs.YtcdhcihjcjpmkaaGreatDoor.Patp
set_option linter.unusedVariables false
set_option linter.unusedSimpArgs false
theorem cTv {α : Type} {b : Bool} {x y w : α} (h : b = true) (hx : x = w) : cond b x y = w := by rw [h]; exact hx
theorem cFv {α : Type} {b : Bool} {x y w : α} (h : b = false) (hy : y = w) : cond b x y = w := by rw [h]; exact hy
/-- the sign of a pattern -/
def mn (p : Int) : Bool := decide (9223372036854775808 ≤ p)
theorem okF_nan {a : Int} (ha : okF a) : nanB a = false := decide_eq_false (by have := ha.2; unfold sz at this; omega)
theorem okF_cls {a : Int} (ha : okF a) : eqI (clsR a) 3 = false := by
  obtain ⟨⟨h0, h1⟩, h2⟩ := ha
  have : eN a ≠ 2047 := by unfold eN; unfold sz at h2; omega
  unfold clsR
  rw [if_neg this]
  split
  · split <;> rfl
  · rfl
theorem okF_fin {a : Int} (ha : okF a) : decide (a % 9223372036854775808 < 9218868437227405312) = true := decide_eq_true (by have := ha.2; unfold sz at this; omega)
theorem of_F (N : Nat) (hN : 300 ≤ N) (K : Nat) {a : Int} (ha : okF a) : ∃ k : Nat, k < 2 ^ 53 ∧ sigR a = (k : Int) ∧ VN K (sz a) = k * P K (expR a) ∧ -1074 ≤ expR a ∧ expR a ≤ 971 ∧ fn_rnd_Of N a = some ((mn a, expR a, W k, false), none) := by
  obtain ⟨k, h1, h2, h3, h4, h5, _⟩ := sig_val K ha.1 ha.2
  refine ⟨k, h2, h1, h3, h4, h5, ?_⟩
  unfold fn_rnd_Of
  refine bndE (takeP_eq N a ha.1.1 ha.1.2) (bndE (finP_eq N a ha.1.1 ha.1.2 (by omega)) (cFv (by rw [okF_fin ha]; rfl) ?_))
  simp only [h1]
  exact bndE (of_small N k (by omega)) rfl
/-- a number's value by its parts -/
def NV (K : Nat) (mi : Bool) (E : Int) (s : Nat) : Int := sv mi (s * P K E)
/-- an operation is a number, rounded -/
def Is (N K : Nat) (o : Option (Int × Int)) (m : Int) (v : Int) : Prop := ∃ mi E s, o = fn_rnd_Round N (mi, E, W s, false) m ∧ s < 2 ^ 256 ∧ NV K mi E s = v ∧ -2500 ≤ E ∧ E ≤ 2500
theorem sv_abs (mi : Bool) (x : Nat) : (sv mi x).natAbs = x := by cases mi <;> simp only [sv, cond_true, cond_false] <;> omega
theorem Is.exact {N K : Nat} (hN : 300 ≤ N) (hK : 3000 ≤ K) {o : Option (Int × Int)} {m v : Int} (h : Is N K o m v) (hb : v.natAbs < P K 1000) (hr : Rep K v.natAbs) : ∃ p, o = some (p, 0) ∧ okF p ∧ SV K p = v := by
  obtain ⟨mi, E, s, h1, h2, h3, h4, h5⟩ := h
  have h6 : v.natAbs = s * P K E := by rw [← h3]; exact sv_abs _ _
  rw [h6] at hb hr
  obtain ⟨b, g1, g2, g3⟩ := round_exact N hN mi E s m K h2 (by omega) (by omega) (by omega) (by omega) hb hr
  exact ⟨sg mi + b, by rw [h1, g1], okF_sg mi g2, by rw [SV_sg K mi (by omega), g3]; exact h3⟩
theorem Is.any {N K : Nat} (hN : 300 ≤ N) (hK : 3000 ≤ K) {o : Option (Int × Int)} {m v : Int} (h : Is N K o m v) (hb : v.natAbs < P K 1000) : ∃ p f, o = some (p, f) ∧ okF p ∧ (v < 0 → mn p = true) ∧ (0 < v → mn p = false) := by
  obtain ⟨mi, E, s, h1, h2, h3, h4, h5⟩ := h
  have h6 : v.natAbs = s * P K E := by rw [← h3]; exact sv_abs _ _
  rw [h6] at hb
  obtain ⟨b, f, g1, g2⟩ := round_any N hN mi E s m K h2 (by omega) (by omega) (by omega) (by omega) hb
  have hmn : mn (sg mi + (b : Int)) = mi := minus_sg mi (by omega)
  refine ⟨sg mi + b, f, by rw [h1, g1], okF_sg mi g2, fun hv => ?_, fun hv => ?_⟩
  · rw [hmn]; rw [← h3] at hv; unfold NV at hv; cases mi
    · simp only [sv, cond_false] at hv; omega
    · rfl
  · rw [hmn]; rw [← h3] at hv; unfold NV at hv; cases mi
    · rfl
    · simp only [sv, cond_true] at hv; omega
theorem SV_neg {K : Nat} {p : Int} (h : SV K p < 0) : mn p = true := by
  unfold SV at h; unfold mn
  cases hh : decide ((9223372036854775808 : Int) ≤ p)
  · rw [hh] at h; simp only [sv, cond_false] at h; omega
  · rfl
theorem SV_pos {K : Nat} {p : Int} (h : 0 < SV K p) : mn p = false := by
  unfold SV at h; unfold mn
  cases hh : decide ((9223372036854775808 : Int) ≤ p)
  · rfl
  · rw [hh] at h; simp only [sv, cond_true] at h; omega
theorem SV_abs (K : Nat) (p : Int) : (SV K p).natAbs = VN K (sz p) := sv_abs _ _
theorem VN_eq0 {K : Nat} (hK : 3000 ≤ K) {p : Nat} (h : VN K p = 0) : p = 0 := VN_inj K (by omega) (by rw [h, VN_zero])
theorem SV_inj {K : Nat} (hK : 3000 ≤ K) {p q : Int} (hp : okF p) (hq : okF q) (h : SV K p = SV K q) : p = q ∨ (sz p = 0 ∧ sz q = 0) := by
  have h1 : VN K (sz p) = VN K (sz q) := by rw [← SV_abs, ← SV_abs, h]
  have h2 := VN_inj K (by omega) h1
  rcases Int.lt_trichotomy (SV K p) 0 with h3 | h3 | h3
  · refine .inl ?_
    have a := SV_neg h3
    rw [h] at h3
    have b := SV_neg h3
    unfold mn at a b
    rw [pat_split hp.1, pat_split hq.1, a, b, h2]
  · right
    have : VN K (sz p) = 0 := by rw [← SV_abs, h3]; rfl
    have := VN_eq0 hK this
    omega
  · refine .inl ?_
    have a := SV_pos h3
    rw [h] at h3
    have b := SV_pos h3
    unfold mn at a b
    rw [pat_split hp.1, pat_split hq.1, a, b, h2]
theorem bind_eta2 (o : Option (Int × Int)) : (o.bind fun r => some (r.1, r.2)) = o := bind_eta o
/-- a sum -/
theorem add_is (N : Nat) (hN : 300 ≤ N) (K : Nat) (hK : 3000 ≤ K) {a b : Int} (ha : okF a) (hb : okF b) (m : Int) (hal : 0 < VN K (sz a) → 0 < VN K (sz b) → VN K (sz a) ≤ 2 ^ 60 * VN K (sz b) ∧ VN K (sz b) ≤ 2 ^ 60 * VN K (sz a)) :
    Is N K (fn_sums_Add N a b m) m (SV K a + SV K b) := by
  obtain ⟨k, k1, k2, k3, k4, k5, k6⟩ := of_F N hN K ha
  obtain ⟨j, j1, j2, j3, j4, j5, j6⟩ := of_F N hN K hb
  have hal' : 0 < k → 0 < j → k * P K (expR a) ≤ 2 ^ 60 * (j * P K (expR b)) ∧ j * P K (expR b) ≤ 2 ^ 60 * (k * P K (expR a)) := by
    intro h1 h2
    rw [k3, j3] at hal
    exact hal (Nat.mul_pos h1 (P_pos _ _)) (Nat.mul_pos h2 (P_pos _ _))
  obtain ⟨mi3, E3, s3, r1, r2, r3, r4⟩ := join_val N hN K (mn a) (mn b) (expR a) (expR b) k j m (by omega) (by omega) (by omega) (by omega) (by omega) (by omega) (by omega) (by omega) hal'
  refine ⟨mi3, E3, s3, ?_, r2, ?_, by omega, by omega⟩
  · have rest : ((fn_pat_Class N a).bind fun r23 => cond (eqI r23 3) (some (a, 0)) ((fn_pat_Class N b).bind fun r24 => cond (eqI r24 3) (some (b, 0)) ((fn_rnd_Of N a).bind fun r25 => (fn_rnd_Of N b).bind fun r26 =>
        cond (!(isNoneI r25.2)) ((fn_sums_none N [a, b]).bind fun r27 => some (r27.1, r27.2)) (cond (!(isNoneI r26.2)) ((fn_sums_none N [a, b]).bind fun r28 => some (r28.1, r28.2))
          ((fn_sums_join N (r25.1.1, r25.1.2.1, r25.1.2.2.1, r25.1.2.2.2) (r26.1.1, r26.1.2.1, r26.1.2.2.1, r26.1.2.2.2) m).bind fun r29 => (fn_rnd_Round N (r29.1, r29.2.1, r29.2.2.1, r29.2.2.2) m).bind fun r30 => some (r30.1, r30.2)))))) = fn_rnd_Round N (mi3, E3, W s3, false) m :=
      bndE (clsP_eq N a ha.1.1 ha.1.2) (cFv (okF_cls ha) (bndE (clsP_eq N b hb.1.1 hb.1.2) (cFv (okF_cls hb) (bndE k6 (bndE j6 (cFv rfl (cFv rfl (bndE r1 (bind_eta2 _)))))))))
    unfold fn_sums_Add
    exact bndE (nan_eq N a ha.1.1 ha.1.2) (cFv (okF_nan ha) (bndE (nan_eq N b hb.1.1 hb.1.2) (cFv (okF_nan hb) (bndE (clsP_eq N a ha.1.1 ha.1.2) (cFv (okF_cls ha) rest)))))
  · unfold NV SV
    rw [r3, k3, j3]; rfl
theorem neg_F {b : Int} (hb : okF b) (N : Nat) : ∃ c, fn_pat_Neg N b = some c ∧ okF c ∧ sz c = sz b ∧ (∀ K, SV K c = -(SV K b)) ∧ mn c = !(mn b) := by
  refine ⟨_, negP_eq N b hb.1.1 hb.1.2, ?_⟩
  have hs := pat_split hb.1
  have hl : sz b < 9223372036854775808 := by have := hb.2; omega
  have he : (if b < 9223372036854775808 then b + 9223372036854775808 else b - 9223372036854775808) = sg (!(mn b)) + (sz b : Int) := by
    unfold mn sz
    have := hb.1
    unfold U at this
    by_cases h : b < 9223372036854775808
    · rw [if_pos h, decide_eq_false (by omega)]; simp only [sg, Bool.not_false, cond_true]; omega
    · rw [if_neg h, decide_eq_true (by omega)]; simp only [sg, Bool.not_true, cond_false]; omega
  rw [he]
  refine ⟨okF_sg _ hb.2, sz_sg _ _ hl, fun K => ?_, minus_sg _ hl⟩
  rw [SV_sg K _ hl]
  unfold SV mn
  cases decide ((9223372036854775808 : Int) ≤ b) <;> simp only [sv, Bool.not_false, Bool.not_true, cond_true, cond_false] <;> omega
theorem prod_lt53 {k j : Nat} (h1 : k < 2 ^ 53) (h2 : j < 2 ^ 53) : k * j < 2 ^ 106 := by
  have := Nat.mul_le_mul (Nat.le_of_lt_succ (show k < 9007199254740991 + 1 by omega)) (Nat.le_of_lt_succ (show j < 9007199254740991 + 1 by omega))
  exact Nat.lt_of_le_of_lt this (by decide)
theorem sv_mul (a b : Bool) (x y : Nat) : sv (a != b) (x * y) = sv a x * sv b y := by
  cases a <;> cases b <;> simp [sv, Int.neg_mul, Int.mul_neg]
theorem NV_mul (K : Nat) (t : Bool) (x c y z : Nat) (h : x * c = y * z) (a b : Bool) (ht : t = (a != b)) : sv t x * (c : Int) = sv a y * sv b z := by
  rw [← sv_mul, ← h, ht]
  cases a <;> cases b <;> simp [sv, Int.neg_mul]
end Go.Proofs.YtcdhcihjcjpmkaaGreatDoor.Top
/- PLAIN FACTS on chapters 4 and 8, by values: a number, rounded to a whole one. No statement is proved here. -/
namespace Go.Proofs.YtcdhcihjcjpmkaaGreatDoor.Top
open Go Go.RowKit Go.Proofs.YtcdhcihjcjpmkaaGreatDoor.Eng Go.Proofs.YtcdhcihjcjpmkaaGreatDoor.Fns Go.Proofs.YtcdhcihjcjpmkaaGreatDoor.Bw Go.Proofs.YtcdhcihjcjpmkaaGreatDoor.Wid Go.Proofs.YtcdhcihjcjpmkaaGreatDoor.Patp
set_option linter.unusedVariables false
set_option linter.unusedSimpArgs false
/-- the whole number next to x, in units of p -/
def NE (x p M : Nat) : Prop := 2 * M * p ≤ 2 * x + p ∧ 2 * x ≤ (2 * M + 1) * p ∧ (2 * x = (2 * M + 1) * p → M % 2 = 0) ∧ (2 * M * p = 2 * x + p → M % 2 = 0)
theorem NE_scale {x p M : Nat} (c : Nat) (hc : 0 < c) (h : NE x p M) : NE (x * c) (p * c) M := by
  obtain ⟨h1, h2, h3, h4⟩ := h
  have e1 : 2 * M * (p * c) = 2 * M * p * c := by rw [Nat.mul_assoc, Nat.mul_assoc, Nat.mul_assoc]
  have e2 : 2 * (x * c) + p * c = (2 * x + p) * c := by rw [Nat.add_mul, Nat.mul_assoc]
  have e3 : (2 * M + 1) * (p * c) = (2 * M + 1) * p * c := by rw [Nat.mul_assoc]
  have e4 : 2 * (x * c) = 2 * x * c := by rw [Nat.mul_assoc]
  refine ⟨?_, ?_, fun h => h3 ?_, fun h => h4 ?_⟩
  · rw [e1, e2]; exact Nat.mul_le_mul_right _ h1
  · rw [e3, e4]; exact Nat.mul_le_mul_right _ h2
  · rw [e3, e4] at h; exact Nat.eq_of_mul_eq_mul_right hc h
  · rw [e1, e2] at h; exact Nat.eq_of_mul_eq_mul_right hc h
theorem NE_same (M p : Nat) (hp : 0 < p) : NE (M * p) p M := by
  have e1 : 2 * M * p = 2 * (M * p) := Nat.mul_assoc ..
  have e2 : (2 * M + 1) * p = 2 * (M * p) + p := by rw [Nat.add_mul, Nat.one_mul, Nat.mul_assoc]
  unfold NE
  rw [e1, e2]
  exact ⟨by omega, by omega, by omega, by omega⟩
theorem ne_nat (s k : Nat) : NE s (2 ^ (k + 1)) (s / 2 ^ (k + 1) + (hb s ((k + 1 : Nat) : Int) && (rb s ((k + 1 : Nat) : Int) || decide (s / 2 ^ (k + 1) % 2 = 1))).toNat) := by
  have e1 : hb s ((k + 1 : Nat) : Int) = decide (s / 2 ^ k % 2 = 1) := by
    unfold hb
    rw [show ((k + 1 : Nat) : Int) - 1 = (k : Int) by omega, Int.toNat_natCast]
    congr 1; apply propext; exact ⟨fun h => h.2, fun h => ⟨by omega, h⟩⟩
  have e2 : rb s ((k + 1 : Nat) : Int) = decide (s % 2 ^ k ≠ 0) := by
    unfold rb
    rw [show ((k + 1 : Nat) : Int) - 1 = (k : Int) by omega, Int.toNat_natCast]
    congr 1; apply propext; exact ⟨fun h => h.2, fun h => ⟨by omega, h⟩⟩
  have h1 := Nat.div_add_mod s (2 ^ (k + 1))
  rw [mod_half, Nat.mul_comm] at h1
  have h2 : s % 2 ^ k < 2 ^ k := Nat.mod_lt _ (Nat.pow_pos (by decide))
  have h3 : s / 2 ^ k % 2 < 2 := Nat.mod_lt _ (by decide)
  have hp : 2 ^ (k + 1) = 2 * 2 ^ k := by rw [Nat.pow_succ, Nat.mul_comm]
  rw [e1, e2]
  generalize s / 2 ^ (k + 1) = q at *
  generalize s % 2 ^ k = r at *
  generalize s / 2 ^ k % 2 = h at *
  have a1 : 2 * q * 2 ^ (k + 1) = 2 * (q * 2 ^ (k + 1)) := Nat.mul_assoc ..
  have a2 : (2 * q + 1) * 2 ^ (k + 1) = 2 * (q * 2 ^ (k + 1)) + 2 ^ (k + 1) := by rw [Nat.add_mul, Nat.one_mul, Nat.mul_assoc]
  have a3 : 2 * (q + 1) * 2 ^ (k + 1) = 2 * (q * 2 ^ (k + 1)) + 2 * 2 ^ (k + 1) := by rw [Nat.mul_assoc, Nat.add_mul, Nat.one_mul, Nat.mul_add]
  have a4 : (2 * (q + 1) + 1) * 2 ^ (k + 1) = 2 * (q * 2 ^ (k + 1)) + 3 * 2 ^ (k + 1) := by rw [Nat.add_mul, Nat.one_mul, a3]; omega
  rcases (show h = 0 ∨ h = 1 by omega) with hh | hh
  · subst hh
    rw [Nat.mul_zero, Nat.add_zero] at h1
    rw [show (decide ((0 : Nat) = 1)) = false from rfl, Bool.false_and, Bool.toNat_false, Nat.add_zero q]
    unfold NE
    rw [a1, a2]
    generalize q * 2 ^ (k + 1) = A at *
    generalize 2 ^ (k + 1) = B at *
    generalize 2 ^ k = C at *
    exact ⟨by omega, by omega, by omega, by omega⟩
  · subst hh
    rw [Nat.mul_one] at h1
    rw [show (decide ((1 : Nat) = 1)) = true from rfl, Bool.true_and]
    by_cases hr : r ≠ 0
    · rw [decide_eq_true hr, Bool.true_or, Bool.toNat_true]
      unfold NE
      rw [a3, a4]
      generalize q * 2 ^ (k + 1) = A at *
      generalize 2 ^ (k + 1) = B at *
      generalize 2 ^ k = C at *
      exact ⟨by omega, by omega, by omega, by omega⟩
    · rw [decide_eq_false hr, Bool.false_or]
      by_cases ho : q % 2 = 1
      · rw [decide_eq_true ho, Bool.toNat_true]
        unfold NE
        rw [a3, a4]
        generalize q * 2 ^ (k + 1) = A at *
        generalize 2 ^ (k + 1) = B at *
        generalize 2 ^ k = C at *
        exact ⟨by omega, by omega, by omega, by omega⟩
      · rw [decide_eq_false ho, Bool.toNat_false, Nat.add_zero q]
        unfold NE
        rw [a1, a2]
        generalize q * 2 ^ (k + 1) = A at *
        generalize 2 ^ (k + 1) = B at *
        generalize 2 ^ k = C at *
        exact ⟨by omega, by omega, by omega, by omega⟩
theorem odd_W (q : Nat) : eqI (andI .u64 (Vec.rd (W q) 0) 1) 1 = decide (q % 2 = 1) := by
  have h1 := rd_W (x := q) (i := 0) (by decide)
  rw [show ((0 : Nat) : Int) = 0 from rfl, Nat.mul_zero, Nat.pow_zero, Nat.div_one] at h1
  have h2 := and_pow 0 (by decide) (q % 2 ^ 64) (Nat.mod_lt _ (by decide))
  rw [Nat.pow_zero, Nat.div_one] at h2
  rw [h1]
  unfold andI
  rw [show (1 : Int) = ((1 : Nat) : Int) from rfl, h2, Nat.mod_mod_of_dvd q (show 2 ∣ 2 ^ 64 by decide)]
  by_cases h : q % 2 = 1
  · rw [if_pos h, decide_eq_true h]; rfl
  · rw [if_neg h, decide_eq_false h]; rfl
end Go.Proofs.YtcdhcihjcjpmkaaGreatDoor.Top
/- PLAIN FACTS on chapter 4, by values: rounding to the nearest pattern. No statement is proved here. -/
namespace Go.Proofs.YtcdhcihjcjpmkaaGreatDoor.Top
open Go Go.RowKit Go.Proofs.YtcdhcihjcjpmkaaGreatDoor.Eng Go.Proofs.YtcdhcihjcjpmkaaGreatDoor.Fns Go.Proofs.YtcdhcihjcjpmkaaGreatDoor.Bw Go.Proofs.YtcdhcihjcjpmkaaGreatDoor.Wid Go.Proofs.YtcdhcihjcjpmkaaGreatDoor.Patp
set_option linter.unusedVariables false
set_option linter.unusedSimpArgs false
theorem to_val (N : Nat) (hN : 300 ≤ N) (x : NumV) (n m : Int) (q : Nat) (h r : Bool) (hq : q < 2 ^ 256) (hc : fn_rnd_Num_cut N x n = some (W q, h, r)) :
    fn_rnd_Num_to N x n m = some (W ((q + (upB m x.1 (decide (q % 2 = 1)) h r).toNat) % 2 ^ 256), h || r) := by
  unfold fn_rnd_Num_to
  obtain ⟨mi, E, s, mo⟩ := x
  simp only
  rw [hc, Option.bind_some, up_eq, Option.bind_some]
  simp only
  rw [odd_W]
  cases upB m mi (decide (q % 2 = 1)) h r
  · rw [cond_false, show (q + false.toNat) % 2 ^ 256 = q from Nat.mod_eq_of_lt hq]
    cases h <;> rfl
  · rw [cond_true, of_one N, Option.bind_some, add_eq N hN _ _ hq (by decide), Option.bind_some]
    cases h <;> rfl
theorem VN_le (K : Nat) (hK : 1074 ≤ K) {p q : Nat} (h : p ≤ q) : VN K p ≤ VN K q := by
  rcases Nat.eq_or_lt_of_le h with h | h
  · rw [h]; exact Nat.le_refl _
  · exact Nat.le_of_lt (VN_mono K hK h)
theorem round_near (N : Nat) (hN : 300 ≤ N) (mi : Bool) (E : Int) (s : Nat) (K : Nat) (hs : s < 2 ^ 256) (hpos : 0 < s) (h0 : -100000 ≤ E) (h1 : E ≤ 100000) (hE : -(K : Int) ≤ E) (hK : 1074 ≤ K) (hT : E + (lenN s : Int) ≤ 1024)
    (b : Nat) (hb0 : 0 < b) (hb : b < 9218868437227405312) (lo : VN K (b - 1) + VN K b ≤ 2 * (s * P K E)) (hi : 2 * (s * P K E) ≤ VN K b + VN K (b + 1)) (tl : VN K (b - 1) + VN K b = 2 * (s * P K E) → b % 2 = 0) (th : 2 * (s * P K E) = VN K b + VN K (b + 1) → b % 2 = 0) :
    ∃ F, fn_rnd_Round N (mi, E, W s, false) 0 = some (sg mi + (b : Int), F) := by
  have hz : s ≠ 0 := by omega
  have hnear : fn_rnd_Num_near N (mi, E, W s, false) = some (mi, E, W s, false) := by
    show some (mi, minI (maxI E (-131072)) 131072, W s, false) = _
    have : minI (maxI E (-131072)) 131072 = E := by unfold minI maxI; split <;> split <;> omega
    rw [this]
  have hex : fn_rnd_Num_exact N (mi, E, W s, false) = some (mi, E, W s, false) := rfl
  obtain ⟨l1, l2⟩ := lenN_spec s
  have l3 : lenN s ≤ 256 := lenN_le hs
  obtain ⟨l4, l5⟩ := len_pos hpos
  have hlen := len_eq N hN s hs
  generalize lenN s = L at *
  have hmax : ∃ n, maxI (E + (L : Int) - 53) (-1074) = n ∧ ((n = E + L - 53 ∧ -1074 ≤ n) ∨ (n = -1074 ∧ E + L - 53 < n)) := by
    unfold maxI
    by_cases h : (-1074 : Int) > E + (L : Int) - 53
    · rw [if_pos h]; exact ⟨_, rfl, .inr ⟨rfl, by omega⟩⟩
    · rw [if_neg h]; exact ⟨_, rfl, .inl ⟨rfl, by omega⟩⟩
  obtain ⟨n, hn, hn2⟩ := hmax
  have hT' : addI .i64 E (L : Int) = E + L := addI_i (by omega) (by omega)
  have hS : subI .i64 (E + (L : Int)) 53 = E + L - 53 := subI_i (by omega) (by omega)
  have hc := cut_val N hN mi E n s hs (by omega) (by omega) (by omega) (by omega)
  have hq1 := qv_hi s L (n - E) l1 l3 (by omega)
  have hq2 : -1074 < n → 2 ^ 52 ≤ qv s (n - E) := fun hh => qv_lo s L (n - E) l1 l4 l5 l3 (by omega)
  have hq3 := qv_lt s (n - E) hs
  have hmain : NE (s * P K E) (P K n) (qv s (n - E) + (Top.hb s (n - E) && (rb s (n - E) || decide (qv s (n - E) % 2 = 1))).toNat) ∧ qv s (n - E) * P K n ≤ s * P K E ∧ s * P K E < (qv s (n - E) + 1) * P K n := by
    by_cases hd : 0 < n - E
    · obtain ⟨k, hk⟩ := Int.eq_ofNat_of_zero_le (show 0 ≤ n - E - 1 by omega)
      have hd' : n - E = ((k + 1 : Nat) : Int) := by omega
      have hsand := qv_sand K s hE hd
      rw [show E + (n - E) = n by omega] at hsand
      refine ⟨?_, hsand⟩
      have hp : P K n = 2 ^ (k + 1) * P K E := by rw [show n = E + ((k + 1 : Nat) : Int) by omega, P_add K (k + 1) hE, Nat.mul_comm]
      rw [hd', qv_pos s (k + 1) (by omega), hp]
      exact NE_scale _ (P_pos K E) (ne_nat s k)
    · have hbb : s * 2 ^ (-(n - E)).toNat < 2 ^ 256 := by
        have h3 : s * 2 ^ (-(n - E)).toNat < 2 ^ L * 2 ^ (-(n - E)).toNat := Nat.mul_lt_mul_of_pos_right l1 (Nat.pow_pos (by decide))
        rw [← Nat.pow_add] at h3
        exact Nat.lt_of_lt_of_le h3 (pow_le' (by omega))
      have hsame := qv_same K s (E := E) (d := n - E) (by omega) (by omega) hpos hbb
      rw [show E + (n - E) = n by omega] at hsame
      have e1 : Top.hb s (n - E) = false := decide_eq_false (fun h => hd h.1)
      rw [e1, Bool.false_and, Bool.toNat_false, ← hsame]
      refine ⟨NE_same _ _ (P_pos K n), Nat.le_refl _, ?_⟩
      rw [Nat.add_mul, Nat.one_mul]
      exact Nat.lt_add_of_pos_right (P_pos _ _)
  generalize qv s (n - E) = q at *
  generalize Top.hb s (n - E) = h at *
  generalize rb s (n - E) = r at *
  have ht := to_val N hN (mi, E, W s, false) n 0 q h r hq3 hc
  have hu0 : upB 0 mi (decide (q % 2 = 1)) h r = (h && (r || decide (q % 2 = 1))) := rfl
  simp only at ht
  rw [hu0] at ht
  generalize (h && (r || decide (q % 2 = 1))) = u at *
  obtain ⟨hne, s1, s2⟩ := hmain
  have hu1 : u.toNat ≤ 1 := by cases u <;> decide
  have hQ : (q + u.toNat) % 2 ^ 256 = q + u.toNat := Nat.mod_eq_of_lt (by omega)
  have key : ∃ F, fn_rnd_Round N (mi, E, W s, false) 0 = tail N mi n (W (q + u.toNat)) 0 F := by
    rw [round_unf, hnear, Option.bind_some, hex, Option.bind_some]
    simp only
    rw [W_zero, W_eq hs (by decide), decide_eq_false hz, cond_false, hlen, Option.bind_some, hT', hS, hn, ht, hQ, Option.bind_some]
    simp only
    cases hr : (h || r)
    · exact ⟨0, rfl⟩
    · obtain ⟨b, hb⟩ := tiny_eq N hN mi false E (E + L) 0 s hs (by omega) (by omega) (by omega) (by omega)
      rw [cond_true, hb, Option.bind_some]
      cases b
      · exact ⟨16, rfl⟩
      · exact ⟨_, rfl⟩
  obtain ⟨F, hk⟩ := key
  obtain ⟨j, hj⟩ := Int.eq_ofNat_of_zero_le (show 0 ≤ n + 1074 by omega)
  have p1 := VN_pack K hK q j (by omega) (fun hh => by have := hq2 (by omega); omega)
  have p2 := VN_pack K hK (q + 1) j (by omega) (fun hh => by have := hq2 (by omega); omega)
  rw [show (j : Int) - 1074 = n by omega] at p1 p2
  rw [show q + 1 + j * 4503599627370496 = q + j * 4503599627370496 + 1 by omega] at p2
  have hbb : q + j * 4503599627370496 + u.toNat = b := by
    generalize hB : q + j * 4503599627370496 = bb at *
    obtain ⟨m1, m2, m3, m4⟩ := hne
    have e1 : (2 * q + 1) * P K n = 2 * (q * P K n) + P K n := by rw [Nat.add_mul, Nat.one_mul, Nat.mul_assoc]
    have e2 : (q + 1) * P K n = q * P K n + P K n := by rw [Nat.add_mul, Nat.one_mul]
    have c1 : bb ≤ b := by
      rcases Nat.lt_or_ge b bb with h | h
      · have a1 := VN_mono K hK (show b < b + 1 by omega)
        have a2 := VN_le K hK (show b + 1 ≤ bb by omega)
        omega
      · exact h
    have c2 : b ≤ bb + 1 := by
      rcases Nat.lt_or_ge (bb + 1) b with h | h
      · have a1 := VN_mono K hK (show b - 1 < b by omega)
        have a2 := VN_le K hK (show bb + 1 ≤ b - 1 by omega)
        omega
      · exact h
    rcases (show b = bb ∨ b = bb + 1 by omega) with hh | hh
    · subst hh
      cases hu : u
      · rfl
      · exfalso
        rw [hu, Bool.toNat_true] at m1 m4
        have e3 : 2 * (q + 1) * P K n = 2 * (q * P K n) + 2 * P K n := by rw [Nat.mul_assoc, e2]; omega
        rw [e3] at m1 m4
        have h5 := th (by omega)
        have h6 := m4 (by omega)
        omega
    · cases hu : u
      · exfalso
        rw [hu, Bool.toNat_false, Nat.add_zero q] at m2 m3
        rw [e1] at m2 m3
        rw [hh, Nat.add_sub_cancel] at lo tl
        have h5 := tl (by omega)
        have h6 := m3 (by omega)
        omega
      · rw [hh]; rfl
  refine ⟨F, ?_⟩
  rw [hk, tail_eq N hN mi n _ 0 F (by omega) (by omega) (by omega) (fun hh => Nat.le_trans (hq2 hh) (Nat.le_add_right _ _)), if_neg (by omega)]
  congr 2
  omega
end Go.Proofs.YtcdhcihjcjpmkaaGreatDoor.Top
/- PLAIN FACTS on chapters 4 and 13, by values: a number known to many bits, and whether there is more, is rounded to the pattern that is nearest to the true one. No statement is proved here. -/
namespace Go.Proofs.YtcdhcihjcjpmkaaGreatDoor.Top
open Go Go.RowKit Go.Proofs.YtcdhcihjcjpmkaaGreatDoor.Eng Go.Proofs.YtcdhcihjcjpmkaaGreatDoor.Fns Go.Proofs.YtcdhcihjcjpmkaaGreatDoor.Bw Go.Proofs.YtcdhcihjcjpmkaaGreatDoor.Wid Go.Proofs.YtcdhcihjcjpmkaaGreatDoor.Patp
set_option linter.unusedVariables false
set_option linter.unusedSimpArgs false
theorem round_more2 (N : Nat) (hN : 300 ≤ N) (mi : Bool) (E : Int) (s : Nat) (m : Int) (hs : s < 2 ^ 254) (h0 : -100000 ≤ E) (h1 : E ≤ 100000) : fn_rnd_Round N (mi, E, W s, true) m = fn_rnd_Round N (mi, E - 1, W (2 * s + 1), false) m := by
  have near : ∀ (E : Int) (v : Vec 4) (mo : Bool), -131072 ≤ E → E ≤ 131072 → fn_rnd_Num_near N (mi, E, v, mo) = some (mi, E, v, mo) := by
    intro E v mo h0 h1
    show some (mi, minI (maxI E (-131072)) 131072, v, mo) = _
    have : minI (maxI E (-131072)) 131072 = E := by unfold minI maxI; split <;> split <;> omega
    rw [this]
  have e1 : fn_rnd_Num_exact N (mi, E, W s, true) = some (mi, E - 1, W (2 * s + 1), false) := by
    have hl : lenN s ≤ 254 := lenN_le hs
    have hsh : shlZ s 1 = 2 * s := by
      unfold shlZ
      rw [if_neg (by decide), if_neg (by decide), show ((1 : Int).toNat) = 1 from rfl, Nat.pow_one, Nat.mod_eq_of_lt (by omega), Nat.mul_comm]
    unfold fn_rnd_Num_exact
    simp only
    refine cFv rfl (bndE (len_eq N hN s (by omega)) (cFv (ltI_f (by omega)) (bndE (shl_eq N hN s 1) ?_)))
    rw [hsh]
    refine bndE (of_one N) (bndE (add_eq N hN (2 * s) 1 (by omega) (by decide)) ?_)
    rw [Nat.mod_eq_of_lt (by omega), subI_i (by omega) (by omega)]
  have e2 : fn_rnd_Num_exact N (mi, E - 1, W (2 * s + 1), false) = some (mi, E - 1, W (2 * s + 1), false) := rfl
  rw [round_unf, round_unf, near E (W s) true (by omega) (by omega), near (E - 1) (W (2 * s + 1)) false (by omega) (by omega), Option.bind_some, Option.bind_some, e1, e2]
/-- a size's neighbours are not twice as great -/
theorem VN_double (K : Nat) (hK : 1074 ≤ K) {p : Nat} (hp : 0 < p) : VN K (p + 1) ≤ 2 * VN K p := by
  obtain ⟨q, j, e, hq, hj, _⟩ := unpack p
  have h1 := VN_pack K hK q j (by omega) hj
  have h2 := VN_pack K hK (q + 1) j (by omega) (fun h => by have := hj h; omega)
  rw [show q + 1 + j * 4503599627370496 = p + 1 by omega] at h2
  rw [← e] at h1
  have hq0 : 0 < q := by
    rcases Nat.eq_zero_or_pos j with h | h
    · subst h; omega
    · have := hj h; omega
  rw [h1, h2, ← Nat.mul_assoc]
  exact Nat.mul_le_mul_right _ (by omega)
/-- a great size is so many times a power of two -/
theorem VN_grid (K : Nat) (hK : 1074 ≤ K) {p : Nat} {E : Int} (hE : -(K : Int) ≤ E) (h : 2 ^ 55 * P K E ≤ VN K p ∨ p = 0) : ∃ g, VN K p = g * P K (E + 1) := by
  rcases h with h | h
  · obtain ⟨q, j, e, hq, hj, _⟩ := unpack p
    have h1 := VN_pack K hK q j (by omega) hj
    rw [← e] at h1
    rw [h1] at h ⊢
    refine grid K (by omega) ?_ q
    rcases Int.lt_or_le ((j : Int) - 1074) (E + 1) with h2 | h2
    · exfalso
      have h3 : q * P K ((j : Int) - 1074) < 2 ^ 53 * P K ((j : Int) - 1074) := Nat.mul_lt_mul_of_pos_right (by omega) (P_pos _ _)
      have h4 : P K ((j : Int) - 1074) ≤ P K E := P_le K (by omega)
      have h5 : 2 ^ 53 * P K ((j : Int) - 1074) ≤ 2 ^ 53 * P K E := Nat.mul_le_mul_left _ h4
      omega
    · omega
  · subst h; exact ⟨0, by rw [VN_zero, Nat.zero_mul]⟩
theorem read_near (N : Nat) (hN : 300 ≤ N) (mi mo : Bool) (E : Int) (s : Nat) (K : Nat) (hs : s < 2 ^ 254) (hpos : 0 < s) (h0 : -90000 ≤ E) (h1 : E ≤ 90000) (hE : -(K : Int) ≤ E - 1) (hK : 1074 ≤ K) (hT : E + (lenN s : Int) ≤ 1024) (X Y : Nat) (hY : 0 < Y)
    (hmf : mo = false → s * P K E * Y = X) (hmt : mo = true → 2 ^ 60 ≤ s ∧ s * P K E * Y < X ∧ X < (s + 1) * P K E * Y)
    (b : Nat) (hb0 : 0 < b) (hb : b < 9218868437227405312) (lo : (VN K (b - 1) + VN K b) * Y ≤ 2 * X) (hi : 2 * X ≤ (VN K b + VN K (b + 1)) * Y) (tl : (VN K (b - 1) + VN K b) * Y = 2 * X → b % 2 = 0) (th : 2 * X = (VN K b + VN K (b + 1)) * Y → b % 2 = 0) :
    ∃ F, fn_rnd_Round N (mi, E, W s, mo) 0 = some (sg mi + (b : Int), F) := by
  cases mo
  · have hX := hmf rfl
    rw [← hX, ← Nat.mul_assoc] at lo hi tl th
    refine round_near N hN mi E s K (by omega) hpos (by omega) (by omega) (by omega) hK hT b hb0 hb (Nat.le_of_mul_le_mul_right lo hY) (Nat.le_of_mul_le_mul_right hi hY) (fun h => tl (by rw [h])) (fun h => th (by rw [h]))
  · obtain ⟨m1, m2, m3⟩ := hmt rfl
    rw [round_more2 N hN mi E s 0 hs (by omega) (by omega)]
    have hP2 : P K E = 2 * P K (E - 1) := by
      have := P_add K (E := E - 1) 1 (by omega)
      rw [show E - 1 + ((1 : Nat) : Int) = E by omega, Nat.pow_one, Nat.mul_comm] at this
      exact this
    have hP1 : P K (E + 1) = 2 * P K E := by
      have := P_add K (E := E) 1 (by omega)
      rw [show E + ((1 : Nat) : Int) = E + 1 by omega, Nat.pow_one, Nat.mul_comm] at this
      exact this
    have hv : 2 * ((2 * s + 1) * P K (E - 1)) = (2 * s + 1) * P K E := by rw [hP2, Nat.mul_left_comm]
    have hl : lenN (2 * s + 1) = lenN s + 1 := by
      obtain ⟨l1, _⟩ := lenN_spec s
      obtain ⟨l2, l3⟩ := len_pos (s := s) (by omega)
      have e1 : 2 ^ (lenN s + 1) = 2 * 2 ^ lenN s := by rw [Nat.pow_succ, Nat.mul_comm]
      have e2 : 2 ^ lenN s = 2 * 2 ^ (lenN s - 1) := by
        obtain ⟨t, ht⟩ : ∃ t, lenN s = t + 1 := ⟨lenN s - 1, by omega⟩
        rw [ht, Nat.add_sub_cancel, Nat.pow_succ, Nat.mul_comm]
      refine lenU (by omega) (.inr ?_)
      rw [Nat.add_sub_cancel, e2]; omega
    -- the neighbours are great
    have hbig : 2 ^ 59 * P K E ≤ VN K (b + 1) := by
      have a1 : VN K b ≤ VN K (b + 1) := VN_le K hK (by omega)
      have a2 : 2 * X ≤ 2 * VN K (b + 1) * Y := Nat.le_trans hi (Nat.mul_le_mul_right _ (by omega))
      have a3 : s * P K E * Y < VN K (b + 1) * Y := by
        rw [Nat.mul_assoc 2] at a2; omega
      have a4 := Nat.lt_of_mul_lt_mul_right a3
      have a5 : 2 ^ 59 * P K E ≤ s * P K E := Nat.mul_le_mul_right _ (by omega)
      omega
    have hbig0 : 2 ^ 58 * P K E ≤ VN K b := by
      have := VN_double K hK hb0
      omega
    have hbigm : 2 ^ 55 * P K E ≤ VN K (b - 1) ∨ b - 1 = 0 := by
      rcases Nat.eq_zero_or_pos (b - 1) with h | h
      · exact .inr h
      · left
        have := VN_double K hK h
        rw [show b - 1 + 1 = b by omega] at this
        omega
    obtain ⟨g0, e0⟩ := VN_grid K hK (E := E) (by omega) hbigm
    obtain ⟨g1, e1⟩ := VN_grid K hK (E := E) (p := b) (by omega) (.inl (by omega))
    obtain ⟨g2, e2⟩ := VN_grid K hK (E := E) (p := b + 1) (by omega) (.inl (by omega))
    rw [e0, e1, ← Nat.add_mul, hP1] at lo
    rw [e1, e2, ← Nat.add_mul, hP1] at hi
    have hPY : 0 < P K E * Y := Nat.mul_pos (P_pos _ _) hY
    have k1 : g0 + g1 ≤ s := by
      have a1 : (g0 + g1) * (2 * P K E) * Y = 2 * ((g0 + g1) * (P K E * Y)) := by rw [Nat.mul_left_comm, Nat.mul_assoc, Nat.mul_assoc]
      rw [a1] at lo
      rw [Nat.mul_assoc] at m3
      have a2 : (g0 + g1) * (P K E * Y) < (s + 1) * (P K E * Y) := by omega
      have := Nat.lt_of_mul_lt_mul_right a2
      omega
    have k2 : s + 1 ≤ g1 + g2 := by
      have a1 : (g1 + g2) * (2 * P K E) * Y = 2 * ((g1 + g2) * (P K E * Y)) := by rw [Nat.mul_left_comm, Nat.mul_assoc, Nat.mul_assoc]
      rw [a1] at hi
      rw [Nat.mul_assoc] at m2
      have a2 : s * (P K E * Y) < (g1 + g2) * (P K E * Y) := by omega
      have := Nat.lt_of_mul_lt_mul_right a2
      omega
    have hPE := P_pos K E
    have k3 : VN K (b - 1) + VN K b < (2 * s + 1) * P K E := by
      rw [e0, e1, ← Nat.add_mul, hP1, Nat.mul_left_comm, ← Nat.mul_assoc]
      exact Nat.mul_lt_mul_of_pos_right (by omega) hPE
    have k4 : (2 * s + 1) * P K E < VN K b + VN K (b + 1) := by
      rw [e1, e2, ← Nat.add_mul, hP1, Nat.mul_left_comm, ← Nat.mul_assoc]
      exact Nat.mul_lt_mul_of_pos_right (by omega) hPE
    refine round_near N hN mi (E - 1) (2 * s + 1) K (by omega) (by omega) (by omega) (by omega) (by omega) hK (by omega) b hb0 hb ?_ ?_ ?_ ?_ <;> rw [hv] <;> omega
end Go.Proofs.YtcdhcihjcjpmkaaGreatDoor.Top
/- PLAIN FACTS on chapters 4 and 13, by values: a number known to many bits, moved up, and whether there is more, is rounded to the pattern that is nearest to the true one. No statement is proved here. -/
namespace Go.Proofs.YtcdhcihjcjpmkaaGreatDoor.Top
open Go Go.RowKit Go.Proofs.YtcdhcihjcjpmkaaGreatDoor.Eng Go.Proofs.YtcdhcihjcjpmkaaGreatDoor.Fns Go.Proofs.YtcdhcihjcjpmkaaGreatDoor.Bw Go.Proofs.YtcdhcihjcjpmkaaGreatDoor.Wid Go.Proofs.YtcdhcihjcjpmkaaGreatDoor.Patp
set_option linter.unusedVariables false
set_option linter.unusedSimpArgs false
theorem read_near2 (N : Nat) (hN : 300 ≤ N) (mi mo : Bool) (E : Int) (s : Nat) (K : Nat) (hs : s < 2 ^ 254) (hpos : 0 < s) (h0 : -90000 ≤ E) (h1 : E ≤ 90000) (hE : -(K : Int) ≤ E - 1) (hK : 1074 ≤ K) (hT : E + (lenN s : Int) ≤ 1024) (X Y : Nat) (hY : 0 < Y)
    (hmf : mo = false → s * P K E * Y = X) (hmt : mo = true → ∃ s0 k : Nat, s = s0 * 2 ^ k ∧ 2 ^ 60 ≤ s0 ∧ s0 * P K (E + k) * Y < X ∧ X < (s0 + 1) * P K (E + k) * Y)
    (b : Nat) (hb0 : 0 < b) (hb : b < 9218868437227405312) (lo : (VN K (b - 1) + VN K b) * Y ≤ 2 * X) (hi : 2 * X ≤ (VN K b + VN K (b + 1)) * Y) (tl : (VN K (b - 1) + VN K b) * Y = 2 * X → b % 2 = 0) (th : 2 * X = (VN K b + VN K (b + 1)) * Y → b % 2 = 0) :
    ∃ F, fn_rnd_Round N (mi, E, W s, mo) 0 = some (sg mi + (b : Int), F) := by
  cases mo
  · exact read_near N hN mi false E s K hs hpos h0 h1 hE hK hT X Y hY hmf (fun h => by cases h) b hb0 hb lo hi tl th
  · obtain ⟨s0, k, es, m1, m2, m3⟩ := hmt rfl
    rw [round_more2 N hN mi E s 0 hs (by omega) (by omega)]
    have hP2 : P K E = 2 * P K (E - 1) := by
      have := P_add K (E := E - 1) 1 (by omega)
      rw [show E - 1 + ((1 : Nat) : Int) = E by omega, Nat.pow_one, Nat.mul_comm] at this
      exact this
    have hPk : s * P K E = s0 * P K (E + k) := by
      rw [P_add K k (by omega), es]; ac_rfl
    have hPle : P K E ≤ P K (E + k) := P_le K (by omega)
    have hl : lenN (2 * s + 1) = lenN s + 1 := by
      obtain ⟨l1, _⟩ := lenN_spec s
      obtain ⟨l2, l3⟩ := len_pos (s := s) (by omega)
      have e1 : 2 ^ (lenN s + 1) = 2 * 2 ^ lenN s := by rw [Nat.pow_succ, Nat.mul_comm]
      have e2 : 2 ^ lenN s = 2 * 2 ^ (lenN s - 1) := by
        obtain ⟨t, ht⟩ : ∃ t, lenN s = t + 1 := ⟨lenN s - 1, by omega⟩
        rw [ht, Nat.add_sub_cancel, Nat.pow_succ, Nat.mul_comm]
      refine lenU (by omega) (.inr ?_)
      rw [Nat.add_sub_cancel, e2]; omega
    have hv : 2 * ((2 * s + 1) * P K (E - 1)) = (2 * s + 1) * P K E := by rw [hP2, Nat.mul_left_comm]
    have hPE := P_pos K E
    have hse : (2 * s + 1) * P K E = 2 * (s0 * P K (E + k)) + P K E := by rw [Nat.add_mul, Nat.one_mul, Nat.mul_assoc, hPk]
    obtain ⟨E0, hE0⟩ : ∃ E0, E0 = E + (k : Int) := ⟨_, rfl⟩
    rw [← hE0] at m2 m3 hPk hPle hse
    have hP1 : P K (E0 + 1) = 2 * P K E0 := by
      have := P_add K (E := E0) 1 (by omega)
      rw [show E0 + ((1 : Nat) : Int) = E0 + 1 by omega, Nat.pow_one, Nat.mul_comm] at this
      exact this
    -- the neighbours are great
    have hbig : 2 ^ 59 * P K E0 ≤ VN K (b + 1) := by
      have a1 : VN K b ≤ VN K (b + 1) := VN_le K hK (by omega)
      have a2 : 2 * X ≤ 2 * VN K (b + 1) * Y := Nat.le_trans hi (Nat.mul_le_mul_right _ (by omega))
      have a3 : s0 * P K E0 * Y < VN K (b + 1) * Y := by
        rw [Nat.mul_assoc 2] at a2; omega
      have a4 := Nat.lt_of_mul_lt_mul_right a3
      have a5 : 2 ^ 59 * P K E0 ≤ s0 * P K E0 := Nat.mul_le_mul_right _ (by omega)
      omega
    have hbig0 : 2 ^ 58 * P K E0 ≤ VN K b := by
      have := VN_double K hK hb0
      omega
    have hbigm : 2 ^ 55 * P K E0 ≤ VN K (b - 1) ∨ b - 1 = 0 := by
      rcases Nat.eq_zero_or_pos (b - 1) with h | h
      · exact .inr h
      · left
        have := VN_double K hK h
        rw [show b - 1 + 1 = b by omega] at this
        omega
    obtain ⟨g0, e0⟩ := VN_grid K hK (E := E0) (by omega) hbigm
    obtain ⟨g1, e1⟩ := VN_grid K hK (E := E0) (p := b) (by omega) (.inl (by omega))
    obtain ⟨g2, e2⟩ := VN_grid K hK (E := E0) (p := b + 1) (by omega) (.inl (by omega))
    rw [e0, e1, ← Nat.add_mul, hP1] at lo
    rw [e1, e2, ← Nat.add_mul, hP1] at hi
    have hPY : 0 < P K E0 * Y := Nat.mul_pos (P_pos _ _) hY
    have k1 : g0 + g1 ≤ s0 := by
      have a1 : (g0 + g1) * (2 * P K E0) * Y = 2 * ((g0 + g1) * (P K E0 * Y)) := by rw [Nat.mul_left_comm, Nat.mul_assoc, Nat.mul_assoc]
      rw [a1] at lo
      rw [Nat.mul_assoc] at m3
      have a2 : (g0 + g1) * (P K E0 * Y) < (s0 + 1) * (P K E0 * Y) := by omega
      have := Nat.lt_of_mul_lt_mul_right a2
      omega
    have k2 : s0 + 1 ≤ g1 + g2 := by
      have a1 : (g1 + g2) * (2 * P K E0) * Y = 2 * ((g1 + g2) * (P K E0 * Y)) := by rw [Nat.mul_left_comm, Nat.mul_assoc, Nat.mul_assoc]
      rw [a1] at hi
      rw [Nat.mul_assoc] at m2
      have a2 : s0 * (P K E0 * Y) < (g1 + g2) * (P K E0 * Y) := by omega
      have := Nat.lt_of_mul_lt_mul_right a2
      omega
    have k3 : VN K (b - 1) + VN K b < (2 * s + 1) * P K E := by
      rw [e0, e1, ← Nat.add_mul, hP1, hse, Nat.mul_left_comm (g0 + g1)]
      have := Nat.mul_le_mul_right (P K E0) k1
      omega
    have k4 : (2 * s + 1) * P K E < VN K b + VN K (b + 1) := by
      rw [e1, e2, ← Nat.add_mul, hP1, hse, Nat.mul_left_comm (g1 + g2)]
      have h := Nat.mul_le_mul_right (P K E0) k2
      rw [Nat.add_mul, Nat.one_mul] at h
      omega
    refine round_near N hN mi (E - 1) (2 * s + 1) K (by omega) (by omega) (by omega) (by omega) (by omega) hK (by omega) b hb0 hb ?_ ?_ ?_ ?_ <;> rw [hv] <;> omega
end Go.Proofs.YtcdhcihjcjpmkaaGreatDoor.Top
/- PLAIN FACTS on chapter 4, by values: what is a pattern's number is rounded to it by every mode, without flags. No statement is proved here. -/
namespace Go.Proofs.YtcdhcihjcjpmkaaGreatDoor.Top
open Go Go.RowKit Go.Proofs.YtcdhcihjcjpmkaaGreatDoor.Eng Go.Proofs.YtcdhcihjcjpmkaaGreatDoor.Fns Go.Proofs.YtcdhcihjcjpmkaaGreatDoor.Bw Go.Proofs.YtcdhcihjcjpmkaaGreatDoor.Wid Go.Proofs.YtcdhcihjcjpmkaaGreatDoor.Patp
set_option linter.unusedVariables false
set_option linter.unusedSimpArgs false
theorem round_same (N : Nat) (hN : 300 ≤ N) (mi : Bool) (E : Int) (s : Nat) (m : Int) (K : Nat) (hs : s < 2 ^ 256) (hpos : 0 < s) (h0 : -100000 ≤ E) (h1 : E ≤ 100000) (hE : -(K : Int) ≤ E) (hK : 1074 ≤ K) (hT : E + (lenN s : Int) ≤ 1024) (b : Nat) (hb : b < 9218868437227405312) (hv : VN K b = s * P K E) :
    fn_rnd_Round N (mi, E, W s, false) m = some (sg mi + (b : Int), 0) := by
  have hz : s ≠ 0 := by omega
  have hnear : fn_rnd_Num_near N (mi, E, W s, false) = some (mi, E, W s, false) := by
    show some (mi, minI (maxI E (-131072)) 131072, W s, false) = _
    have : minI (maxI E (-131072)) 131072 = E := by unfold minI maxI; split <;> split <;> omega
    rw [this]
  have hex : fn_rnd_Num_exact N (mi, E, W s, false) = some (mi, E, W s, false) := rfl
  obtain ⟨l1, l2⟩ := lenN_spec s
  have l3 : lenN s ≤ 256 := lenN_le hs
  obtain ⟨l4, l5⟩ := len_pos hpos
  have hlen := len_eq N hN s hs
  generalize lenN s = L at *
  have hmax : ∃ n, maxI (E + (L : Int) - 53) (-1074) = n ∧ ((n = E + L - 53 ∧ -1074 ≤ n) ∨ (n = -1074 ∧ E + L - 53 < n)) := by
    unfold maxI
    by_cases h : (-1074 : Int) > E + (L : Int) - 53
    · rw [if_pos h]; exact ⟨_, rfl, .inr ⟨rfl, by omega⟩⟩
    · rw [if_neg h]; exact ⟨_, rfl, .inl ⟨rfl, by omega⟩⟩
  obtain ⟨n, hn, hn2⟩ := hmax
  have hT' : addI .i64 E (L : Int) = E + L := addI_i (by omega) (by omega)
  have hS : subI .i64 (E + (L : Int)) 53 = E + L - 53 := subI_i (by omega) (by omega)
  have hc := cut_val N hN mi E n s hs (by omega) (by omega) (by omega) (by omega)
  have hq1 := qv_hi s L (n - E) l1 l3 (by omega)
  have hq2 : -1074 < n → 2 ^ 52 ≤ qv s (n - E) := fun hh => qv_lo s L (n - E) l1 l4 l5 l3 (by omega)
  have hq3 := qv_lt s (n - E) hs
  have hex2 : qv s (n - E) * P K n = s * P K E → Top.hb s (n - E) = false ∧ rb s (n - E) = false := by
    intro h
    refine exact_none fun hd => ?_
    obtain ⟨k, hk⟩ := Int.eq_ofNat_of_zero_le (Int.le_of_lt hd)
    rw [hk, qv_pos s k (by omega), show n = E + (k : Int) by omega, P_add K k hE, Nat.mul_comm (P K E), ← Nat.mul_assoc] at h
    have h2 := Nat.eq_of_mul_eq_mul_right (P_pos K E) h
    rw [hk, Int.toNat_natCast]
    have h3 := Nat.div_add_mod s (2 ^ k)
    rw [Nat.mul_comm] at h3
    omega
  have hsand : qv s (n - E) * P K n ≤ s * P K E ∧ s * P K E < (qv s (n - E) + 1) * P K n := by
    by_cases hd : 0 < n - E
    · have := qv_sand K s hE hd
      rwa [show E + (n - E) = n by omega] at this
    · have hbb : s * 2 ^ (-(n - E)).toNat < 2 ^ 256 := by
        have h3 : s * 2 ^ (-(n - E)).toNat < 2 ^ L * 2 ^ (-(n - E)).toNat := Nat.mul_lt_mul_of_pos_right l1 (Nat.pow_pos (by decide))
        rw [← Nat.pow_add] at h3
        exact Nat.lt_of_lt_of_le h3 (pow_le' (by omega))
      have := qv_same K s (E := E) (d := n - E) (by omega) (by omega) hpos hbb
      rw [show E + (n - E) = n by omega] at this
      rw [Nat.add_mul, this, Nat.one_mul]
      exact ⟨Nat.le_refl _, Nat.lt_add_of_pos_right (P_pos _ _)⟩
  -- the grid
  obtain ⟨q0, j0, eb, hq0, hj0, _⟩ := unpack b
  have hv2 := VN_pack K hK q0 j0 (by omega) hj0
  rw [← eb] at hv2
  have hg : ∃ c, s * P K E = c * P K n := by
    by_cases hna : n ≤ (j0 : Int) - 1074
    · rw [← hv, hv2]; exact grid K (by omega) hna q0
    · exfalso
      have g1 : 2 ^ (L - 1) * P K E ≤ s * P K E := Nat.mul_le_mul_right _ l5
      rw [Nat.mul_comm, ← P_add K _ hE, ← hv, hv2] at g1
      have g2 : q0 * P K ((j0 : Int) - 1074) < P K ((j0 : Int) - 1074 + ((53 : Nat) : Int)) := by
        rw [P_add K 53 (by omega), Nat.mul_comm (P K _)]
        exact Nat.mul_lt_mul_of_pos_right (by omega) (P_pos _ _)
      have g3 : P K ((j0 : Int) - 1074 + ((53 : Nat) : Int)) ≤ P K (E + ((L - 1 : Nat) : Int)) := P_le K (by omega)
      omega
  obtain ⟨c, hcc⟩ := hg
  generalize qv s (n - E) = q at *
  have hcq : c = q := by
    rw [hcc] at hsand
    exact grid_eq hsand.1 hsand.2
  rw [hcq] at hcc
  obtain ⟨z1, z2⟩ := hex2 hcc.symm
  rw [z1, z2] at hc
  obtain ⟨odd, ht⟩ := to_eq N hN (mi, E, W s, false) n q false false hq3 hc
  have ht := ht m
  rw [up_none, Bool.toNat_false, Nat.add_zero, Nat.mod_eq_of_lt hq3] at ht
  have hk : fn_rnd_Round N (mi, E, W s, false) m = tail N mi n (W q) m 0 := by
    rw [round_unf, hnear, Option.bind_some, hex, Option.bind_some]
    simp only
    rw [W_zero, W_eq hs (by decide), decide_eq_false hz, cond_false, hlen, Option.bind_some, hT', hS, hn, ht, Option.bind_some]
    rfl
  obtain ⟨j, hj⟩ := Int.eq_ofNat_of_zero_le (show 0 ≤ n + 1074 by omega)
  have p1 := VN_pack K hK q j (by omega) (fun hh => by have := hq2 (by omega); omega)
  rw [show (j : Int) - 1074 = n by omega, ← hcc, ← hv] at p1
  have hbq := VN_inj K hK p1
  rw [hk, tail_eq N hN mi n q m 0 (by omega) (by omega) (by omega) hq2, if_neg (by omega)]
  congr 2
  omega
end Go.Proofs.YtcdhcihjcjpmkaaGreatDoor.Top
