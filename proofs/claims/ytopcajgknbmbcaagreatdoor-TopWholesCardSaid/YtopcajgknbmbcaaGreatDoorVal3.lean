/- PLAIN FACTS on chapters 4 and 5, by values: what is a pattern's value is rounded to it; sums. No statement is proved here. -/
import Derived.Test.YtopcajgknbmbcaaGreatDoorVal2
namespace Go.Proofs.YtopcajgknbmbcaaGreatDoor.Top
open Go Go.RowKit Go.Proofs.YtopcajgknbmbcaaGreatDoor.Eng Go.Proofs.YtopcajgknbmbcaaGreatDoor.Fns Go.Proofs.YtopcajgknbmbcaaGreatDoor.Bw Go.Proofs.YtopcajgknbmbcaaGreatDoor.Wid Go.Proofs.YtopcajgknbmbcaaGreatDoor.Patp
set_option linter.unusedVariables false
set_option linter.unusedSimpArgs false
def sv (mi : Bool) (x : Nat) : Int := cond mi (-(x : Int)) (x : Int)
/-- the value of a pattern -/
def SV (K : Nat) (p : Int) : Int := sv (decide (9223372036854775808 ≤ p)) (VN K (sz p))
def okF (p : Int) : Prop := U p ∧ sz p < 9218868437227405312
theorem okF_sg (mi : Bool) {b : Nat} (h : b < 9218868437227405312) : okF (sg mi + b) := by
  refine ⟨⟨?_, ?_⟩, ?_⟩
  · cases mi <;> simp only [sg, cond_true, cond_false] <;> omega
  · cases mi <;> simp only [sg, cond_true, cond_false] <;> omega
  · rw [sz_sg mi b (by omega)]; exact h
theorem minus_sg (mi : Bool) {b : Nat} (h : b < 9223372036854775808) : decide ((9223372036854775808 : Int) ≤ sg mi + b) = mi := by
  cases mi
  · exact decide_eq_false (by simp only [sg, cond_false]; omega)
  · exact decide_eq_true (by simp only [sg, cond_true]; omega)
theorem SV_sg (K : Nat) (mi : Bool) {b : Nat} (h : b < 9223372036854775808) : SV K (sg mi + b) = sv mi (VN K b) := by
  unfold SV; rw [minus_sg mi h, sz_sg mi b h]
theorem pat_split {p : Int} (h : U p) : p = sg (decide (9223372036854775808 ≤ p)) + (sz p : Int) := by
  obtain ⟨h0, h1⟩ := h
  unfold sz
  by_cases h : 9223372036854775808 ≤ p
  · rw [decide_eq_true h]; simp only [sg, cond_true]; omega
  · rw [decide_eq_false h]; simp only [sg, cond_false]; omega
def Rep (K x : Nat) : Prop := ∃ t a, t < 2 ^ 53 ∧ (-1074 : Int) ≤ a ∧ x = t * P K a
theorem P_le (K : Nat) {a b : Int} (h : a ≤ b) : P K a ≤ P K b := pow_le' (by omega)
theorem P_lt (K : Nat) {a b : Int} (ha : -(K : Int) ≤ a) (h : a < b) : P K a < P K b := Nat.pow_lt_pow_right (by decide) (by omega)
theorem grid (K : Nat) {n a : Int} (hn : -(K : Int) ≤ n) (ha : n ≤ a) (k : Nat) : ∃ c, k * P K a = c * P K n := by
  obtain ⟨d, hd⟩ := Int.eq_ofNat_of_zero_le (show 0 ≤ a - n by omega)
  refine ⟨k * 2 ^ d, ?_⟩
  rw [show a = n + (d : Int) by omega, P_add K d hn, Nat.mul_assoc, Nat.mul_comm (2 ^ d)]
theorem grid_eq {q c p : Nat} (h1 : q * p ≤ c * p) (h2 : c * p < (q + 1) * p) : c = q := by
  have hp : 0 < p := by
    rcases Nat.eq_zero_or_pos p with h | h
    · subst h; simp at h2
    · exact h
  have := Nat.le_of_mul_le_mul_right h1 hp
  have := Nat.lt_of_mul_lt_mul_right h2
  omega
theorem len_pos {s : Nat} (h : 0 < s) : 1 ≤ lenN s ∧ 2 ^ (lenN s - 1) ≤ s := by
  obtain ⟨l1, l2⟩ := lenN_spec s
  rcases l2 with h' | h'
  · rw [h'] at l1; omega
  · refine ⟨?_, h'⟩
    rcases Nat.eq_zero_or_pos (lenN s) with h0 | h0
    · rw [h0] at l1; omega
    · exact h0
/-- a number's highest bit, by its value -/
theorem top_lt (K : Nat) {s : Nat} {E B : Int} (hs : 0 < s) (hE : -(K : Int) ≤ E) (h : s * P K E < P K B) : E + (lenN s : Int) ≤ B := by
  obtain ⟨l1, l2⟩ := len_pos hs
  have h1 : 2 ^ (lenN s - 1) * P K E < P K B := Nat.lt_of_le_of_lt (Nat.mul_le_mul_right _ l2) h
  rw [Nat.mul_comm, ← P_add K _ hE] at h1
  rcases Int.lt_or_le B (E + (lenN s : Int)) with h2 | h2
  · have : P K B ≤ P K (E + ((lenN s - 1 : Nat) : Int)) := P_le K (by omega)
    omega
  · exact h2
theorem round_zero (N : Nat) (mi : Bool) (E : Int) (m : Int) : fn_rnd_Round N (mi, E, W 0, false) m = some (sg mi, 0) := by
  obtain ⟨E0, hnear, e0, e1⟩ := near_eq N (mi, E, W 0, false)
  have hex : fn_rnd_Num_exact N (mi, E0, W 0, false) = some (mi, E0, W 0, false) := rfl
  have hz : eqL (W 0).1 (Vec.zero 4).1 = true := by rw [W_zero, W_eq (by decide) (by decide)]; rfl
  rw [round_unf, hnear, Option.bind_some, hex, Option.bind_some, hz, cond_true, sign_eq, Option.bind_some, copy_sg N 0 _ (by decide) (by decide), Option.bind_some, Int.add_zero]
theorem round_exact (N : Nat) (hN : 300 ≤ N) (mi : Bool) (E : Int) (s : Nat) (m : Int) (K : Nat) (hs : s < 2 ^ 256) (h0 : -100000 ≤ E) (h1 : E ≤ 100000) (hE : -(K : Int) ≤ E) (hK : 1074 ≤ K)
    (hT : s * P K E < P K 1000) (hr : Rep K (s * P K E)) : ∃ b : Nat, fn_rnd_Round N (mi, E, W s, false) m = some (sg mi + (b : Int), 0) ∧ b < 9218868437227405312 ∧ VN K b = s * P K E := by
  rcases Nat.eq_zero_or_pos s with hz | hpos
  · subst hz
    exact ⟨0, by rw [round_zero, show ((0 : Nat) : Int) = 0 from rfl, Int.add_zero], by decide, by rw [VN_zero, Nat.zero_mul]⟩
  · have hT2 := top_lt K hpos hE hT
    obtain ⟨b, u, F, n, q, r1, r2, r3, r4, r5, r6, r7, r8, r9, r10, r11, r12⟩ := round_val N hN mi E s m K hs hpos h0 h1 hE hK hT2
    obtain ⟨t, a, ht, ha, hta⟩ := hr
    have hg : ∃ c, s * P K E = c * P K n := by
      by_cases hna : n ≤ a
      · rw [hta]; exact grid K (by omega) hna t
      · exfalso
        have hn := r6 (by omega)
        obtain ⟨l1, l2⟩ := len_pos hpos
        have g1 : 2 ^ (lenN s - 1) * P K E ≤ s * P K E := Nat.mul_le_mul_right _ l2
        rw [Nat.mul_comm, ← P_add K _ hE] at g1
        have g2 : t * P K a < P K (a + ((53 : Nat) : Int)) := by
          rw [P_add K 53 (by omega), Nat.mul_comm (P K a)]
          exact Nat.mul_lt_mul_of_pos_right ht (P_pos _ _)
        have g3 : P K (a + ((53 : Nat) : Int)) ≤ P K (E + ((lenN s - 1 : Nat) : Int)) := P_le K (by omega)
        rw [hta] at g1
        omega
    obtain ⟨c, hc⟩ := hg
    have hcq : c = q := by rw [hc] at r9 r10; exact grid_eq r9 r10
    obtain ⟨hu, hF⟩ := r11 (by rw [hc, hcq])
    refine ⟨b, ?_, by omega, by rw [r7, hc, hcq]⟩
    rw [r1, hu, hF, cond_false, Int.add_zero]
theorem round_any (N : Nat) (hN : 300 ≤ N) (mi : Bool) (E : Int) (s : Nat) (m : Int) (K : Nat) (hs : s < 2 ^ 256) (h0 : -100000 ≤ E) (h1 : E ≤ 100000) (hE : -(K : Int) ≤ E) (hK : 1074 ≤ K)
    (hT : s * P K E < P K 1000) : ∃ (b : Nat) (f : Int), fn_rnd_Round N (mi, E, W s, false) m = some (sg mi + (b : Int), f) ∧ b < 9218868437227405312 := by
  rcases Nat.eq_zero_or_pos s with hz | hpos
  · subst hz
    exact ⟨0, 0, by rw [round_zero, show ((0 : Nat) : Int) = 0 from rfl, Int.add_zero], by decide⟩
  · obtain ⟨b, u, F, n, q, r1, r2, _⟩ := round_val N hN mi E s m K hs hpos h0 h1 hE hK (top_lt K hpos hE hT)
    refine ⟨b + u.toNat, F, ?_, ?_⟩
    · rw [r1]; congr 2; cases u <;> simp only [Bool.toNat_true, Bool.toNat_false, cond_true, cond_false] <;> omega
    · cases u <;> simp only [Bool.toNat_true, Bool.toNat_false] <;> omega
theorem len_al (K : Nat) {s t : Nat} {E F : Int} (hs : 0 < s) (hF : -(K : Int) ≤ F) (hFE : F ≤ E) (ht : t < 2 ^ 107) (h : s * P K E ≤ 2 ^ 60 * (t * P K F)) : (lenN s : Int) + E - F ≤ 168 := by
  obtain ⟨l1, l2⟩ := len_pos hs
  obtain ⟨d, hd⟩ := Int.eq_ofNat_of_zero_le (show 0 ≤ E - F by omega)
  rw [show E = F + (d : Int) by omega, P_add K d hF, Nat.mul_comm (P K F), ← Nat.mul_assoc, ← Nat.mul_assoc] at h
  have h2 := Nat.le_of_mul_le_mul_right h (P_pos K F)
  have h3 : 2 ^ (lenN s - 1) * 2 ^ d ≤ 2 ^ 60 * t := Nat.le_trans (Nat.mul_le_mul_right _ l2) h2
  rw [← Nat.pow_add] at h3
  have h4 : 2 ^ 60 * t < 2 ^ 167 := by omega
  rcases Nat.lt_or_ge (lenN s - 1 + d) 167 with h5 | h5
  · omega
  · have : 2 ^ 167 ≤ 2 ^ (lenN s - 1 + d) := pow_le' h5
    omega
theorem shl_val {s d : Nat} (h : lenN s + d < 250) : shlZ s (d : Int) = s * 2 ^ d ∧ s * 2 ^ d < 2 ^ 250 := by
  obtain ⟨l1, _⟩ := lenN_spec s
  have h3 : s * 2 ^ d < 2 ^ lenN s * 2 ^ d := Nat.mul_lt_mul_of_pos_right l1 (Nat.pow_pos (by decide))
  rw [← Nat.pow_add] at h3
  have h4 := Nat.lt_of_lt_of_le h3 (pow_le' (show lenN s + d ≤ 250 by omega))
  refine ⟨?_, h4⟩
  unfold shlZ
  by_cases h1 : (d : Int) < 1
  · rw [if_pos h1, show d = 0 by omega, Nat.pow_zero, Nat.mul_one]
  · rw [if_neg h1, if_neg (by omega), Int.toNat_natCast, Nat.mod_eq_of_lt (by omega)]
theorem cmp3 (x y : Nat) : cmpZ x y = if x < y then -1 else if x = y then 0 else 1 := rfl
theorem aligned_val (N : Nat) (hN : 300 ≤ N) (K : Nat) (mi mi2 : Bool) (E E2 : Int) (s s2 : Nat) (m : Int) (hs2 : s2 < 2 ^ 107) (hE2 : -(K : Int) ≤ E2) (hle : E2 ≤ E) (b0 : -100000 ≤ E2) (b1 : E ≤ 100000) (hl : (lenN s : Int) + E - E2 ≤ 168) :
    ∃ mi3 E3 s3, fn_sums_aligned N (mi, E, W s, false) (mi2, E2, W s2, false) m = some (mi3, E3, W s3, false) ∧ s3 < 2 ^ 256 ∧ sv mi3 (s3 * P K E3) = sv mi (s * P K E) + sv mi2 (s2 * P K E2) ∧ (E3 = E2 ∨ (E3 = 0 ∧ s3 = 0)) := by
  obtain ⟨d, hd⟩ := Int.eq_ofNat_of_zero_le (show 0 ≤ E - E2 by omega)
  obtain ⟨e1, e2⟩ := shl_val (s := s) (d := d) (by omega)
  have hv : s * P K E = s * 2 ^ d * P K E2 := by rw [show E = E2 + (d : Int) by omega, P_add K d hE2, Nat.mul_comm (P K E2), ← Nat.mul_assoc]
  unfold fn_sums_aligned
  simp only
  rw [subI_i (by omega) (by omega), hd, shl_eq N hN, Option.bind_some, e1, hv]
  generalize s * 2 ^ d = x at e2 ⊢
  have hx : x < 2 ^ 256 := by omega
  have hs2' : s2 < 2 ^ 256 := by omega
  by_cases hm : mi = mi2
  · subst hm
    rw [show eqB mi mi = true by cases mi <;> rfl, cond_true, add_eq N hN _ _ hx hs2', Option.bind_some]
    refine ⟨mi, E2, x + s2, ?_, by omega, ?_, .inl rfl⟩
    · rw [Nat.mod_eq_of_lt (by omega)]
    · rw [Nat.add_mul]
      generalize x * P K E2 = a
      generalize s2 * P K E2 = b
      cases mi <;> simp only [sv, cond_true, cond_false] <;> omega
  · rw [show eqB mi mi2 = false by cases mi <;> cases mi2 <;> first | rfl | exact absurd rfl hm, cond_false, cmp_eq N hN _ _ hx hs2', Option.bind_some, cmp3]
    by_cases hlt : x < s2
    · rw [if_pos hlt, show eqI (-1) 0 = false from rfl, cond_false, show eqI (-1) 1 = false from rfl, cond_false, sub_eq N hN _ _ hs2' hx, Option.bind_some]
      refine ⟨mi2, E2, s2 - x, ?_, by omega, ?_, .inl rfl⟩
      · rw [show (2 ^ 256 + s2 - x) % 2 ^ 256 = s2 - x by omega]
      · have := Nat.sub_mul s2 x (P K E2)
        have hle := Nat.mul_le_mul_right (P K E2) (Nat.le_of_lt hlt)
        rw [this]
        generalize x * P K E2 = a at *
        generalize s2 * P K E2 = b at *
        cases mi <;> cases mi2 <;> simp only [sv, cond_true, cond_false] <;> first | omega | exact absurd rfl hm
    · rw [if_neg hlt]
      by_cases heq : x = s2
      · rw [if_pos heq, show eqI 0 0 = true from rfl, cond_true]
        refine ⟨eqI m 4, 0, 0, ?_, by decide, ?_, .inr ⟨rfl, rfl⟩⟩
        · unfold fn_sums_nought
          rw [show eqB false true = false from rfl, cond_false, Option.bind_some, W_zero]
        · rw [heq, Nat.zero_mul]
          generalize s2 * P K E2 = b
          cases mi <;> cases mi2 <;> cases eqI m 4 <;> simp only [sv, cond_true, cond_false] <;> first | omega | exact absurd rfl hm
      · rw [if_neg heq, show eqI 1 0 = false from rfl, cond_false, show eqI 1 1 = true from rfl, cond_true, sub_eq N hN _ _ hx hs2', Option.bind_some]
        refine ⟨mi, E2, x - s2, ?_, by omega, ?_, .inl rfl⟩
        · rw [show (2 ^ 256 + x - s2) % 2 ^ 256 = x - s2 by omega]
        · have := Nat.sub_mul x s2 (P K E2)
          have hle := Nat.mul_le_mul_right (P K E2) (show s2 ≤ x by omega)
          rw [this]
          generalize x * P K E2 = a at *
          generalize s2 * P K E2 = b at *
          cases mi <;> cases mi2 <;> simp only [sv, cond_true, cond_false] <;> first | omega | exact absurd rfl hm
theorem bndE {α β : Type} {o : Option α} {v : α} {K : α → Option β} {w : Option β} (h : o = some v) (hk : K v = w) : (o.bind K) = w := by rw [h]; exact hk
theorem sv_zero (mi : Bool) : sv mi 0 = 0 := by cases mi <;> rfl
theorem join_val (N : Nat) (hN : 300 ≤ N) (K : Nat) (mi mi2 : Bool) (E E2 : Int) (s s2 : Nat) (m : Int) (hs : s < 2 ^ 107) (hs2 : s2 < 2 ^ 107) (hE : -(K : Int) ≤ E) (hE2 : -(K : Int) ≤ E2) (b0 : -50000 ≤ E) (b1 : E ≤ 50000) (b2 : -50000 ≤ E2) (b3 : E2 ≤ 50000)
    (hal : 0 < s → 0 < s2 → s * P K E ≤ 2 ^ 60 * (s2 * P K E2) ∧ s2 * P K E2 ≤ 2 ^ 60 * (s * P K E)) :
    ∃ mi3 E3 s3, fn_sums_join N (mi, E, W s, false) (mi2, E2, W s2, false) m = some (mi3, E3, W s3, false) ∧ s3 < 2 ^ 256 ∧ sv mi3 (s3 * P K E3) = sv mi (s * P K E) + sv mi2 (s2 * P K E2) ∧ (E3 = E ∨ E3 = E2 ∨ (E3 = 0 ∧ s3 = 0)) := by
  have z1 : eqL (W s).1 (Vec.zero 4).1 = decide (s = 0) := by rw [W_zero, W_eq (by omega) (by decide)]
  have z2 : eqL (W s2).1 (Vec.zero 4).1 = decide (s2 = 0) := by rw [W_zero, W_eq (by omega) (by decide)]
  unfold fn_sums_join
  simp only
  rw [z1, z2]
  rcases Nat.eq_zero_or_pos s with h | h
  · rw [decide_eq_true h, cond_true, cond_true, h, Nat.zero_mul, sv_zero, Int.zero_add]
    rcases Nat.eq_zero_or_pos s2 with h2 | h2
    · rw [decide_eq_true h2, cond_true, h2, Nat.zero_mul, sv_zero]
      unfold fn_sums_nought
      cases eqB mi mi2
      · exact ⟨_, 0, 0, by rw [cond_false, Option.bind_some, W_zero], by decide, by rw [Nat.zero_mul, sv_zero], .inr (.inr ⟨rfl, rfl⟩)⟩
      · exact ⟨_, 0, 0, by rw [cond_true, Option.bind_some, W_zero], by decide, by rw [Nat.zero_mul, sv_zero], .inr (.inr ⟨rfl, rfl⟩)⟩
    · rw [decide_eq_false (by omega), cond_false]
      exact ⟨mi2, E2, s2, rfl, by omega, rfl, .inr (.inl rfl)⟩
  · rw [decide_eq_false (show ¬ s = 0 by omega), cond_false, cond_false]
    rcases Nat.eq_zero_or_pos s2 with h2 | h2
    · rw [decide_eq_true h2, cond_true, h2, Nat.zero_mul, sv_zero, Int.add_zero]
      exact ⟨mi, E, s, rfl, by omega, rfl, .inl rfl⟩
    · rw [decide_eq_false (show ¬ s2 = 0 by omega), cond_false]
      obtain ⟨a1, a2⟩ := hal h h2
      have l1 : lenN s ≤ 107 := lenN_le hs
      have l2 : lenN s2 ≤ 107 := lenN_le hs2
      by_cases hlt : E < E2
      · have hl := len_al K h2 hE (by omega) hs a2
        obtain ⟨mi3, E3, s3, r1, r2, r3, r4⟩ := aligned_val N hN K mi2 mi E2 E s2 s m hs hE (by omega) (by omega) (by omega) hl
        refine ⟨mi3, E3, s3, ?_, r2, by rw [r3, Int.add_comm], by omega⟩
        rw [ltI_t hlt, cond_true]
        refine bndE (len_eq N hN s2 (by omega)) ?_
        rw [addI_i (by omega) (by omega), subI_i (by omega) (by omega), ltI_t (by omega), cond_true]
        exact bndE r1 rfl
      · have hl := len_al K h hE2 (by omega) hs2 a1
        obtain ⟨mi3, E3, s3, r1, r2, r3, r4⟩ := aligned_val N hN K mi mi2 E E2 s s2 m hs2 hE2 (by omega) (by omega) (by omega) hl
        refine ⟨mi3, E3, s3, ?_, r2, r3, by omega⟩
        rw [ltI_f hlt, cond_false]
        refine bndE (len_eq N hN s (by omega)) ?_
        rw [addI_i (by omega) (by omega), subI_i (by omega) (by omega), ltI_t (by omega), cond_true]
        exact bndE r1 rfl
end Go.Proofs.YtopcajgknbmbcaaGreatDoor.Top
