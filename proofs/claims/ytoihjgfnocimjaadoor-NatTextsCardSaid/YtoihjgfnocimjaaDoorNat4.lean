/- PLAIN FACTS on the program's numbers of chapter 2: down, short, guess, take, parts (Knuth's way). No statement is proved here. -/
import Derived.Test.YtoihjgfnocimjaaDoorNat2
namespace Go.Proofs.YtoihjgfnocimjaaDoor.Nt
open Go Go.RowKit Go.Proofs.YtoihjgfnocimjaaDoor.Eng Go.Proofs.YtoihjgfnocimjaaDoor.Fns Go.Proofs.YtoihjgfnocimjaaDoor.Bw Go.Proofs.YtoihjgfnocimjaaDoor.Dig
open Go.Proofs.YtoihjgfnocimjaaDoor.Rn (Y b32 cmpZ)
set_option linter.unusedVariables false
set_option linter.unusedSimpArgs false
theorem hilo (r a : Nat) (hr : r < 4294967296) (ha : a < 4294967296) : orI .u64 (shlI .u64 (r : Int) 32) (a : Int) = ((r * 4294967296 + a : Nat) : Int) := by
  rw [show (32 : Int) = ((32 : Nat) : Int) from rfl, shlI_n (by omega), show (2 : Nat) ^ 32 = 4294967296 from rfl, Nat.mod_eq_of_lt (by omega), orI_n (by omega) (by omega)]
  congr 1
  have := Nat.two_pow_add_eq_or_of_lt (i := 32) (b := a) (by omega) r
  rw [show (2 : Nat) ^ 32 = 4294967296 from rfl, Nat.mul_comm] at this
  exact this.symm
theorem lohi (r a : Nat) (hr : r < 4294967296) (ha : a < 4294967296) : orI .u64 (a : Int) (shlI .u64 (r : Int) 32) = ((r * 4294967296 + a : Nat) : Int) := by
  have h := hilo r a hr ha
  rw [show (32 : Int) = ((32 : Nat) : Int) from rfl, shlI_n (by omega), show (2 : Nat) ^ 32 = 4294967296 from rfl, Nat.mod_eq_of_lt (by omega), orI_n (by omega) (by omega)] at h ⊢
  rw [Nat.or_comm]; exact h
/-- parting, a digit more -/
theorem div_step (m n i : Nat) (hn : 0 < n) : m / 4294967296 ^ i / n = (m / 4294967296 ^ i % 4294967296 + 4294967296 * (m / 4294967296 ^ (i + 1) % n)) / n + 4294967296 * (m / 4294967296 ^ (i + 1) / n) ∧
    m / 4294967296 ^ i % n = (m / 4294967296 ^ i % 4294967296 + 4294967296 * (m / 4294967296 ^ (i + 1) % n)) % n ∧ m / 4294967296 ^ i % 4294967296 + 4294967296 * (m / 4294967296 ^ (i + 1) % n) < 4294967296 * n := by
  have hr : m / 4294967296 ^ (i + 1) % n < n := Nat.mod_lt _ hn
  have ha : m / 4294967296 ^ i % 4294967296 < 4294967296 := Nat.mod_lt _ (by decide)
  have hM : m / 4294967296 ^ i = 4294967296 * (m / 4294967296 ^ (i + 1)) + m / 4294967296 ^ i % 4294967296 := by
    rw [Nat.pow_succ, ← Nat.div_div_eq_div_mul]; exact (Nat.div_add_mod _ _).symm
  have hMn := Nat.div_add_mod (m / 4294967296 ^ (i + 1)) n
  generalize hR : m / 4294967296 ^ i % 4294967296 + 4294967296 * (m / 4294967296 ^ (i + 1) % n) = R at *
  have hMR : m / 4294967296 ^ i = R + n * (4294967296 * (m / 4294967296 ^ (i + 1) / n)) := by
    have e5 : n * (4294967296 * (m / 4294967296 ^ (i + 1) / n)) = 4294967296 * (n * (m / 4294967296 ^ (i + 1) / n)) := by rw [← Nat.mul_assoc, Nat.mul_comm n, Nat.mul_assoc]
    rw [e5]; omega
  refine ⟨?_, ?_, by omega⟩
  · rw [hMR, Nat.add_mul_div_left _ _ hn]
  · rw [hMR, Nat.add_mul_mod_self_left]
theorem T_putq {L i A q : Nat} (hi : i < L) (hq : q < 4294967296) : (T 4294967296 L (A * 4294967296 ^ (i + 1))).set i (q : Int) = T 4294967296 L ((q + 4294967296 * A) * 4294967296 ^ i) := by
  rw [T_set b32 hi hq]
  have e7 : A * 4294967296 ^ (i + 1) % 4294967296 ^ i = 0 := by
    rw [Nat.pow_succ, Nat.mul_comm (4294967296 ^ i), ← Nat.mul_assoc]; exact Nat.mul_mod_left ..
  have e8 : A * 4294967296 ^ (i + 1) / 4294967296 ^ (i + 1) = A := Nat.mul_div_cancel _ (p32 _)
  rw [e7, e8, Nat.zero_add, Nat.add_mul, Nat.pow_succ, Nat.mul_comm q, Nat.mul_assoc, Nat.mul_assoc]
  congr 2
  rw [Nat.mul_left_comm, Nat.mul_comm A]
theorem short_loop (N m n : Nat) (hn : 0 < n) (hn2 : n < 4294967296) (hN : dl 4294967296 m < N) (hN2 : N < 17592186044416) : ∀ (j f : Nat), j ≤ dl 4294967296 m → j < f →
    l45_0 N f (Y m) (n : Int) ((m / 4294967296 ^ j % n : Nat) : Int) ((j : Int) - 1) (T 4294967296 (dl 4294967296 m) (m / 4294967296 ^ j / n * 4294967296 ^ j)) = some (Y (m / n), ((m % n : Nat) : Int)) := by
  have hml := dl_lt b32 m
  intro j
  induction j with
  | zero =>
    intro f hj hf
    obtain ⟨f, rfl⟩ : ∃ n', f = n' + 1 := ⟨f - 1, by omega⟩
    show s45_0 N _ _ _ _ _ _ = _
    unfold s45_0
    have hlt := Nat.mod_lt m hn
    rw [leI_f (by omega), cond_false, Nat.pow_zero, Nat.div_one, Nat.mul_one, trim_eq N _ _ (by omega) hN (Nat.lt_of_le_of_lt (Nat.div_le_self _ _) hml), Option.bind_some, cvN (by simp only [lim]; omega)]
  | succ i ih =>
    intro f hj hf
    obtain ⟨f, rfl⟩ : ∃ n', f = n' + 1 := ⟨f - 1, by omega⟩
    have ih := ih f (by omega) (by omega)
    show s45_0 N (l45_0 N f) _ _ _ _ _ = _
    unfold s45_0
    obtain ⟨h1, h2, h3⟩ := div_step m n i hn
    have hr : m / 4294967296 ^ (i + 1) % n < n := Nat.mod_lt _ hn
    have ha : m / 4294967296 ^ i % 4294967296 < 4294967296 := Nat.mod_lt _ (by decide)
    have e0 : ((i + 1 : Nat) : Int) - 1 = (i : Int) := by omega
    have e1 : subI .i64 (i : Int) 1 = (i : Int) - 1 := subI_i (by omega) (by omega)
    have hq : (m / 4294967296 ^ i % 4294967296 + 4294967296 * (m / 4294967296 ^ (i + 1) % n)) / n < 4294967296 := by rw [Nat.div_lt_iff_lt_mul hn]; exact h3
    rw [e0, e1, leI_t (by omega), cond_true, cond_true, D_len, ltI_t (by omega), cond_true, cvN (k := .u64) (a := n) (by simp only [lim]; omega), eqI_f (by omega), cond_false, cond_true, T_len, ltI_t (by omega), cond_true, cond_false,
      lrd_D b32, cvN (k := .u64) (by simp only [lim]; omega), hilo _ _ (by omega) ha, Nat.mul_comm _ 4294967296, Nat.add_comm (4294967296 * _) _, remN, quoN (by simp only [lim]; omega), cvU32, Nat.mod_eq_of_lt hq, Int.toNat_natCast, T_putq (by omega) hq, ← h1, ← h2]
    exact ih
theorem short_eq (N m n : Nat) (hn : 0 < n) (hn2 : n < 4294967296) (hN : dl 4294967296 m < N) (hN2 : N < 17592186044416) : fn_nat_short N (Y m) (n : Int) = some (Y (m / n), ((m % n : Nat) : Int)) := by
  unfold fn_nat_short t45
  have h := short_loop N m n hn hn2 hN hN2 (dl 4294967296 m) N (Nat.le_refl _) hN
  have h0 : m / 4294967296 ^ dl 4294967296 m = 0 := Nat.div_eq_of_lt (dl_lt b32 m)
  rw [h0, Nat.zero_mod, Nat.zero_div, Nat.zero_mul, T_nought (by decide)] at h
  have e1 : subI .i64 (dl 4294967296 m : Int) 1 = (dl 4294967296 m : Int) - 1 := subI_i (by omega) (by omega)
  rw [D_len, leI_t (by omega), cond_true, leI_t (by omega), cond_true, Int.toNat_natCast, e1]
  exact h
/-! ### moved down -/
theorem down_digit (x i s : Nat) (hs : s ≤ 32) : ((x / 4294967296 ^ (i + 1) % 4294967296) * 4294967296 + x / 4294967296 ^ i % 4294967296) / 2 ^ s % 4294967296 = x / 2 ^ s / 4294967296 ^ i % 4294967296 := by
  have e1 : x / 4294967296 ^ (i + 1) % 4294967296 * 4294967296 + x / 4294967296 ^ i % 4294967296 = x / 4294967296 ^ i % (4294967296 * 4294967296) := by
    rw [Nat.mod_mul, Nat.pow_succ, ← Nat.div_div_eq_div_mul]; omega
  rw [e1]
  have e2 : x / 2 ^ s / 4294967296 ^ i = x / 4294967296 ^ i / 2 ^ s := by rw [Nat.div_div_eq_div_mul, Nat.div_div_eq_div_mul, Nat.mul_comm]
  rw [e2]
  generalize x / 4294967296 ^ i = z
  have e3 : 4294967296 * 4294967296 = 2 ^ s * 2 ^ (64 - s) := by rw [← Nat.pow_add, show s + (64 - s) = 64 by omega]
  rw [e3, Nat.mod_mul_right_div_self]
  exact Nat.mod_mod_of_dvd _ (by
    rw [show (4294967296 : Nat) = 2 ^ 32 from rfl]
    exact Nat.pow_dvd_pow 2 (by omega))
theorem down_loop (N n s : Nat) (hs : s ≤ 32) (hN : dl 4294967296 n < N) (hN2 : N < 17592186044416) : ∀ (r i f : Nat), i + r = dl 4294967296 n → r < f →
    l64_0 N f (Y n) (s : Int) (dl 4294967296 n : Int) (i : Int) (T 4294967296 (dl 4294967296 n) (n / 2 ^ s % 4294967296 ^ i)) = some (Y (n / 2 ^ s)) := by
  have hlt : n / 2 ^ s < 4294967296 ^ dl 4294967296 n := Nat.lt_of_le_of_lt (Nat.div_le_self _ _) (dl_lt b32 n)
  intro r
  induction r with
  | zero =>
    intro i f hi hf
    obtain ⟨f, rfl⟩ : ∃ n', f = n' + 1 := ⟨f - 1, by omega⟩
    show s64_0 N _ _ _ _ _ _ = _
    unfold s64_0
    have hi2 : i = dl 4294967296 n := by omega
    rw [ltI_f (by omega), cond_false, hi2, Nat.mod_eq_of_lt hlt, trim_eq N _ _ (by omega) hN hlt, Option.bind_some]
  | succ r ih =>
    intro i f hi hf
    obtain ⟨f, rfl⟩ : ∃ n', f = n' + 1 := ⟨f - 1, by omega⟩
    show s64_0 N (l64_0 N f) _ _ _ _ _ = _
    unfold s64_0
    have h1 := Nat.mod_lt (n / 4294967296 ^ i) (show 0 < 4294967296 by decide)
    have h2 := Nat.mod_lt (n / 4294967296 ^ (i + 1)) (show 0 < 4294967296 by decide)
    rw [ltI_t (by omega), cond_true, at_eq, Option.bind_some, succI i (by omega), at_eq, Option.bind_some, ltI_f (by omega), cond_false, leI_t (by omega), cond_true, T_len, ltI_t (by omega), cond_true, lohi _ _ h2 h1, shrN (by simp only [IntKind.bits]; omega), cvU32, down_digit n i s hs, Int.toNat_natCast, T_put b32 (by omega)]
    exact ih (i + 1) f (by omega) (by omega)
theorem down_eq (N n s : Nat) (hs : s ≤ 32) (hN : dl 4294967296 n < N) (hN2 : N < 17592186044416) : fn_nat_down N (Y n) (s : Int) = some (Y (n / 2 ^ s)) := by
  unfold fn_nat_down t64
  have h := down_loop N n s hs hN hN2 (dl 4294967296 n) 0 N (by omega) hN
  rw [Nat.pow_zero, Nat.mod_one, T_nought (by decide)] at h
  rw [D_len, leI_t (by omega), cond_true, leI_t (by omega), cond_true, Int.toNat_natCast, List.length_replicate]
  exact h
/-! ### the guess -/
theorem guess_loop (N : Nat) (x : Vec 3) (y : Vec 2) (t2 v1 v2 n G V : Nat) (hVV : V = v1 * 4294967296 + v2) (h0 : Vec.rd y 0 = (v1 : Int)) (h1 : Vec.rd y 1 = (v2 : Int)) (h2 : Vec.rd x 2 = (t2 : Int)) (hv : 2147483648 ≤ v1) (hv1 : v1 < 4294967296) (hv2 : v2 < 4294967296) (ht : t2 < 4294967296) (hn : n < 4294967296 * v1 + 4294967296)
    (hG : G = min ((n * 4294967296 + t2) / V) (4294967296 - 1)) : ∀ (k f q r : Nat), q * v1 + r = n → r < 4294967296 → G ≤ q → q ≤ 4294967296 + 1 → 4294967296 ≤ r + k * v1 → k < f → l62_0 N f (q : Int) (r : Int) x y = some (G : Int) := by
  have hV : 0 < V := by omega
  intro k
  induction k with
  | zero => intro f q r _ hr _ _ hk _; omega
  | succ k ih =>
    intro f q r hqr hr hGq hq hk hf
    obtain ⟨f, rfl⟩ : ∃ n', f = n' + 1 := ⟨f - 1, by omega⟩
    show s62_0 N (l62_0 N f) _ _ _ _ = _
    unfold s62_0
    have hnb : n * 4294967296 = q * v1 * 4294967296 + r * 4294967296 := by rw [← hqr, Nat.add_mul]
    have hqv : q * v2 ≤ (4294967296 + 1) * (4294967296 - 1) := Nat.mul_le_mul hq (by omega)
    have hqV : q * V = q * v1 * 4294967296 + q * v2 := by rw [hVV, Nat.mul_add, Nat.mul_assoc]
    -- one less
    have dec : G ≤ q - 1 → 0 < q → cond (leI 4294967296 (addI .u64 (r : Int) (cvI .u64 (Vec.rd y 0)))) (some (subI .u64 (q : Int) 1)) (l62_0 N f (subI .u64 (q : Int) 1) (addI .u64 (r : Int) (cvI .u64 (Vec.rd y 0))) x y) = some (G : Int) := by
      intro hd hq0
      have e2 : subI .u64 (q : Int) 1 = ((q - 1 : Nat) : Int) := by
        have := subN (k := .u64) (a := q) (b := 1) (by omega) (by simp only [lim]; omega)
        rwa [show ((1 : Nat) : Int) = 1 from rfl] at this
      rw [h0, cvN (by simp only [lim]; omega), addN (by simp only [lim]; omega), e2]
      obtain ⟨p, rfl⟩ : ∃ p, q = p + 1 := ⟨q - 1, by omega⟩
      rw [Nat.add_sub_cancel] at *
      have e3 : p * v1 + (r + v1) = n := by rw [← hqr, Nat.add_mul, Nat.one_mul]; omega
      by_cases hb : 4294967296 ≤ r + v1
      · rw [leI_t (by omega), cond_true]
        have hp : p < 4294967296 := by
          apply Nat.lt_of_mul_lt_mul_right (a := v1)
          omega
        have e4 : n * 4294967296 = p * v1 * 4294967296 + (r + v1) * 4294967296 := by rw [← e3, Nat.add_mul]
        have e5 : p * V = p * v1 * 4294967296 + p * v2 := by rw [hVV, Nat.mul_add, Nat.mul_assoc]
        have e6 : p * v2 ≤ (4294967296 - 1) * (4294967296 - 1) := Nat.mul_le_mul (by omega) (by omega)
        have e7 : 4294967296 * 4294967296 ≤ (r + v1) * 4294967296 := Nat.mul_le_mul_right _ hb
        have e8 : p ≤ (n * 4294967296 + t2) / V := by
          rw [Nat.le_div_iff_mul_le hV, e5, e4]; omega
        have e9 : p ≤ G := by rw [hG]; exact Nat.le_min.2 ⟨e8, by omega⟩
        rw [Nat.le_antisymm hd e9]
      · rw [leI_f (by omega), cond_false]
        refine ih f p (r + v1) e3 (by omega) hd (by omega) ?_ (by omega)
        rw [Nat.add_mul, Nat.one_mul] at hk; omega
    by_cases hbig : 4294967296 ≤ q
    · rw [leI_t (by omega), cond_true]
      refine dec ?_ (by omega)
      have : G ≤ 4294967296 - 1 := by rw [hG]; exact Nat.min_le_right _ _
      omega
    · rw [leI_f (by omega), cond_false, h1, h2, cvN (k := .u64) (a := v2) (by simp only [lim]; omega), cvN (k := .u64) (a := t2) (by simp only [lim]; omega), hilo r t2 hr ht, mulN (by simp only [lim]; omega), lt_n]
      by_cases hlt : r * 4294967296 + t2 < q * v2
      · rw [decide_eq_true hlt, cond_true]
        have h3 : (n * 4294967296 + t2) / V < q := by
          rw [Nat.div_lt_iff_lt_mul hV, hqV, hnb, Nat.add_assoc]; exact Nat.add_lt_add_left hlt _
        have h4 : G ≤ (n * 4294967296 + t2) / V := by rw [hG]; exact Nat.min_le_left _ _
        exact dec (by omega) (by omega)
      · rw [decide_eq_false hlt, cond_false]
        have e8 : q ≤ (n * 4294967296 + t2) / V := by
          rw [Nat.le_div_iff_mul_le hV, hqV]; omega
        have e9 : q ≤ G := by rw [hG]; exact Nat.le_min.2 ⟨e8, by omega⟩
        rw [Nat.le_antisymm hGq e9]
theorem guess_eq (N : Nat) (hN : 3 < N) (x : Vec 3) (y : Vec 2) (t0 t1 t2 v1 v2 : Nat) (h0 : Vec.rd y 0 = (v1 : Int)) (h1 : Vec.rd y 1 = (v2 : Int)) (g0 : Vec.rd x 0 = (t0 : Int)) (g1 : Vec.rd x 1 = (t1 : Int)) (g2 : Vec.rd x 2 = (t2 : Int))
    (hv : 2147483648 ≤ v1) (hv1 : v1 < 4294967296) (hv2 : v2 < 4294967296) (ht0 : t0 ≤ v1) (ht1 : t1 < 4294967296) (ht2 : t2 < 4294967296) :
    fn_nat_guess N x y = some ((min (((t0 * 4294967296 + t1) * 4294967296 + t2) / (v1 * 4294967296 + v2)) (4294967296 - 1) : Nat) : Int) := by
  unfold fn_nat_guess t62
  have hd := Nat.div_add_mod (t0 * 4294967296 + t1) v1
  have hm := Nat.mod_lt (t0 * 4294967296 + t1) (show 0 < v1 by omega)
  have hn : t0 * 4294967296 + t1 < 4294967296 * v1 + 4294967296 := by omega
  obtain ⟨V, hVV⟩ : ∃ V, V = v1 * 4294967296 + v2 := ⟨_, rfl⟩
  rw [← hVV]
  have hV : 0 < V := by omega
  have hq : (t0 * 4294967296 + t1) / v1 ≤ 4294967296 + 1 := by
    rw [← Nat.lt_succ_iff, Nat.div_lt_iff_lt_mul (by omega)]; omega
  have hG : min (((t0 * 4294967296 + t1) * 4294967296 + t2) / V) (4294967296 - 1) ≤ (t0 * 4294967296 + t1) / v1 := by
    refine Nat.le_trans (Nat.min_le_left _ _) ?_
    rw [Nat.le_div_iff_mul_le (by omega)]
    refine (fun (key : ∀ g, g * V ≤ (t0 * 4294967296 + t1) * 4294967296 + t2 → g * v1 ≤ t0 * 4294967296 + t1) => key _ (Nat.div_mul_le_self _ _)) ?_
    intro g h5
    have h6 : g * V = g * v1 * 4294967296 + g * v2 := by rw [hVV, Nat.mul_add, Nat.mul_assoc]
    rw [h6] at h5
    have h7 : g * v1 * 4294967296 < (t0 * 4294967296 + t1 + 1) * 4294967296 := by
      rw [Nat.add_mul (t0 * 4294967296 + t1) 1, Nat.one_mul]
      exact Nat.lt_of_le_of_lt (Nat.le_trans (Nat.le_add_right _ _) h5) (Nat.add_lt_add_left ht2 _)
    exact Nat.le_of_lt_succ (Nat.lt_of_mul_lt_mul_right h7)
  rw [h0, g0, g1, cvN (k := .u64) (a := v1) (by simp only [lim]; omega), cvN (k := .u64) (a := t0) (by simp only [lim]; omega), cvN (k := .u64) (a := t1) (by simp only [lim]; omega), hilo t0 t1 (by omega) ht1, eqI_f (by omega), cond_false, cond_false, quoN (by simp only [lim]; omega), remN]
  refine guess_loop N x y t2 v1 v2 (t0 * 4294967296 + t1) _ V hVV h0 h1 g2 hv hv1 hv2 ht2 hn rfl 2 N _ _ ?_ (by omega) hG hq (by omega) (by omega)
  rw [Nat.mul_comm]; exact hd
end Go.Proofs.YtoihjgfnocimjaaDoor.Nt
