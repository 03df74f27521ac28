/- PLAIN FACTS on chapter 1's functions: the program's product. No statement is proved here. -/
import Derived.Test.YtpppedolgipikaaWid7
namespace Go.Proofs.Ytpppedolgipikaa.Wid
open Go Go.RowKit Go.Proofs.Ytpppedolgipikaa.Eng Go.Proofs.Ytpppedolgipikaa.Fns Go.Proofs.Ytpppedolgipikaa.Bw
set_option linter.unusedVariables false
set_option linter.unusedSimpArgs false
theorem and_mask (x : Nat) (hx : x < 2 ^ 64) : andI .u64 (x : Int) 4294967295 = ((x % 2 ^ 32 : Nat) : Int) := by
  rw [show (4294967295 : Int) = ((2 ^ 32 - 1 : Nat) : Int) from rfl, andI_n hx (by decide), Nat.and_two_pow_sub_one_eq_mod]
theorem mul_nn (x y : Nat) : (x : Int) * (y : Int) = ((x * y : Nat) : Int) := (Int.natCast_mul x y).symm
theorem mul64_eq (N x y : Nat) (hx : x < 2 ^ 64) (hy : y < 2 ^ 64) : fn_bits_Mul64 N (x : Int) (y : Int) = some (((x * y / 2 ^ 64 : Nat) : Int), ((x * y % 2 ^ 64 : Nat) : Int)) := by
  unfold fn_bits_Mul64
  have s32 : ∀ y : Nat, shrI .u64 (y : Int) 32 = ((y / 2 ^ 32 : Nat) : Int) := fun y => shrI_n (k := .u64) (show 32 ≤ 64 by decide)
  rw [and_mask x hx, and_mask y hy, s32, s32]
  have ha : x / 2 ^ 32 < 2 ^ 32 := by omega
  have hb : x % 2 ^ 32 < 2 ^ 32 := by omega
  have hc : y / 2 ^ 32 < 2 ^ 32 := by omega
  have hd : y % 2 ^ 32 < 2 ^ 32 := by omega
  have ex : x = 2 ^ 32 * (x / 2 ^ 32) + x % 2 ^ 32 := by omega
  have ey : y = 2 ^ 32 * (y / 2 ^ 32) + y % 2 ^ 32 := by omega
  generalize x / 2 ^ 32 = a at *
  generalize x % 2 ^ 32 = b at *
  generalize y / 2 ^ 32 = c at *
  generalize y % 2 ^ 32 = d at *
  have pm : ∀ u v : Nat, u < 2 ^ 32 → v < 2 ^ 32 → u * v ≤ 18446744065119617025 := fun u v h1 h2 => Nat.mul_le_mul (show u ≤ 4294967295 by omega) (show v ≤ 4294967295 by omega)
  have p1 := pm a c ha hc; have p2 := pm a d ha hd; have p3 := pm b c hb hc; have p4 := pm b d hb hd
  have exy : x * y = 18446744073709551616 * (a * c) + 4294967296 * (a * d) + 4294967296 * (b * c) + b * d := by
    rw [ex, ey, Nat.add_mul, Nat.mul_add, Nat.mul_add]
    have e1 : 2 ^ 32 * a * (2 ^ 32 * c) = 18446744073709551616 * (a * c) := by rw [Nat.mul_mul_mul_comm]
    have e2 : 2 ^ 32 * a * d = 4294967296 * (a * d) := by rw [Nat.mul_assoc]
    have e3 : b * (2 ^ 32 * c) = 4294967296 * (b * c) := by rw [Nat.mul_left_comm]
    rw [e1, e2, e3]; omega
  have mm : ∀ u v : Nat, u * v ≤ 18446744065119617025 → mulI .u64 (u : Int) (v : Int) = ((u * v : Nat) : Int) := fun u v h => by
    rw [mulI_u (by rw [mul_nn]; omega) (by rw [mul_nn]; omega), mul_nn]
  rw [mm a c p1, mm a d p2, mm b c p3, mm b d p4]
  have elo : mulI .u64 (x : Int) (y : Int) = ((x * y % 2 ^ 64 : Nat) : Int) := by
    unfold mulI; rw [wrap_u64, mul_nn]; rfl
  rw [elo]
  generalize a * c = A at *
  generalize a * d = D at *
  generalize b * c = C at *
  generalize b * d = F at *
  rw [s32]
  have t1 : addI .u64 (D : Int) ((F / 2 ^ 32 : Nat) : Int) = ((D + F / 2 ^ 32 : Nat) : Int) := by rw [addI_u (by omega) (by omega)]; omega
  rw [t1, s32, and_mask _ (by omega)]
  have t2 : addI .u64 (((D + F / 2 ^ 32) % 2 ^ 32 : Nat) : Int) (C : Int) = (((D + F / 2 ^ 32) % 2 ^ 32 + C : Nat) : Int) := by rw [addI_u (by omega) (by omega)]; omega
  rw [t2, s32]
  have t3 : addI .u64 (A : Int) (((D + F / 2 ^ 32) / 2 ^ 32 : Nat) : Int) = ((A + (D + F / 2 ^ 32) / 2 ^ 32 : Nat) : Int) := by rw [addI_u (by omega) (by omega)]; omega
  rw [t3]
  have t4 : addI .u64 ((A + (D + F / 2 ^ 32) / 2 ^ 32 : Nat) : Int) ((((D + F / 2 ^ 32) % 2 ^ 32 + C) / 2 ^ 32 : Nat) : Int) = ((A + (D + F / 2 ^ 32) / 2 ^ 32 + ((D + F / 2 ^ 32) % 2 ^ 32 + C) / 2 ^ 32 : Nat) : Int) := by rw [addI_u (by omega) (by omega)]; omega
  rw [t4, exy]
  congr 3
  omega
def vs (z : Nat → Nat) : Nat → Nat
  | 0 => 0
  | n + 1 => vs z n + z n * 2 ^ (64 * n)
theorem vs_lt (z : Nat → Nat) (hz : ∀ j, z j < 2 ^ 64) : ∀ n, vs z n < 2 ^ (64 * n)
  | 0 => by simp [vs]
  | n + 1 => by
    rw [vs, pow_word]
    have h1 := vs_lt z hz n
    have h2 : (z n + 1) * 2 ^ (64 * n) ≤ 2 ^ 64 * 2 ^ (64 * n) := Nat.mul_le_mul_right _ (hz n)
    rw [Nat.add_mul, Nat.one_mul] at h2
    rw [Nat.mul_comm (2 ^ (64 * n)) (2 ^ 64)]
    omega
theorem vs_wd (z : Nat → Nat) (hz : ∀ j, z j < 2 ^ 64) : ∀ n j, j < n → wd (vs z n) j = z j
  | 0, j, h => by omega
  | n + 1, j, h => by
    unfold wd
    rw [vs]
    by_cases h1 : j = n
    · subst h1
      rw [Nat.mul_comm (z j), Nat.add_mul_div_left _ _ (pow_pos' _), Nat.div_eq_of_lt (vs_lt z hz j), Nat.zero_add, Nat.mod_eq_of_lt (hz j)]
    · have ih := vs_wd z hz n j (by omega)
      unfold wd at ih
      have e : 2 ^ (64 * n) = 2 ^ (64 * j) * (2 ^ 64 * 2 ^ (64 * n - 64 * (j + 1))) := by rw [← Nat.pow_add, ← Nat.pow_add]; congr 1; omega
      rw [e, Nat.mul_comm (z n), Nat.mul_assoc, Nat.add_mul_div_left _ _ (pow_pos' _), Nat.mul_assoc, Nat.add_mul_mod_self_left, ih]
theorem vs_set (z : Nat → Nat) (j v : Nat) : ∀ n, j < n → vs (fun k => if k = j then v else z k) n + z j * 2 ^ (64 * j) = vs z n + v * 2 ^ (64 * j) := by
  have same : ∀ n, n ≤ j → vs (fun k => if k = j then v else z k) n = vs z n := by
    intro n
    induction n with
    | zero => intro _; rfl
    | succ n ih => intro h; rw [vs, vs, ih (by omega), if_neg (by omega)]
  intro n
  induction n with
  | zero => intro h; omega
  | succ n ih =>
    intro h
    rw [vs, vs]
    by_cases h1 : n = j
    · subst h1; rw [if_pos rfl, same n (by omega)]; omega
    · have := ih (by omega)
      rw [if_neg h1]; omega
/-- what the words are, with k words of row i taken -/
structure Rows8 (x y i k c : Nat) (z : Nat → Nat) : Prop where
  sum : vs z 8 + c * 2 ^ (64 * (i + k)) = (x % 2 ^ (64 * i)) * y + wd x i * 2 ^ (64 * i) * (y % 2 ^ (64 * k))
  lt : ∀ j, z j < 2 ^ 64
  c_lt : c < 2 ^ 64
  top : ∀ j, i + 4 ≤ j → z j = 0
theorem wmul_in (N : Nat) (x y i : Nat) (hi : i < 4) (hy : y < 2 ^ 256) (E : Vec 4 → Int → Vec 4 → Vec 4 → Vec 4 → Vec 8 → Option (Vec 4 × Vec 4)) (a b v w : Vec 4) (R : Option (Vec 4 × Vec 4))
    (hE : ∀ z, Rows8 x y (i + 1) 0 0 z → E a ((i + 1 : Nat) : Int) b v w (tab 8 fun j => (z j : Int)) = R) :
    ∀ m k n : Nat, k + m = 4 → m < n → ∀ c z, Rows8 x y i k c z → l29_1 N E n (i : Int) (wd x i : Int) (c : Int) a (i : Int) (W y) (k : Int) b v w (tab 8 fun j => (z j : Int)) = R := by
  intro m
  induction m with
  | zero =>
    intro k n hk hn c z hz
    obtain ⟨n, rfl⟩ : ∃ n', n = n' + 1 := ⟨n - 1, by omega⟩
    obtain rfl : k = 4 := by omega
    show s29_1 N _ E _ _ _ _ _ _ _ _ _ _ _ = _
    unfold s29_1
    have e1 : addI .i64 (i : Int) 4 = ((i + 4 : Nat) : Int) := by rw [addI_i (by omega) (by omega)]; omega
    have e2 : addI .i64 (i : Int) 1 = ((i + 1 : Nat) : Int) := by rw [addI_i (by omega) (by omega)]; omega
    rw [ltI_f (by omega), cond_false, e1, e2, leI_t (by omega), cond_true, ltI_t (by omega), cond_true, st_tab (by omega)]
    have et : (tab 8 fun j => if j = i + 4 then (c : Int) else (z j : Int)) = tab 8 fun j => ((if j = i + 4 then c else z j : Nat) : Int) := by
      apply tab_congr
      intro j hj
      by_cases h : j = i + 4
      · rw [if_pos h, if_pos h]
      · rw [if_neg h, if_neg h]
    rw [et]
    apply hE
    constructor
    · have h1 := vs_set z (i + 4) c 8 (by omega)
      rw [hz.top (i + 4) (by omega), Nat.zero_mul, Nat.add_zero] at h1
      rw [h1, hz.sum, Nat.mod_eq_of_lt (show y < 2 ^ (64 * 4) from hy), Nat.zero_mul, Nat.add_zero, Nat.mul_zero, Nat.pow_zero, Nat.mod_one, Nat.mul_zero, Nat.add_zero, pow_word, Nat.mod_mul, Nat.add_mul]
      unfold wd
      rw [Nat.mul_comm (2 ^ (64 * i))]
    · intro j
      by_cases h : j = i + 4
      · rw [if_pos h]; exact hz.c_lt
      · rw [if_neg h]; exact hz.lt j
    · decide
    · intro j hj
      rw [if_neg (by omega)]
      exact hz.top j (by omega)
  | succ m ih =>
    intro k n hk hn c z hz
    obtain ⟨n, rfl⟩ : ∃ n', n = n' + 1 := ⟨n - 1, by omega⟩
    show s29_1 N (l29_1 N E n) E _ _ _ _ _ _ _ _ _ _ _ = _
    unfold s29_1
    have e1 : addI .i64 (i : Int) (k : Int) = ((i + k : Nat) : Int) := by rw [addI_i (by omega) (by omega)]; omega
    have e3 : addI .i64 (k : Int) 1 = ((k + 1 : Nat) : Int) := by rw [addI_i (by omega) (by omega)]; omega
    have c1 : ltI (k : Int) 4 = true := ltI_t (by omega)
    have c3 : leI (0 : Int) ((i + k : Nat) : Int) = true := leI_t (by omega)
    have c4 : ltI ((i + k : Nat) : Int) 8 = true := ltI_t (by omega)
    have c6 : leI (0 : Int) (k : Int) = true := leI_t (by omega)
    rw [e1, e3]
    simp only [c1, c3, c4, c6, cond_true]
    have hX : wd x i < 2 ^ 64 := Nat.mod_lt _ (by decide)
    have hY : wd y k < 2 ^ 64 := Nat.mod_lt _ (by decide)
    have hr : Vec.rd (W y) (k : Int) = (wd y k : Int) := rd_W (by omega)
    have hp : wd x i * wd y k ≤ 18446744073709551615 * 18446744073709551615 := Nat.mul_le_mul (by omega) (by omega)
    have hsum := hz.sum
    have hc := hz.c_lt
    have hzl := hz.lt (i + k)
    rw [hr, mul64_eq N _ _ hX hY, Option.bind_some]
    have g1 := add64_n (wd x i * wd y k % 2 ^ 64) c 0 (by decide)
    simp only [Nat.add_zero] at g1
    have g1' : add64 ((wd x i * wd y k % 2 ^ 64 : Nat) : Int) (c : Int) 0 = some ((((wd x i * wd y k % 2 ^ 64 + c) % 2 ^ 64 : Nat) : Int), (((wd x i * wd y k % 2 ^ 64 + c) / 2 ^ 64 : Nat) : Int)) := g1
    simp only
    rw [g1', Option.bind_some, rd_tab (by omega)]
    have g2 := add64_n (z (i + k)) ((wd x i * wd y k % 2 ^ 64 + c) % 2 ^ 64) 0 (by decide)
    simp only [Nat.add_zero] at g2
    have g2' : add64 (z (i + k) : Int) (((wd x i * wd y k % 2 ^ 64 + c) % 2 ^ 64 : Nat) : Int) 0 = some ((((z (i + k) + (wd x i * wd y k % 2 ^ 64 + c) % 2 ^ 64) % 2 ^ 64 : Nat) : Int), (((z (i + k) + (wd x i * wd y k % 2 ^ 64 + c) % 2 ^ 64) / 2 ^ 64 : Nat) : Int)) := g2
    simp only
    rw [g2', Option.bind_some]
    simp only
    have q1 : (z (i + k) + (wd x i * wd y k % 2 ^ 64 + c) % 2 ^ 64) % 2 ^ 64 = (wd x i * wd y k + c + z (i + k)) % 2 ^ 64 := by omega
    have q2 : addI .u64 (addI .u64 ((wd x i * wd y k / 2 ^ 64 : Nat) : Int) (((wd x i * wd y k % 2 ^ 64 + c) / 2 ^ 64 : Nat) : Int)) (((z (i + k) + (wd x i * wd y k % 2 ^ 64 + c) % 2 ^ 64) / 2 ^ 64 : Nat) : Int) = (((wd x i * wd y k + c + z (i + k)) / 2 ^ 64 : Nat) : Int) := by
      generalize wd x i * wd y k = p at *
      generalize z (i + k) = u at *
      rw [addI_u (a := ((p / 2 ^ 64 : Nat) : Int)) (by omega) (by omega), addI_u (by omega) (by omega)]; omega
    rw [q1, q2, st_tab (by omega)]
    have et : (tab 8 fun j => if j = i + k then (((wd x i * wd y k + c + z (i + k)) % 2 ^ 64 : Nat) : Int) else (z j : Int)) = tab 8 fun j => ((if j = i + k then (wd x i * wd y k + c + z (i + k)) % 2 ^ 64 else z j : Nat) : Int) := by
      apply tab_congr
      intro j hj
      by_cases h : j = i + k
      · rw [if_pos h, if_pos h]
      · rw [if_neg h, if_neg h]
    rw [et]
    apply ih (k + 1) n (by omega) (by omega)
    constructor
    · have h1 := vs_set z (i + k) ((wd x i * wd y k + c + z (i + k)) % 2 ^ 64) 8 (by omega)
      have ew : wd y k = y / 2 ^ (64 * k) % 2 ^ 64 := rfl
      rw [show i + (k + 1) = i + k + 1 by omega, pow_word (i + k), pow_word k, Nat.mod_mul (x := y), ← ew, Nat.mul_add (wd x i * 2 ^ (64 * i)), ← Nat.add_assoc, ← hsum]
      have e5 : wd x i * 2 ^ (64 * i) * (2 ^ (64 * k) * wd y k) = wd x i * wd y k * 2 ^ (64 * (i + k)) := by
        rw [Nat.mul_add, Nat.pow_add]
        generalize wd x i = p
        generalize wd y k = q
        generalize 2 ^ (64 * i) = s
        generalize 2 ^ (64 * k) = t
        rw [Nat.mul_assoc, Nat.mul_assoc]
        congr 1
        rw [Nat.mul_comm t q, Nat.mul_left_comm]
      rw [e5]
      generalize wd x i * wd y k = p at *
      generalize z (i + k) = u at *
      generalize 2 ^ (64 * (i + k)) = t at *
      have hdm : (p + c + u) = 2 ^ 64 * ((p + c + u) / 2 ^ 64) + (p + c + u) % 2 ^ 64 := (Nat.div_add_mod _ _).symm
      generalize hQ : (p + c + u) / 2 ^ 64 = Q at *
      generalize hM : (p + c + u) % 2 ^ 64 = M at *
      have h6 : (p + c + u) * t = (2 ^ 64 * Q + M) * t := by rw [← hdm]
      rw [Nat.add_mul, Nat.add_mul, Nat.add_mul] at h6
      have h7 : Q * (t * 2 ^ 64) = 2 ^ 64 * Q * t := by rw [Nat.mul_comm t, ← Nat.mul_assoc, Nat.mul_comm Q]
      rw [h7]
      omega
    · intro j
      by_cases h : j = i + k
      · rw [if_pos h]; exact Nat.mod_lt _ (by decide)
      · rw [if_neg h]; exact hz.lt j
    · omega
    · intro j hj
      rw [if_neg (by omega)]
      exact hz.top j hj
theorem sub_get {n : Nat} {f : Nat → Int} {off m i : Nat} {h : off + m ≤ n} (hi : i < m) (ho : off + i < n) : ((tab n f).sub off m h).1[i]? = some (f (off + i)) := by
  unfold Vec.sub
  simp only [List.getElem?_take_of_lt hi, List.getElem?_drop]
  exact tab_get ho
theorem wmul_out (N : Nat) (hN : 300 ≤ N) (x y : Nat) (hx : x < 2 ^ 256) (hy : y < 2 ^ 256) (v w : Vec 4) :
    ∀ m i n : Nat, i + m = 4 → m < n → ∀ z, Rows8 x y i 0 0 z → l29_0 N n (W x) (i : Int) (W y) v w (tab 8 fun j => (z j : Int)) = some (W (x * y % 2 ^ 256), W (x * y / 2 ^ 256)) := by
  intro m
  induction m with
  | zero =>
    intro i n hi hn z hz
    obtain ⟨n, rfl⟩ : ∃ n', n = n' + 1 := ⟨n - 1, by omega⟩
    obtain rfl : i = 4 := by omega
    show s29_0 N _ _ _ _ _ _ _ = _
    unfold s29_0
    rw [ltI_f (by omega), cond_false, W_low, W_high]
    have hs : vs z 8 = x * y := by
      have := hz.sum
      rw [Nat.zero_mul, Nat.add_zero, Nat.pow_zero, Nat.mod_one] at this
      rw [this, Nat.mod_eq_of_lt (show x < 2 ^ (64 * 4) from hx), Nat.mul_zero, Nat.add_zero]
    have hw : ∀ j, j < 8 → wd (x * y) j = z j := fun j hj => by rw [← hs]; exact vs_wd z hz.lt 8 j hj
    congr 2
    · apply vec_ext
      intro i hi
      rw [tab_get hi, hw i (by omega), sub_get hi (by omega), Nat.zero_add]
    · apply vec_ext
      intro i hi
      rw [tab_get hi, hw (i + 4) (by omega), sub_get hi (by omega), Nat.add_comm 4 i]
  | succ m ih =>
    intro i n hi hn z hz
    obtain ⟨n, rfl⟩ : ∃ n', n = n' + 1 := ⟨n - 1, by omega⟩
    show s29_0 N (l29_1 N (l29_0 N n) N) _ _ _ _ _ _ = _
    unfold s29_0
    have hr : Vec.rd (W x) (i : Int) = (wd x i : Int) := rd_W (by omega)
    rw [ltI_t (by omega), cond_true, leI_t (by omega), cond_true, cond_true, hr]
    exact wmul_in N x y i (by omega) hy (l29_0 N n) (W x) (W y) v w _ (fun z hz => ih (i + 1) n (by omega) (by omega) z hz) 4 0 N (by omega) (by omega) 0 z hz
theorem mul_eq (N : Nat) (hN : 300 ≤ N) (x y : Nat) (hx : x < 2 ^ 256) (hy : y < 2 ^ 256) : fn_wide_Mul N (W x) (W y) = some (W (x * y % 2 ^ 256), W (x * y / 2 ^ 256)) := by
  unfold fn_wide_Mul t29
  rw [zero_tab 8]
  refine wmul_out N hN x y hx hy _ _ 4 0 N (by omega) (by omega) (fun _ => 0) ⟨?_, fun _ => by decide, by decide, fun _ _ => rfl⟩
  have : ∀ n, vs (fun _ => 0) n = 0 := by
    intro n
    induction n with
    | zero => rfl
    | succ n ih => rw [vs, ih]; simp
  rw [this]; simp [Nat.mod_one]
end Go.Proofs.Ytpppedolgipikaa.Wid
