/- Plain facts on the functions that were printed. Texts in one: Shw1, Shw2, Shw3, Shw4, Shw5, Shw6, Red1, Shw7. No statement is proved here. -/
import Derived.Test.YtcdhcihjcjpmkaaGreatDoorGnat
import Derived.Test.YtcdhcihjcjpmkaaGreatDoorFnTopTexts
import Derived.Test.YtcdhcihjcjpmkaaGreatDoorGval
namespace Go.Proofs.YtcdhcihjcjpmkaaGreatDoor.Shw
open Go Eng Fns Bw Dig Nt Num Slc
open Rn (X Y b32 b16 cmpZ)
set_option linter.unusedVariables false
set_option linter.unusedSimpArgs false
theorem bd {α β : Type} {o : Option α} {v : α} {K : α → Option β} {w : Option β} (h : o = some v) (hk : K v = w) : (o.bind K) = w := by rw [h]; exact hk
theorem cT {β : Type} {b : Bool} {x y r : β} (h : b = true) (h2 : x = r) : cond b x y = r := by rw [h]; exact h2
theorem cF {β : Type} {b : Bool} {x y r : β} (h : b = false) (h2 : y = r) : cond b x y = r := by rw [h]; exact h2
theorem D_one {b : Nat} (hb : 1 < b) : D b 1 = [1] := by
  have h := dl_eq hb (n := 1) (k := 0) (by simp) (by simpa using hb)
  unfold D
  rw [h, T_succ, T_zero, Nat.pow_zero, Nat.div_one, Nat.mod_eq_of_lt hb]
  rfl
theorem w63 (n : Int) (h0 : 0 ≤ n) (h1 : n < 2 ^ 63) : IntKind.i64.wrap n = n := by rw [wrap_i64]; omega
theorem odd_eq (n : Nat) (h : n < 9223372036854775808) : andI .i64 (n : Int) 1 = ((n % 2 : Nat) : Int) := by
  unfold andI
  have := (bits_nat .i64 63 (by decide) w63 n 1 (by omega) (by decide)).1
  rw [show ((1 : Nat) : Int) = 1 from rfl] at this
  rw [this, Nat.and_one_is_mod]
theorem dl_pow (base e : Nat) (hb : base < 4294967296) : dl 4294967296 (base ^ e) ≤ e + 1 := by
  apply dl_le b32
  have h1 := Nat.pow_le_pow_left (show base ≤ 4294967296 by omega) e
  have h2 : 4294967296 ^ e < 4294967296 ^ (e + 1) := Nat.pow_lt_pow_right (by decide) (by omega)
  omega
theorem dl_two (s : Nat) : dl 4294967296 (2 ^ s) ≤ s / 32 + 1 := by
  apply dl_le b32
  rw [show (4294967296 : Nat) = 2 ^ 32 from rfl, ← Nat.pow_mul]
  exact Nat.pow_lt_pow_right (by decide) (by omega)
theorem dl_mul32 (m n : Nat) : dl 4294967296 (m * n) ≤ dl 4294967296 m + dl 4294967296 n := by
  apply dl_le b32
  rw [Nat.pow_add]
  exact Nat.mul_lt_mul'' (dl_lt b32 m) (dl_lt b32 n)
theorem pow_loop (base n0 : Nat) (hb : base < 4294967296) (hn0 : n0 ≤ 2000) : ∀ (n f o e : Nat), n < f → n < 9223372036854775808 → o + e * n = n0 → (0 < n → e ≤ n0) → l73_0 100000 f (base : Int) (n : Int) (Y (base ^ o)) (Y (base ^ e)) = some (bnd32 (base ^ n0)) := by
  intro n
  induction n using Nat.strongRecOn with
  | ind n ih =>
    intro f o e hf nn hoe he
    obtain ⟨f, rfl⟩ : ∃ n', f = n' + 1 := ⟨f - 1, by omega⟩
    show s73_0 100000 (l73_0 100000 f) _ _ _ _ = _
    unfold s73_0
    have en : e * (n / 2) * 2 + e * (n % 2) = e * n := by
      rw [Nat.mul_assoc, ← Nat.mul_add]; congr 1; omega
    have e2 : (e + e) * (n / 2) = e * (n / 2) * 2 := by rw [Nat.add_mul]; omega
    have eodd : n % 2 = 1 → e * (n % 2) = e := fun h => by rw [h, Nat.mul_one]
    have eeven : n % 2 = 0 → e * (n % 2) = 0 := fun h => by rw [h, Nat.mul_zero]
    have eself : n / 2 = 0 → e * (n / 2) = 0 := fun h => by rw [h, Nat.mul_zero]
    have ebig : n / 2 ≠ 0 → e ≤ e * (n / 2) := fun h => Nat.le_mul_of_pos_right e (by omega)
    have de := dl_pow base e hb
    have s1 : shrI .i64 (n : Int) 1 = ((n / 2 : Nat) : Int) := shrN (k := .i64) (b := 1) (by decide)
    have ih := ih (n / 2)
    have fin : ∀ o', o' = n0 → ((fn_nat_bounded 100000 (Y (base ^ o'))).bind fun r4 => some (r4.1, r4.2)) = some (bnd32 (base ^ n0)) := by
      intro o' h
      subst h
      have := dl_pow base o' hb
      rw [bounded_Y 100000 _ (by omega) (by omega), Option.bind_some]
    rw [odd_eq n nn, s1]
    by_cases hodd : n % 2 = 1
    · have dO := dl_pow base o hb
      have dO2 := dl_pow base (o + e) hb
      rw [eqI_t (by omega), cond_true, times_eq 100000 (base ^ o) (base ^ e) (by omega) (by omega), Option.bind_some, ← Nat.pow_add]
      by_cases hz : n / 2 = 0
      · rw [eqI_t (by omega), cond_true, ltI_f (by omega), cond_false]
        exact fin _ (by omega)
      · rw [eqI_f (by omega), cond_false, D_len, ltI_f (by omega), cond_false, D_len, ltI_f (by omega), cond_false, times_eq 100000 (base ^ e) (base ^ e) (by omega) (by omega), Option.bind_some, ← Nat.pow_add]
        exact ih (by omega) f (o + e) (e + e) (by omega) (by omega) (by omega) (fun _ => by omega)
    · have dO := dl_pow base o hb
      rw [eqI_f (by omega), cond_false]
      by_cases hz : n / 2 = 0
      · rw [eqI_t (by omega), cond_true, ltI_f (by omega), cond_false]
        exact fin _ (by omega)
      · rw [eqI_f (by omega), cond_false, D_len, ltI_f (by omega), cond_false, D_len, ltI_f (by omega), cond_false, times_eq 100000 (base ^ e) (base ^ e) (by omega) (by omega), Option.bind_some, ← Nat.pow_add]
        exact ih (by omega) f o (e + e) (by omega) (by omega) (by omega) (fun _ => by omega)
theorem pow_Y (base n : Nat) (hb : base < 4294967296) (hn : n ≤ 2000) : fn_nat_Pow 100000 (base : Int) (n : Int) = some (Y (base ^ n), none) := by
  unfold fn_nat_Pow t73
  have hd := dl_pow base n hb
  rw [ltI_f (by omega), cond_false, ltI_f (by omega), cond_false, cvN (by simp only [lim]; omega), of_eq 100000 base (by omega) (by omega), Option.bind_some]
  have h := pow_loop base n hb hn n 100000 0 1 (by omega) (by omega) (by omega) (fun h => h)
  rw [Nat.pow_zero, Nat.pow_one, bnd32, if_pos (by omega), Y, D_one b32] at h
  exact h
theorem mul_Y (m n : Nat) (hm : dl 4294967296 m ≤ 4000) (hn : dl 4294967296 n ≤ 4000) : fn_nat_Mul 100000 (Y m) (Y n) = some (Y (m * n), none) := by
  unfold fn_nat_Mul
  have e1 : addI .i64 (dl 4294967296 m : Int) (dl 4294967296 n : Int) = ((dl 4294967296 m + dl 4294967296 n : Nat) : Int) := addN (by simp only [lim]; omega)
  have hd := dl_mul32 m n
  rw [both_Y 100000 m n (by omega) (by omega), Option.bind_some, show isNoneI none = true from rfl, Bool.not_true, cond_false, D_len, D_len, e1]
  rw [ltI_f (by omega), cond_false, times_eq 100000 m n (by omega) (by omega), Option.bind_some, bounded_Y 100000 _ (by omega) (by omega), Option.bind_some, bnd32, if_pos (by omega)]
theorem cmp_Y (m n : Nat) (hm : dl 4294967296 m ≤ 8192) (hn : dl 4294967296 n ≤ 8192) : fn_nat_Cmp 100000 (Y m) (Y n) = some (cmpZ m n, none) := by
  unfold fn_nat_Cmp
  rw [both_Y 100000 m n hm hn, Option.bind_some, show isNoneI none = true from rfl, Bool.not_true, cond_false, compare_eq 100000 m n (by omega) (by omega), Option.bind_some]
theorem up_Y (a s : Nat) (ha : dl 4294967296 a ≤ 4000) (hs : s ≤ 60000) : fn_show_up 100000 (Y a) (s : Int) = some (Y (a * 2 ^ s)) := by
  have hd := dl_mul32 a (2 ^ s)
  have h2 := dl_two s
  unfold fn_show_up
  refine bd (shl_eq 100000 a s (by omega) (by omega) (by omega)) ?_
  by_cases h0 : a = 0
  · rw [if_pos h0]
    refine cF rfl ?_
    rw [h0, Nat.zero_mul, Y, D_nil]
  · rw [if_neg h0, if_neg (by omega), bnd32, if_pos (by omega)]
    exact cF rfl rfl
theorem times_Y (a b : Nat) (ha : dl 4294967296 a ≤ 4000) (hb : dl 4294967296 b ≤ 4000) : fn_show_times 100000 (Y a) (Y b) = some (Y (a * b)) := by
  unfold fn_show_times
  exact bd (mul_Y a b ha hb) (cF rfl rfl)
theorem power_Y (n : Nat) (hn : n ≤ 2000) : fn_show_power 100000 (n : Int) = some (Y (10 ^ n)) := by
  unfold fn_show_power
  exact bd (pow_Y 10 n (by decide) hn) (cF rfl rfl)
theorem one_Y : fn_nat_Of 100000 1 = some (Y 1) := of_eq 100000 1 (by decide) (by decide)
theorem compare_Y (a b w : Nat) (ha : dl 4294967296 a ≤ 8000) (hb : dl 4294967296 b ≤ 4000) (hw : dl 4294967296 w ≤ 4000) : fn_show_number_compare 100000 (Y a, Y b) (Y w) = some (cmpZ a (w * b)) := by
  have hd := dl_mul32 w b
  unfold fn_show_number_compare
  exact bd (times_Y w b hw hb) (bd (cmp_Y a (w * b) (by omega) (by omega)) (cF rfl rfl))
theorem dl_succ (w : Nat) : dl 4294967296 (w + 1) ≤ dl 4294967296 w + 1 := dl_le b32 (by
    have h2 := dl_lt b32 w
    have h4 : 4294967296 ^ dl 4294967296 w < 4294967296 ^ (dl 4294967296 w + 1) := Nat.pow_lt_pow_right (by decide) (by omega)
    omega)
theorem next_Y (w : Nat) (hw : dl 4294967296 w ≤ 8000) : fn_show_next 100000 (Y w) = some (Y (w + 1)) := by
  have h1 := dl_succ w
  have h5 : dl 4294967296 1 ≤ 1 := dl_le b32 (by decide)
  unfold fn_show_next
  refine bd one_Y (bd (add_eq 100000 w 1 (by omega) (by omega) (by omega) (by omega)) ?_)
  rw [bnd32, if_pos (by omega)]
  exact cF rfl rfl
/-- a number times a power of two, as parted -/
theorem of_pos (sig : Nat) (e : Nat) (hs : sig < 18446744073709551616) (he : e ≤ 60000) : fn_show_of 100000 (sig : Int) (e : Int) = some (Y (sig * 2 ^ e), Y 1) := by
  have h1 : dl 4294967296 sig ≤ 2 := dl_le b32 (by omega)
  unfold fn_show_of
  exact cT (leI_t (by omega)) (bd (of_eq 100000 sig (by decide) hs) (bd (up_Y sig e (by omega) he) (bd one_Y rfl)))
theorem of_neg (sig : Nat) (e : Int) (hs : sig < 18446744073709551616) (he : -60000 ≤ e) (h0 : e < 0) : fn_show_of 100000 (sig : Int) e = some (Y sig, Y (2 ^ (-e).toNat)) := by
  have h1 : dl 4294967296 1 ≤ 1 := dl_le b32 (by decide)
  unfold fn_show_of
  refine cF (leI_f (by omega)) (bd (of_eq 100000 sig (by decide) hs) (bd one_Y ?_))
  have e1 : subI .i64 0 e = (((-e).toNat : Nat) : Int) := by rw [subI_i (by omega) (by omega)]; omega
  rw [e1]
  refine bd (up_Y 1 (-e).toNat (by omega) (by omega)) ?_
  rw [Nat.one_mul]
theorem scaled_pos (a b n : Nat) (ha : dl 4294967296 a ≤ 3000) (hn : n ≤ 2000) : fn_show_number_scaled 100000 (Y a, Y b) (n : Int) = some (Y (a * 10 ^ n), Y b) := by
  have h1 := dl_pow 10 n (by decide)
  unfold fn_show_number_scaled
  exact cT (leI_t (by omega)) (bd (power_Y n hn) (bd (times_Y a (10 ^ n) (by omega) (by omega)) rfl))
theorem scaled_neg (a b : Nat) (n : Int) (hb : dl 4294967296 b ≤ 3000) (hn : -2000 ≤ n) (h0 : n < 0) : fn_show_number_scaled 100000 (Y a, Y b) n = some (Y a, Y (b * 10 ^ (-n).toNat)) := by
  have h1 := dl_pow 10 (-n).toNat (by decide)
  unfold fn_show_number_scaled
  refine cF (leI_f (by omega)) ?_
  have e1 : subI .i64 0 n = (((-n).toNat : Nat) : Int) := by rw [subI_i (by omega) (by omega)]; omega
  rw [e1]
  exact bd (power_Y (-n).toNat (by omega)) (bd (times_Y b (10 ^ (-n).toNat) (by omega) (by omega)) rfl)
theorem len_Y (n : Nat) : ltI 0 ((Y n).length : Int) = decide (0 < n) := by
  rw [Y, D_len]
  by_cases h : 0 < n
  · have := ((dl_spec b32 n).2 h).2
    rw [decide_eq_true h, ltI_t (by omega)]
  · have h0 : n = 0 := by omega
    subst h0
    rw [dl_zero]; rfl
theorem cut_Y (a b : Nat) (hb : 0 < b) (ha : dl 4294967296 a ≤ 8000) (hbl : dl 4294967296 b ≤ 3900) : fn_show_number_cut 100000 (Y a, Y b) = some (Y (a / b), cmpZ (a % b * 2) b, decide (0 < a % b)) := by
  have h1 : dl 4294967296 (a % b) ≤ dl 4294967296 b := dl_le b32 (Nat.lt_trans (Nat.mod_lt _ hb) (dl_lt b32 b))
  have h2 := dl_mul32 (a % b) (2 ^ 1)
  have h3 : dl 4294967296 (2 ^ 1) ≤ 1 := dl_le b32 (by decide)
  unfold fn_show_number_cut
  refine bd (divmod_eq 100000 a b hb (by omega) (by omega) (by omega) (by omega)) (cF rfl ?_)
  have hu := up_Y (a % b) 1 (by omega) (by decide)
  rw [show ((1 : Nat) : Int) = 1 from rfl, Nat.pow_one] at hu
  rw [Nat.pow_one] at h2 h3
  refine bd hu (bd (cmp_Y (a % b * 2) b (by omega) (by omega)) ?_)
  simp only
  rw [len_Y]
/-- does a whole number lie between, or at a border that counts? -/
def inside (w a b c d : Nat) (borders : Bool) : Bool := (decide (a < w * b) && decide (w * d < c)) || (borders && (decide (a = w * b) || decide (c = w * d)))
theorem cmp_cases (x y : Nat) : ltI (cmpZ x y) 0 = decide (x < y) ∧ ltI 0 (cmpZ x y) = decide (y < x) ∧ eqI (cmpZ x y) 0 = decide (x = y) := by
  unfold cmpZ
  rcases Nat.lt_trichotomy x y with h | h | h
  · rw [if_pos h, decide_eq_true h, decide_eq_false (by omega), decide_eq_false (by omega)]; exact ⟨rfl, rfl, rfl⟩
  · subst h
    rw [if_neg (by omega), if_neg (by omega), decide_eq_false (by omega), decide_eq_true rfl]; exact ⟨rfl, rfl, rfl⟩
  · rw [if_neg (by omega), if_pos h, decide_eq_false (by omega), decide_eq_true h, decide_eq_false (by omega)]; exact ⟨rfl, rfl, rfl⟩
theorem read_Y (w a b c d : Nat) (borders : Bool) (hw : dl 4294967296 w ≤ 4000) (ha : dl 4294967296 a ≤ 8000) (hb : dl 4294967296 b ≤ 4000) (hc : dl 4294967296 c ≤ 8000) (hd : dl 4294967296 d ≤ 4000) : fn_show_read 100000 (Y w) (Y a, Y b) (Y c, Y d) borders = some (inside w a b c d borders) := by
  obtain ⟨a1, a2, a3⟩ := cmp_cases a (w * b)
  obtain ⟨c1, c2, c3⟩ := cmp_cases c (w * d)
  unfold fn_show_read
  refine bd (compare_Y a b w ha hb hw) (bd (compare_Y c d w hc hd hw) ?_)
  rw [a1, c2, a3, c3]
  unfold inside
  cases decide (a < w * b) <;> cases decide (w * d < c) <;> cases borders <;> cases decide (a = w * b) <;> rfl
end Go.Proofs.YtcdhcihjcjpmkaaGreatDoor.Shw
/- PLAIN FACTS on chapter 14, part 2: the power of ten of a number's first digit. No statement is proved here. -/
namespace Go.Proofs.YtcdhcihjcjpmkaaGreatDoor.Shw
open Go Eng Fns Bw Dig Nt Num Slc
open Rn (X Y b32 b16 cmpZ)
set_option linter.unusedVariables false
set_option linter.unusedSimpArgs false
/-- is a number parted by another one at least this power of ten? -/
def GE (a b : Nat) (n : Int) : Prop := b * 10 ^ n.toNat ≤ a * 10 ^ (-n).toNat
instance (a b : Nat) (n : Int) : Decidable (GE a b n) := Nat.decLe _ _
theorem GE_pred {a b : Nat} {n : Int} (h : GE a b (n + 1)) : GE a b n := by
  unfold GE at h ⊢
  by_cases h0 : 0 ≤ n
  · rw [show (n + 1).toNat = n.toNat + 1 by omega, show (-(n + 1)).toNat = 0 by omega, Nat.pow_succ] at h
    rw [show (-n).toNat = 0 by omega]
    have : b * 10 ^ n.toNat ≤ b * (10 ^ n.toNat * 10) := Nat.mul_le_mul_left _ (Nat.le_mul_of_pos_right _ (by decide))
    omega
  · rw [show (n + 1).toNat = 0 by omega] at h
    rw [show n.toNat = 0 by omega, show (-n).toNat = (-(n + 1)).toNat + 1 by omega, Nat.pow_succ]
    have : a * 10 ^ (-(n + 1)).toNat ≤ a * (10 ^ (-(n + 1)).toNat * 10) := Nat.mul_le_mul_left _ (Nat.le_mul_of_pos_right _ (by decide))
    omega
theorem GE_le {a b : Nat} {n : Int} : ∀ d : Nat, GE a b (n + d) → GE a b n
  | 0, h => by rwa [show n + ((0 : Nat) : Int) = n by omega] at h
  | d + 1, h => GE_le d (GE_pred (by rwa [show n + (d : Int) + 1 = n + ((d + 1 : Nat) : Int) by omega]))
theorem GE_mono {a b : Nat} {n m : Int} (h : GE a b n) (hm : m ≤ n) : GE a b m := by
  obtain ⟨d, hd⟩ := Int.eq_ofNat_of_zero_le (show 0 ≤ n - m by omega)
  exact GE_le d (by rwa [show m + (d : Int) = n by omega])
/-- ten times more -/
theorem GE_ten (a b : Nat) (n : Int) : GE a b (n + 1) ↔ 10 * (b * 10 ^ n.toNat) ≤ a * 10 ^ (-n).toNat := by
  unfold GE
  by_cases h0 : 0 ≤ n
  · rw [show (n + 1).toNat = n.toNat + 1 by omega, show (-(n + 1)).toNat = 0 by omega, show (-n).toNat = 0 by omega, Nat.pow_succ, ← Nat.mul_assoc, Nat.mul_comm 10]
  · rw [show (n + 1).toNat = 0 by omega, show n.toNat = 0 by omega, show (-n).toNat = (-(n + 1)).toNat + 1 by omega, Nat.pow_succ, Nat.pow_zero, Nat.mul_one, ← Nat.mul_assoc]
    generalize a * 10 ^ (-(n + 1)).toNat = x
    omega
theorem scaled_Z (a b : Nat) (k : Int) (ha : dl 4294967296 a ≤ 3000) (hb : dl 4294967296 b ≤ 3000) (h0 : -2000 ≤ k) (h1 : k ≤ 2000) : fn_show_number_scaled 100000 (Y a, Y b) k = some (Y (a * 10 ^ k.toNat), Y (b * 10 ^ (-k).toNat)) := by
  by_cases h : 0 ≤ k
  · obtain ⟨n, hn⟩ := Int.eq_ofNat_of_zero_le h
    subst hn
    rw [scaled_pos a b n ha (by omega), show (-(n : Int)).toNat = 0 by omega, Nat.pow_zero, Nat.mul_one, Int.toNat_natCast]
  · rw [scaled_neg a b k hb h0 (by omega), show k.toNat = 0 by omega, Nat.pow_zero, Nat.mul_one]
theorem ten_Y : fn_nat_Of 100000 10 = some (Y 10) := of_eq 100000 10 (by decide) (by decide)
theorem dls (a : Nat) (k : Nat) (ha : dl 4294967296 a ≤ 1000) (hk : k ≤ 1600) : dl 4294967296 (a * 10 ^ k) ≤ 2601 := by
  have h1 := dl_mul32 a (10 ^ k)
  have h2 := dl_pow 10 k (by decide)
  omega
theorem l1_spec (a b : Nat) (hb : 0 < b) (ha : dl 4294967296 a ≤ 1000) (hbl : dl 4294967296 b ≤ 1000) (U : Int) (hU : ¬ GE a b U) (hUb : U ≤ 1500) : ∀ (m f : Nat) (n : Int), m < f → -1500 ≤ n → GE a b n → U ≤ n + m →
    ∃ F, l18_1 100000 f n (Y a) (Y b) = some F ∧ GE a b F ∧ ¬ GE a b (F + 1) ∧ n ≤ F ∧ F < U
  | m, 0, n, h, _, _, _ => absurd h (Nat.not_lt_zero _)
  | m, f + 1, n, hf, hn, hg, hm => by
    have hlt : n < U := by
      rcases Int.lt_or_le n U with h | h
      · exact h
      · exact absurd (GE_mono hg h) hU
    have d10 : dl 4294967296 10 ≤ 1 := dl_le b32 (by decide)
    have k1 := dls a (0 - n).toNat ha (by omega)
    have k2 := dls b (-(0 - n)).toNat hbl (by omega)
    have hc := compare_Y (a * 10 ^ (0 - n).toNat) (b * 10 ^ (-(0 - n)).toNat) 10 (by omega) (by omega) (by omega)
    obtain ⟨c1, c2, c3⟩ := cmp_cases (a * 10 ^ (0 - n).toNat) (10 * (b * 10 ^ (-(0 - n)).toNat))
    have hle : leI 0 (cmpZ (a * 10 ^ (0 - n).toNat) (10 * (b * 10 ^ (-(0 - n)).toNat))) = decide (GE a b (n + 1)) := by
      have e1 : leI 0 (cmpZ (a * 10 ^ (0 - n).toNat) (10 * (b * 10 ^ (-(0 - n)).toNat))) = !(ltI (cmpZ (a * 10 ^ (0 - n).toNat) (10 * (b * 10 ^ (-(0 - n)).toNat))) 0) := by
        rw [leI_eq, ltI_eq]
        generalize cmpZ _ _ = z
        by_cases h : (0 : Int) ≤ z
        · rw [decide_eq_true h, decide_eq_false (by omega)]; rfl
        · rw [decide_eq_false h, decide_eq_true (by omega)]; rfl
      rw [e1, c1]
      have e2 := GE_ten a b n
      rw [show 0 - n = -n by omega, show -(-n) = n by omega]
      by_cases h : GE a b (n + 1)
      · rw [decide_eq_true h, decide_eq_false (by have := e2.1 h; omega)]; rfl
      · rw [decide_eq_false h, decide_eq_true (by
          rcases Nat.lt_or_ge (a * 10 ^ (-n).toNat) (10 * (b * 10 ^ n.toNat)) with h3 | h3
          · exact h3
          · exact absurd (e2.2 h3) h)]; rfl
    show ∃ F, s18_1 100000 (l18_1 100000 f) n (Y a) (Y b) = some F ∧ _
    by_cases hg1 : GE a b (n + 1)
    · obtain ⟨m, rfl⟩ : ∃ m', m = m' + 1 := ⟨m - 1, by
        have : n + 1 < U := by
          rcases Int.lt_or_le (n + 1) U with h | h
          · exact h
          · exact absurd (GE_mono hg1 h) hU
        omega⟩
      obtain ⟨F, i1, i2, i3, i4, i5⟩ := l1_spec a b hb ha hbl U hU hUb m f (n + 1) (by omega) (by omega) hg1 (by omega)
      refine ⟨F, ?_, i2, i3, by omega, i5⟩
      unfold s18_1
      rw [subI_i (by omega) (by omega)]
      refine bd (scaled_Z a b (0 - n) (by omega) (by omega) (by omega) (by omega)) (bd ten_Y (bd hc (cT (by rw [hle]; exact decide_eq_true hg1) ?_)))
      rw [addI_i (by omega) (by omega)]
      exact i1
    · refine ⟨n, ?_, hg, hg1, Int.le_refl _, hlt⟩
      unfold s18_1
      rw [subI_i (by omega) (by omega)]
      exact bd (scaled_Z a b (0 - n) (by omega) (by omega) (by omega) (by omega)) (bd ten_Y (bd hc (cF (by rw [hle]; exact decide_eq_false hg1) rfl)))
theorem l0_spec (a b : Nat) (hb : 0 < b) (ha : dl 4294967296 a ≤ 1000) (hbl : dl 4294967296 b ≤ 1000) (L U : Int) (hL : GE a b L) (hLb : -1500 ≤ L) (hU : ¬ GE a b U) (hUb : U ≤ 1500) : ∀ (m f : Nat) (n : Int), m < f → n ≤ 1500 → n ≤ L + m → -1500 ≤ n → ∃ F, l18_0 100000 f n (Y a) (Y b) = some F ∧ GE a b F ∧ ¬ GE a b (F + 1)
  | m, 0, n, h, _, _, _ => absurd h (Nat.not_lt_zero _)
  | m, f + 1, n, hf, hn, hm, ht => by
    have k1 := dls a (0 - n).toNat ha (by omega)
    have k2 := dls b (-(0 - n)).toNat hbl (by omega)
    have d1 : dl 4294967296 1 ≤ 1 := dl_le b32 (by decide)
    have hc := compare_Y (a * 10 ^ (0 - n).toNat) (b * 10 ^ (-(0 - n)).toNat) 1 (by omega) (by omega) (by omega)
    obtain ⟨c1, c2, c3⟩ := cmp_cases (a * 10 ^ (0 - n).toNat) (1 * (b * 10 ^ (-(0 - n)).toNat))
    have hle : ltI (cmpZ (a * 10 ^ (0 - n).toNat) (1 * (b * 10 ^ (-(0 - n)).toNat))) 0 = !(decide (GE a b n)) := by
      rw [c1, Nat.one_mul, show 0 - n = -n by omega, show -(-n) = n by omega]
      unfold GE
      by_cases h : b * 10 ^ n.toNat ≤ a * 10 ^ (-n).toNat
      · rw [decide_eq_true h, decide_eq_false (by omega)]; rfl
      · rw [decide_eq_false h, decide_eq_true (by omega)]; rfl
    show ∃ F, s18_0 100000 (l18_0 100000 f) (l18_1 100000 100000) n (Y a) (Y b) = some F ∧ _
    by_cases hg : GE a b n
    · obtain ⟨F, i1, i2, i3, _, _⟩ := l1_spec a b hb ha hbl U hU hUb 3001 100000 n (by decide) (by omega) hg (by omega)
      refine ⟨F, ?_, i2, i3⟩
      unfold s18_0
      rw [subI_i (by omega) (by omega)]
      exact bd (scaled_Z a b (0 - n) (by omega) (by omega) (by omega) (by omega)) (bd one_Y (bd hc (cF (by rw [hle, decide_eq_true hg]; rfl) i1)))
    · have hLn : L < n := by
        rcases Int.lt_or_le L n with h | h
        · exact h
        · exact absurd (GE_mono hL h) hg
      obtain ⟨m, rfl⟩ : ∃ m', m = m' + 1 := ⟨m - 1, by omega⟩
      obtain ⟨F, i1, i2, i3⟩ := l0_spec a b hb ha hbl L U hL hLb hU hUb m f (n - 1) (by omega) (by omega) (by omega) (by omega)
      refine ⟨F, ?_, i2, i3⟩
      unfold s18_0
      rw [subI_i (by omega) (by omega)]
      refine bd (scaled_Z a b (0 - n) (by omega) (by omega) (by omega) (by omega)) (bd one_Y (bd hc (cT (by rw [hle, decide_eq_false hg]; rfl) ?_)))
      rw [subI_i (by omega) (by omega)]
      exact i1
theorem small_pow (a k : Nat) (h : dl 4294967296 a ≤ k) : a < 10 ^ (10 * k) := by
  have h1 := dl_lt b32 a
  have h2 : 4294967296 ^ dl 4294967296 a ≤ 4294967296 ^ k := Nat.pow_le_pow_right (by decide) h
  have h3 : 4294967296 ^ k ≤ (10 ^ 10) ^ k := Nat.pow_le_pow_left (by decide) k
  rw [← Nat.pow_mul] at h3
  omega
theorem dl2_le (a k : Nat) (h : dl 4294967296 a ≤ k) : dl 2 a ≤ 32 * k := by
  apply dl_le (by decide)
  have h1 := dl_lt b32 a
  have h2 : 4294967296 ^ dl 4294967296 a ≤ 4294967296 ^ k := Nat.pow_le_pow_right (by decide) h
  rw [Nat.pow_mul]
  exact Nat.lt_of_lt_of_le h1 h2
/-- the power of ten of the first digit -/
theorem first_spec (a b : Nat) (ha0 : 0 < a) (hb0 : 0 < b) (ha : dl 4294967296 a ≤ 40) (hb : dl 4294967296 b ≤ 40) : ∃ F, fn_show_number_first 100000 (Y a, Y b) = some F ∧ GE a b F ∧ ¬ GE a b (F + 1) ∧ -400 ≤ F ∧ F ≤ 400 := by
  obtain ⟨k, hk⟩ : ∃ k, k = 40 := ⟨_, rfl⟩
  rw [← hk] at ha hb
  have pa := small_pow a k ha
  have pb := small_pow b k hb
  have la := dl2_le a k ha
  have lb := dl2_le b k hb
  have hL : GE a b (-((10 * k : Nat) : Int)) := by
    unfold GE
    rw [show (-((10 * k : Nat) : Int)).toNat = 0 by omega, show (-(-((10 * k : Nat) : Int))).toNat = 10 * k by omega, Nat.pow_zero, Nat.mul_one]
    exact Nat.le_trans (Nat.le_of_lt pb) (Nat.le_mul_of_pos_left _ ha0)
  have hU : ¬ GE a b ((10 * k : Nat) : Int) := by
    unfold GE
    rw [show (-((10 * k : Nat) : Int)).toNat = 0 by omega, Int.toNat_natCast, Nat.pow_zero, Nat.mul_one]
    have := Nat.le_mul_of_pos_left (10 ^ (10 * k)) hb0
    omega
  have hn : ∃ n0, quoI .i64 (mulI .i64 (subI .i64 (dl 2 a : Int) (dl 2 b : Int)) 30103) 100000 = n0 ∧ -1000 ≤ n0 ∧ n0 ≤ 1000 := by
    refine ⟨_, rfl, ?_⟩
    rw [subI_i (by omega) (by omega), mulI_i (by omega) (by omega)]
    unfold quoI
    have h1 : (((dl 2 a : Int) - (dl 2 b : Int)) * 30103).natAbs ≤ 40000000 := by omega
    have h2 := Int.natAbs_tdiv (((dl 2 a : Int) - (dl 2 b : Int)) * 30103) 100000
    have h3 : (((dl 2 a : Int) - (dl 2 b : Int)) * 30103).natAbs.div (Int.natAbs 100000) ≤ 1000 := by
      show (((dl 2 a : Int) - (dl 2 b : Int)) * 30103).natAbs / 100000 ≤ 1000
      omega
    rw [wrap_i64]
    omega
  obtain ⟨n0, hn0, hn1, hn2⟩ := hn
  obtain ⟨F, i1, i2, i3⟩ := l0_spec a b hb0 (by omega) (by omega) (-((10 * k : Nat) : Int)) ((10 * k : Nat) : Int) hL (by omega) hU (by omega) 2000 100000 n0 (by decide) (by omega) (by omega) (by omega)
  refine ⟨F, ?_, i2, i3, ?_, ?_⟩
  · unfold fn_show_number_first t18
    refine bd (len_eq 100000 a (by omega)) (bd (len_eq 100000 b (by omega)) ?_)
    rw [hn0]
    exact i1
  · rcases Int.lt_or_le F (-((10 * k : Nat) : Int)) with h | h
    · exact absurd (GE_mono hL (show F + 1 ≤ _ by omega)) i3
    · omega
  · rcases Int.lt_or_le ((10 * k : Nat) : Int) F with h | h
    · exact absurd (GE_mono i2 (show ((10 * k : Nat) : Int) ≤ F by omega)) hU
    · omega
end Go.Proofs.YtcdhcihjcjpmkaaGreatDoor.Shw
/- PLAIN FACTS on chapter 14, part 3: a pattern's number, and its borders, as parted; digits laid. No statement is proved here. -/
namespace Go.Proofs.YtcdhcihjcjpmkaaGreatDoor.Shw
open Go Eng Fns Bw Dig Nt Num Slc
open Rn (X Y b32 b16 cmpZ)
set_option linter.unusedVariables false
set_option linter.unusedSimpArgs false
theorem of_Z (sig : Nat) (e : Int) (hs : sig < 18446744073709551616) (h0 : -60000 ≤ e) (h1 : e ≤ 60000) : fn_show_of 100000 (sig : Int) e = some (Y (sig * 2 ^ e.toNat), Y (2 ^ (-e).toNat)) := by
  by_cases h : 0 ≤ e
  · obtain ⟨n, hn⟩ := Int.eq_ofNat_of_zero_le h
    subst hn
    rw [of_pos sig n hs (by omega), show (-(n : Int)).toNat = 0 by omega, Nat.pow_zero, Int.toNat_natCast]
  · rw [of_neg sig e hs h0 (by omega), show e.toNat = 0 by omega, Nat.pow_zero, Nat.mul_one]
/-- v times 2^e times 10^k, as parted -/
def over (v : Nat) (e k : Int) : Nat := v * 2 ^ e.toNat * 10 ^ k.toNat
def under (e k : Int) : Nat := 2 ^ (-e).toNat * 10 ^ (-k).toNat
theorem under_pos (e k : Int) : 0 < under e k := Nat.mul_pos (Nat.pow_pos (by decide)) (Nat.pow_pos (by decide))
theorem dl_over (v : Nat) (e k : Int) (hv : v < 18446744073709551616) (he : e ≤ 1100) (hk : k ≤ 1000) : dl 4294967296 (over v e k) ≤ 1100 := by
  have h1 : dl 4294967296 v ≤ 2 := dl_le b32 (by omega)
  have h2 := dl_mul32 v (2 ^ e.toNat)
  have h3 := dl_two e.toNat
  have h4 := dl_mul32 (v * 2 ^ e.toNat) (10 ^ k.toNat)
  have h5 := dl_pow 10 k.toNat (by decide)
  unfold over
  omega
theorem dl_under (e k : Int) (he : -1100 ≤ e) (hk : -1000 ≤ k) : dl 4294967296 (under e k) ≤ 1100 := by
  have h3 := dl_two (-e).toNat
  have h4 := dl_mul32 (2 ^ (-e).toNat) (10 ^ (-k).toNat)
  have h5 := dl_pow 10 (-k).toNat (by decide)
  unfold under
  omega
/-- of, scaled -/
theorem num_Z {α : Type} (v : Nat) (e k : Int) (hv : v < 18446744073709551616) (h0 : -1100 ≤ e) (h1 : e ≤ 1100) (h2 : -1000 ≤ k) (h3 : k ≤ 1000) (K : List Int × List Int → Option α) (w : Option α) (h : K (Y (over v e k), Y (under e k)) = w) :
    ((fn_show_of 100000 (v : Int) e).bind fun r => (fn_show_number_scaled 100000 (r.1, r.2) k).bind K) = w := by
  have d1 : dl 4294967296 v ≤ 2 := dl_le b32 (by omega)
  have d2 := dl_mul32 v (2 ^ e.toNat)
  have d3 := dl_two e.toNat
  have d4 := dl_two (-e).toNat
  exact bd (of_Z v e hv (by omega) (by omega)) (bd (scaled_Z (v * 2 ^ e.toNat) (2 ^ (-e).toNat) k (by omega) (by omega) (by omega) (by omega)) h)
theorem ds_size (w : Nat) : (DS w).size = max 1 (dl 10 w) := by unfold DS; rw [bs_size, dd_len]
/-- digits laid -/
theorem laid_Z (w n : Nat) (first : Int) (hw : dl 4294967296 w ≤ 100) (hn : n ≤ max 1 (dl 10 w)) (hl : dl 10 w ≤ 2000) (h0 : -1000 ≤ first) (h1 : first ≤ 1000) : fn_show_laid 100000 (Y w) (n : Int) first = some ((DS w).extract 0 n, first + (max 1 (dl 10 w) : Nat) - n) := by
  have hs := ds_size w
  unfold fn_show_laid
  refine bd (decimal_eq 100000 w (by omega) (by omega) (by decide)) (cF rfl (cF (ltI_f (by rw [hs]; omega)) (cT ?_ ?_)))
  · rw [hs, leI_t (show (0 : Int) ≤ (n : Int) by omega), leI_t (show (n : Int) ≤ ((max 1 (dl 10 w) : Nat) : Int) by omega)]; rfl
  · rw [hs, addI_i (by omega) (by omega), subI_i (by omega) (by omega)]
    rfl
theorem w32 (n : Int) (h0 : 0 ≤ n) (h1 : n < 2 ^ 32) : IntKind.u32.wrap n = n := by rw [wrap_u32]; omega
theorem odd_Z (q : Nat) : fn_show_odd 100000 (Y q) = some (decide (q % 2 = 1)) := by
  unfold fn_show_odd
  rw [len_Y]
  by_cases h : 0 < q
  · refine cT (decide_eq_true h) (cT (decide_eq_true h) ?_)
    have e1 := lrd_D b32 q 0
    rw [Nat.pow_zero, Nat.div_one] at e1
    have e2 : lrd (Y q) 0 = ((q % 4294967296 : Nat) : Int) := e1
    rw [e2]
    unfold andI
    have h3 := (bits_nat .u32 32 (by decide) w32 (q % 4294967296) 1 (by omega) (by decide)).1
    rw [show ((1 : Nat) : Int) = 1 from rfl] at h3
    rw [h3, Nat.and_one_is_mod, Nat.mod_mod_of_dvd q (show 2 ∣ 4294967296 by decide)]
    by_cases ho : q % 2 = 1
    · rw [ho, decide_eq_true rfl]; rfl
    · rw [decide_eq_false ho, show q % 2 = 0 by omega]; rfl
  · refine cF (decide_eq_false h) ?_
    rw [show q = 0 by omega]; rfl
/-- the lower border, in quarters -/
def lowN (cls exp : Int) (sig : Nat) : Nat := if cls = 2 ∧ sig = 4503599627370496 ∧ -1074 < exp then 4 * sig - 1 else 4 * sig - 2
theorem between_Z (mi : Bool) (cls exp : Int) (sig : Nat) (h0 : 0 < sig) (h1 : sig < 9007199254740992) : fn_show_between 100000 (mi, cls, exp, (sig : Int)) = some (((lowN cls exp sig : Nat) : Int), ((4 * sig + 2 : Nat) : Int)) := by
  have e1 : mulI .u64 4 (sig : Int) = ((4 * sig : Nat) : Int) := by rw [mulI_u (by omega) (by omega)]; omega
  have e2 : subI .u64 ((4 * sig : Nat) : Int) 2 = ((4 * sig - 2 : Nat) : Int) := by rw [subI_u (by omega) (by omega)]; omega
  have e3 : addI .u64 ((4 * sig : Nat) : Int) 2 = ((4 * sig + 2 : Nat) : Int) := by rw [addI_u (by omega) (by omega)]; omega
  have e4 : addI .u64 ((4 * sig - 2 : Nat) : Int) 1 = ((4 * sig - 1 : Nat) : Int) := by rw [addI_u (by omega) (by omega)]; omega
  unfold fn_show_between
  simp only
  rw [e1, e2, e3, e4]
  unfold lowN
  by_cases c1 : cls = 2
  · refine cT (eqI_t c1) ?_
    by_cases c2 : sig = 4503599627370496
    · refine cT (eqI_t (by omega)) ?_
      by_cases c3 : -1074 < exp
      · refine cT (ltI_t c3) ?_
        rw [if_pos ⟨c1, c2, c3⟩]
      · refine cF (ltI_f c3) ?_
        rw [if_neg (fun h => c3 h.2.2)]
    · refine cF (eqI_f (by omega)) ?_
      rw [if_neg (fun h => c2 h.2.1)]
  · refine cF (eqI_f c1) ?_
    rw [if_neg (fun h => c1 h.1)]
/-- whole numbers that so many digits are: the cut one and the next, whether they lie between -/
def tq (exp k : Int) (sig : Nat) : Nat := over sig exp k / under exp k
def tin (cls exp k : Int) (sig w : Nat) : Bool := inside w (over (lowN cls exp sig) (exp - 2) k) (under (exp - 2) k) (over (4 * sig + 2) (exp - 2) k) (under (exp - 2) k) (decide (sig % 2 = 0))
/-- which of the two is told -/
def tpick (cls exp k : Int) (sig : Nat) : Option Nat :=
  if tin cls exp k sig (tq exp k sig) = true ∧ (tin cls exp k sig (tq exp k sig + 1) = false ∨ over sig exp k % under exp k * 2 < under exp k ∨ (over sig exp k % under exp k * 2 = under exp k ∧ tq exp k sig % 2 = 0)) then some (tq exp k sig)
  else if tin cls exp k sig (tq exp k sig + 1) = true then some (tq exp k sig + 1) else none
theorem tq_dl (exp k : Int) (sig : Nat) (hv : sig < 18446744073709551616) (he : exp ≤ 1100) (hk : k ≤ 1000) : dl 4294967296 (tq exp k sig) ≤ 1100 :=
  Nat.le_trans (dl_le b32 (Nat.lt_of_le_of_lt (Nat.div_le_self _ _) (dl_lt b32 _))) (dl_over sig exp k hv he hk)
theorem even_Z (sig : Nat) (h : sig < 9007199254740992) : eqI (andI .u64 (sig : Int) 1) 0 = decide (sig % 2 = 0) := by
  unfold andI
  have h3 := (bits_nat .u64 64 (by decide) w64 sig 1 (by omega) (by decide)).1
  rw [show ((1 : Nat) : Int) = 1 from rfl] at h3
  rw [h3, Nat.and_one_is_mod, eqI_eq]
  congr 1; apply propext; constructor <;> intro h <;> omega
theorem try_Z (mi : Bool) (cls exp : Int) (sig n : Nat) (first : Int) (h0 : 0 < sig) (h1 : sig < 9007199254740992) (e0 : -1074 ≤ exp) (e1 : exp ≤ 971) (n0 : 1 ≤ n) (n1 : n ≤ 17) (f0 : -400 ≤ first) (f1 : first ≤ 400) :
    ∃ R, fn_show_try 100000 (mi, cls, exp, (sig : Int)) (n : Int) first = R ∧ ∀ L : Nat → ByteArray × Int, (∀ w, tpick cls exp ((n : Int) - 1 - first) sig = some w → fn_show_laid 100000 (Y w) (n : Int) first = some (L w)) →
      R = some (match tpick cls exp ((n : Int) - 1 - first) sig with | some w => (L w, true) | none => ((⟨#[]⟩, 0), false)) := by
  refine ⟨_, rfl, fun L hL => ?_⟩
  have ek : subI .i64 (subI .i64 (n : Int) 1) first = (n : Int) - 1 - first := by rw [subI_i (a := (n : Int)) (by omega) (by omega), subI_i (by omega) (by omega)]
  have ee : subI .i64 exp 2 = exp - 2 := subI_i (by omega) (by omega)
  have hlow : lowN cls exp sig < 18446744073709551616 := by unfold lowN; split <;> omega
  unfold fn_show_try
  simp only
  rw [ek, ee]
  generalize hk : (n : Int) - 1 - first = k at *
  refine bd (between_Z mi cls exp sig h0 h1) ?_
  refine num_Z (lowN cls exp sig) (exp - 2) k hlow (by omega) (by omega) (by omega) (by omega) _ _ ?_
  refine num_Z (4 * sig + 2) (exp - 2) k (by omega) (by omega) (by omega) (by omega) (by omega) _ _ ?_
  refine num_Z sig exp k (by omega) (by omega) (by omega) (by omega) (by omega) _ _ ?_
  have q1 := tq_dl exp k sig (by omega) (by omega) (by omega)
  have q2 := dl_succ (tq exp k sig)
  have d1 := dl_over sig exp k (by omega) (by omega) (by omega)
  have d2 := dl_under exp k (by omega) (by omega)
  have d3 := dl_over (lowN cls exp sig) (exp - 2) k hlow (by omega) (by omega)
  have d4 := dl_under (exp - 2) k (by omega) (by omega)
  have d5 := dl_over (4 * sig + 2) (exp - 2) k (by omega) (by omega) (by omega)
  refine bd (cut_Y _ _ (under_pos exp k) (by omega) (by omega)) ?_
  rw [show over sig exp k / under exp k = tq exp k sig from rfl]
  refine bd (next_Y _ (by omega)) ?_
  rw [even_Z sig h1]
  refine bd (read_Y _ _ _ _ _ _ (by omega) (by omega) (by omega) (by omega) (by omega)) (bd (read_Y _ _ _ _ _ _ (by omega) (by omega) (by omega) (by omega) (by omega)) ?_)
  simp only
  rw [show inside (tq exp k sig) (over (lowN cls exp sig) (exp - 2) k) (under (exp - 2) k) (over (4 * sig + 2) (exp - 2) k) (under (exp - 2) k) (decide (sig % 2 = 0)) = tin cls exp k sig (tq exp k sig) from rfl,
    show inside (tq exp k sig + 1) (over (lowN cls exp sig) (exp - 2) k) (under (exp - 2) k) (over (4 * sig + 2) (exp - 2) k) (under (exp - 2) k) (decide (sig % 2 = 0)) = tin cls exp k sig (tq exp k sig + 1) from rfl]
  obtain ⟨c1, c2, c3⟩ := cmp_cases (over sig exp k % under exp k * 2) (under exp k)
  rw [c1, c3, odd_Z]
  unfold tpick at hL ⊢
  generalize tin cls exp k sig (tq exp k sig + 1) = b at *
  generalize tin cls exp k sig (tq exp k sig) = a at *
  generalize over sig exp k % under exp k * 2 = r at *
  generalize tq exp k sig = q at *
  generalize under exp k = u at *
  have tk : ∀ w, (if a = true ∧ (b = false ∨ r < u ∨ (r = u ∧ q % 2 = 0)) then some q else if b = true then some (q + 1) else none) = some w → ((fn_show_laid 100000 (Y w) (n : Int) first).bind fun r12 => some ((r12.1, r12.2), true)) = some (L w, true) := fun w hw => bd (hL w hw) rfl
  cases a
  · rw [if_neg (fun h => by cases h.1)] at tk ⊢
    cases b
    · rfl
    · exact tk (q + 1) rfl
  · cases b
    · rw [if_pos ⟨rfl, .inl rfl⟩] at tk ⊢
      exact tk q rfl
    · by_cases g1 : r < u
      · rw [if_pos ⟨rfl, .inr (.inl g1)⟩] at tk ⊢
        rw [decide_eq_true g1]
        exact tk q rfl
      · by_cases g2 : r = u
        · by_cases g3 : q % 2 = 0
          · rw [if_pos ⟨rfl, .inr (.inr ⟨g2, g3⟩)⟩] at tk ⊢
            rw [decide_eq_false g1, decide_eq_true g2, decide_eq_false (show ¬ q % 2 = 1 by omega)]
            exact tk q rfl
          · rw [if_neg (by rintro ⟨_, h | h | h⟩; cases h; exact g1 h; exact g3 h.2)] at tk ⊢
            rw [decide_eq_false g1, decide_eq_true g2, decide_eq_true (show q % 2 = 1 by omega)]
            exact tk (q + 1) rfl
        · rw [if_neg (by rintro ⟨_, h | h | h⟩; cases h; exact g1 h; exact g2 h.1)] at tk ⊢
          rw [decide_eq_false g1, decide_eq_false g2]
          exact tk (q + 1) rfl
end Go.Proofs.YtcdhcihjcjpmkaaGreatDoor.Shw
/- PLAIN FACTS on chapter 14, part 4: seventeen digits always tell a pattern. No statement is proved here. -/
namespace Go.Proofs.YtcdhcihjcjpmkaaGreatDoor.Shw
open Go Eng Fns Bw Dig Nt Num Slc
open Rn (X Y b32 b16 cmpZ)
set_option linter.unusedVariables false
set_option linter.unusedSimpArgs false
theorem over_eq (v : Nat) (e k : Int) : over v e k = v * over 1 e k := by
  unfold over; rw [Nat.one_mul, Nat.mul_assoc]
theorem quarter (sig : Nat) (exp k : Int) : over sig exp k * under (exp - 2) k = 4 * sig * over 1 (exp - 2) k * under exp k := by
  have h : 2 ^ exp.toNat * 2 ^ (-(exp - 2)).toNat = 4 * (2 ^ (exp - 2).toNat * 2 ^ (-exp).toNat) := by
    rw [show (4 : Nat) = 2 ^ 2 from rfl, ← Nat.pow_add, ← Nat.pow_add, ← Nat.pow_add]
    congr 1; omega
  unfold over under
  generalize 10 ^ k.toNat = s
  generalize 10 ^ (-k).toNat = t
  have e1 : sig * 2 ^ exp.toNat * s * (2 ^ (-(exp - 2)).toNat * t) = sig * (s * t) * (2 ^ exp.toNat * 2 ^ (-(exp - 2)).toNat) := by ac_rfl
  have e2 : 4 * sig * (1 * 2 ^ (exp - 2).toNat * s) * (2 ^ (-exp).toNat * t) = sig * (s * t) * (4 * (2 ^ (exp - 2).toNat * 2 ^ (-exp).toNat)) := by rw [Nat.one_mul]; ac_rfl
  rw [e1, e2, h]
theorem div_same {a b c d : Nat} (hb : 0 < b) (hd : 0 < d) (h : a * d = c * b) : a / b = c / d := by
  have e1 : a / b = a * d / (b * d) := (Nat.mul_div_mul_right a b hd).symm
  have e2 : c / d = c * b / (d * b) := (Nat.mul_div_mul_right c d hb).symm
  rw [e1, e2, h, Nat.mul_comm b d]
theorem tq_eq (exp k : Int) (sig : Nat) : tq exp k sig = 4 * sig * over 1 (exp - 2) k / under (exp - 2) k :=
  div_same (under_pos _ _) (under_pos _ _) (quarter sig exp k)
theorem inside_of {w a b c d : Nat} {bo : Bool} (h1 : a < w * b) (h2 : w * d < c) : inside w a b c d bo = true := by
  unfold inside; rw [decide_eq_true h1, decide_eq_true h2]; rfl
theorem tpick_some {cls exp k : Int} {sig : Nat} (h : tin cls exp k sig (tq exp k sig) = true ∨ tin cls exp k sig (tq exp k sig + 1) = true) : ∃ w, tpick cls exp k sig = some w := by
  unfold tpick
  split
  · exact ⟨_, rfl⟩
  · rename_i h1
    split
    · exact ⟨_, rfl⟩
    · rename_i h2
      exfalso
      rcases h with h | h
      · exact h1 ⟨h, .inl (by simpa using h2)⟩
      · exact h2 h
theorem tpick_in {cls exp k : Int} {sig w : Nat} (h : tpick cls exp k sig = some w) : tin cls exp k sig w = true ∧ (w = tq exp k sig ∨ w = tq exp k sig + 1) := by
  unfold tpick at h
  split at h
  · rename_i h1; injection h with h; subst h; exact ⟨h1.1, .inl rfl⟩
  · split at h
    · rename_i h2; injection h with h; subst h; exact ⟨h2, .inr rfl⟩
    · cases h
theorem tpick17 (cls exp k : Int) (sig : Nat) (h0 : 0 < sig) (h1 : sig < 9007199254740992) (h : 10000000000000000 * under exp k ≤ over sig exp k) : ∃ w, tpick cls exp k sig = some w := by
  refine tpick_some ?_
  have hq := tq_eq exp k sig
  have hqr := quarter sig exp k
  have hB := under_pos (exp - 2) k
  have hU := under_pos exp k
  have hbig : 10000000000000000 * under (exp - 2) k ≤ 4 * sig * over 1 (exp - 2) k := by
    have a1 := Nat.mul_le_mul_right (under (exp - 2) k) h
    rw [hqr] at a1
    have a2 : 10000000000000000 * under exp k * under (exp - 2) k = 10000000000000000 * under (exp - 2) k * under exp k := by ac_rfl
    rw [a2] at a1
    exact Nat.le_of_mul_le_mul_right a1 hU
  unfold tin
  rw [over_eq (lowN cls exp sig), over_eq (4 * sig + 2), hq]
  generalize over 1 (exp - 2) k = A at *
  generalize under (exp - 2) k = B at *
  have hdm := Nat.div_add_mod (4 * sig * A) B
  have hr := Nat.mod_lt (4 * sig * A) hB
  rw [Nat.mul_comm B] at hdm
  generalize 4 * sig * A / B = q at *
  generalize 4 * sig * A % B = r at *
  have e1 : (q + 1) * B = q * B + B := by rw [Nat.add_mul, Nat.one_mul]
  have e2 : (4 * sig + 2) * A = 4 * sig * A + 2 * A := Nat.add_mul ..
  have hA0 : 0 < A := by
    rcases Nat.eq_zero_or_pos A with hz | hz
    · subst hz; rw [Nat.mul_zero] at hbig; omega
    · exact hz
  have hA : B < 4 * A := by
    have a1 : 4 * sig * A ≤ 4 * 9007199254740991 * A := Nat.mul_le_mul_right _ (by omega)
    omega
  have hlow : lowN cls exp sig = 4 * sig - 2 ∨ (lowN cls exp sig = 4 * sig - 1 ∧ sig = 4503599627370496) := by
    unfold lowN
    split
    · rename_i hh; exact .inr ⟨rfl, hh.2.1⟩
    · exact .inl rfl
  rcases hlow with hl | ⟨hl, hs⟩
  · have e3 : lowN cls exp sig * A = 4 * sig * A - 2 * A := by rw [hl, Nat.sub_mul]
    have e4 : 2 * A ≤ 4 * sig * A := Nat.mul_le_mul_right _ (by omega)
    by_cases hc : r < 2 * A
    · exact .inl (inside_of (by rw [e3]; omega) (by rw [e2]; omega))
    · exact .inr (inside_of (by rw [e3, e1]; omega) (by rw [e2, e1]; omega))
  · right
    have e3 : lowN cls exp sig * A = 4 * sig * A - A := by rw [hl, Nat.sub_mul, Nat.one_mul]
    have e5 : B < 2 * A := by
      rw [hs] at hbig
      omega
    exact inside_of (by rw [e3, e1]; omega) (by rw [e2, e1]; omega)
end Go.Proofs.YtcdhcihjcjpmkaaGreatDoor.Shw
/- PLAIN FACTS on chapter 14, part 5: how many digits the cut number has. No statement is proved here. -/
namespace Go.Proofs.YtcdhcihjcjpmkaaGreatDoor.Shw
open Go Eng Fns Bw Dig Nt Num Slc
open Rn (X Y b32 b16 cmpZ)
set_option linter.unusedVariables false
set_option linter.unusedSimpArgs false
theorem scale_iff (a b m : Nat) (F k : Int) (hk : k = (m : Int) - F) : GE a b F ↔ 10 ^ m * (b * 10 ^ (-k).toNat) ≤ a * 10 ^ k.toNat := by
  have h : 10 ^ F.toNat * 10 ^ k.toNat = 10 ^ m * 10 ^ (-k).toNat * 10 ^ (-F).toNat := by
    rw [← Nat.pow_add, ← Nat.pow_add, ← Nat.pow_add]; congr 1; omega
  have e1 : b * 10 ^ F.toNat * 10 ^ k.toNat = 10 ^ m * (b * 10 ^ (-k).toNat) * 10 ^ (-F).toNat := by
    rw [Nat.mul_assoc, h]; ac_rfl
  have e2 : a * 10 ^ (-F).toNat * 10 ^ k.toNat = a * 10 ^ k.toNat * 10 ^ (-F).toNat := by ac_rfl
  have p1 : 0 < 10 ^ k.toNat := Nat.pow_pos (by decide)
  have p2 : 0 < 10 ^ (-F).toNat := Nat.pow_pos (by decide)
  unfold GE
  constructor
  · intro h1
    have h2 := Nat.mul_le_mul_right (10 ^ k.toNat) h1
    rw [e1, e2] at h2
    exact Nat.le_of_mul_le_mul_right h2 p2
  · intro h1
    have h2 := Nat.mul_le_mul_right (10 ^ (-F).toNat) h1
    rw [← e1, ← e2] at h2
    exact Nat.le_of_mul_le_mul_right h2 p1
/-- the first n digits, cut, are n digits -/
theorem tq_digits (exp F : Int) (sig n : Nat) (hn : 1 ≤ n) (h1 : GE (sig * 2 ^ exp.toNat) (2 ^ (-exp).toNat) F) (h2 : ¬ GE (sig * 2 ^ exp.toNat) (2 ^ (-exp).toNat) (F + 1)) :
    10 ^ (n - 1) * under exp ((n : Int) - 1 - F) ≤ over sig exp ((n : Int) - 1 - F) ∧ 10 ^ (n - 1) ≤ tq exp ((n : Int) - 1 - F) sig ∧ tq exp ((n : Int) - 1 - F) sig < 10 ^ n := by
  have a1 := (scale_iff _ _ (n - 1) F ((n : Int) - 1 - F) (by omega)).1 h1
  have a2 := mt (scale_iff (sig * 2 ^ exp.toNat) (2 ^ (-exp).toNat) n (F + 1) ((n : Int) - 1 - F) (by omega)).2 h2
  have hu := under_pos exp ((n : Int) - 1 - F)
  refine ⟨a1, ?_, ?_⟩
  · unfold tq
    rw [Nat.le_div_iff_mul_le hu]
    exact a1
  · unfold tq
    rw [Nat.div_lt_iff_lt_mul hu]
    exact Nat.lt_of_not_le a2
theorem seventeen (cls exp F : Int) (sig : Nat) (h0 : 0 < sig) (hs : sig < 9007199254740992) (h1 : GE (sig * 2 ^ exp.toNat) (2 ^ (-exp).toNat) F) (h2 : ¬ GE (sig * 2 ^ exp.toNat) (2 ^ (-exp).toNat) (F + 1)) :
    ∃ w, tpick cls exp (((17 : Nat) : Int) - 1 - F) sig = some w :=
  tpick17 cls exp _ sig h0 hs (tq_digits exp F sig 17 (by decide) h1 h2).1
/-- what is told has so many digits, or is the next power of ten -/
theorem pick_digits {cls exp F : Int} {sig n w : Nat} (hn : 1 ≤ n) (h1 : GE (sig * 2 ^ exp.toNat) (2 ^ (-exp).toNat) F) (h2 : ¬ GE (sig * 2 ^ exp.toNat) (2 ^ (-exp).toNat) (F + 1)) (h : tpick cls exp ((n : Int) - 1 - F) sig = some w) :
    10 ^ (n - 1) ≤ w ∧ w ≤ 10 ^ n := by
  obtain ⟨_, b1, b2⟩ := tq_digits exp F sig n hn h1 h2
  rcases (tpick_in h).2 with rfl | rfl <;> omega
end Go.Proofs.YtcdhcihjcjpmkaaGreatDoor.Shw
/- PLAIN FACTS on chapter 14, part 6: what Short answers for a number. No statement is proved here. -/
namespace Go.Proofs.YtcdhcihjcjpmkaaGreatDoor.Shw
open Go Eng Fns Bw Dig Nt Num Slc
open Rn (X Y b32 b16 cmpZ)
set_option linter.unusedVariables false
set_option linter.unusedSimpArgs false
/-- the power of the first digit told -/
def pw (F : Int) (n w : Nat) : Int := F + (max 1 (dl 10 w) : Nat) - n
theorem laid_pick {cls exp F : Int} {sig n w : Nat} (hn : 1 ≤ n) (hn2 : n ≤ 17) (f0 : -400 ≤ F) (f1 : F ≤ 400) (h1 : GE (sig * 2 ^ exp.toNat) (2 ^ (-exp).toNat) F) (h2 : ¬ GE (sig * 2 ^ exp.toNat) (2 ^ (-exp).toNat) (F + 1)) (h : tpick cls exp ((n : Int) - 1 - F) sig = some w) :
    n ≤ dl 10 w ∧ dl 10 w ≤ n + 1 ∧ fn_show_laid 100000 (Y w) (n : Int) F = some ((DS w).extract 0 n, pw F n w) := by
  obtain ⟨c1, c2⟩ := pick_digits hn h1 h2 h
  have d1 : n - 1 < dl 10 w := dl_gt (by decide) c1
  have d2 : dl 10 w ≤ n + 1 := dl_le (by decide) (Nat.lt_of_le_of_lt c2 (Nat.pow_lt_pow_right (by decide) (by omega)))
  have d3 : dl 4294967296 w ≤ 2 := dl_le b32 (by
    have : 10 ^ n ≤ 10 ^ 17 := Nat.pow_le_pow_right (by decide) hn2
    omega)
  exact ⟨by omega, d2, laid_Z w n F (by omega) (by omega) (by omega) (by omega) (by omega)⟩
theorem short_loop (mi : Bool) (cls exp F : Int) (sig : Nat) (h0 : 0 < sig) (hs : sig < 9007199254740992) (e0 : -1074 ≤ exp) (e1 : exp ≤ 971) (f0 : -400 ≤ F) (f1 : F ≤ 400) (h1 : GE (sig * 2 ^ exp.toNat) (2 ^ (-exp).toNat) F) (h2 : ¬ GE (sig * 2 ^ exp.toNat) (2 ^ (-exp).toNat) (F + 1)) :
    ∀ (m f n : Nat), m < f → n + m = 17 → 1 ≤ n → ∃ n' w : Nat, 1 ≤ n' ∧ n' ≤ 17 ∧ tpick cls exp ((n' : Int) - 1 - F) sig = some w ∧ l6_0 100000 f F (n : Int) mi cls exp (sig : Int) = fn_text 100000 ((DS w).extract 0 n') (pw F n' w) mi
  | m, 0, n, h, _, _ => absurd h (Nat.not_lt_zero _)
  | m, f + 1, n, hf, hm, hn => by
    obtain ⟨R, r1, r2⟩ := try_Z mi cls exp sig n F h0 hs e0 e1 hn (by omega) f0 f1
    have r3 := r2 (fun w => ((DS w).extract 0 n, pw F n w)) (fun w hw => (laid_pick hn (by omega) f0 f1 h1 h2 hw).2.2)
    have eta : ∀ o : Option ByteArray, (o.bind fun r7 => some r7) = o := fun o => by cases o <;> rfl
    have unf : l6_0 100000 (f + 1) F (n : Int) mi cls exp (sig : Int) = s6_0 100000 (l6_0 100000 f) F (n : Int) mi cls exp (sig : Int) := rfl
    by_cases h17 : n < 17
    · cases hp : tpick cls exp ((n : Int) - 1 - F) sig with
      | some w =>
        refine ⟨n, w, hn, by omega, hp, ?_⟩
        rw [unf]
        unfold s6_0
        rw [hp] at r3
        exact cT (ltI_t (by omega)) (bd (r1.trans r3) (cT rfl (eta _)))
      | none =>
        obtain ⟨m, rfl⟩ : ∃ m', m = m' + 1 := ⟨m - 1, by omega⟩
        obtain ⟨n', w, i1, i2, i3, i4⟩ := short_loop mi cls exp F sig h0 hs e0 e1 f0 f1 h1 h2 m f (n + 1) (by omega) (by omega) (by omega)
        refine ⟨n', w, i1, i2, i3, ?_⟩
        rw [unf]
        unfold s6_0
        rw [hp] at r3
        refine cT (ltI_t (by omega)) (bd (r1.trans r3) (cF rfl ?_))
        rw [addI_i (by omega) (by omega), show (n : Int) + 1 = ((n + 1 : Nat) : Int) by omega]
        exact i4
    · have hn17 : n = 17 := by omega
      subst hn17
      obtain ⟨w, hw⟩ := seventeen cls exp F sig h0 hs h1 h2
      refine ⟨17, w, by decide, Nat.le_refl _, hw, ?_⟩
      rw [unf]
      unfold s6_0
      rw [hw] at r3
      exact cF (ltI_f (by omega)) (bd (r1.trans r3) (eta _))
end Go.Proofs.YtcdhcihjcjpmkaaGreatDoor.Shw
/- PLAIN FACTS on chapter 13, part 1: beginnings of texts. No statement is proved here. -/
namespace Go.Proofs.YtcdhcihjcjpmkaaGreatDoor.Shw
open Go Eng Fns Bw Dig Nt Num Slc
set_option linter.unusedVariables false
set_option linter.unusedSimpArgs false
/-- does a text begin so? -/
def pre (s t : ByteArray) : Bool := cond (Nat.ble t.size s.size) (eqS (s.extract 0 t.size) t) false
theorem le_ble (a b : Nat) : leI (a : Int) (b : Int) = Nat.ble a b := by
  cases h : Nat.ble a b
  · refine leI_f (fun h2 => ?_)
    have h3 : Nat.ble a b = true := by rw [Nat.ble_eq]; omega
    rw [h] at h3; cases h3
  · rw [Nat.ble_eq] at h; exact leI_t (by omega)
theorem pre_eq (N : Nat) (s t : ByteArray) : fn_strings_HasPrefix N s t = some (pre s t) := by
  unfold fn_strings_HasPrefix fn_stringslite_HasPrefix pre
  rw [le_ble]
  cases h : Nat.ble t.size s.size
  · rfl
  · rw [show leI 0 0 = true from rfl, show leI 0 (t.size : Int) = true from leI_t (by omega)]; rfl
theorem preF_eq (N : Nat) (s t : ByteArray) : Fds.fn_strings_HasPrefix N s t = some (pre s t) := by
  unfold Fds.fn_strings_HasPrefix Fds.fn_stringslite_HasPrefix pre
  rw [le_ble]
  cases h : Nat.ble t.size s.size
  · rfl
  · rw [show leI 0 0 = true from rfl, show leI 0 (t.size : Int) = true from leI_t (by omega)]; rfl
theorem cutF_eq (N : Nat) (s t : ByteArray) : Fds.fn_strings_CutPrefix N s t = some (cond (pre s t) (s.extract t.size s.size, true) (s, false)) := by
  have h1 := preF_eq N s t
  have h2 : Fds.fn_stringslite_HasPrefix N s t = some (pre s t) := by
    unfold Fds.fn_strings_HasPrefix at h1
    cases h : Fds.fn_stringslite_HasPrefix N s t with
    | none => rw [h] at h1; cases h1
    | some r => rw [h] at h1; exact h1
  unfold Fds.fn_strings_CutPrefix Fds.fn_stringslite_CutPrefix
  rw [h2, Option.bind_some]
  cases h : pre s t
  · rfl
  · have hle : Nat.ble t.size s.size = true := by
      unfold pre at h
      cases h3 : Nat.ble t.size s.size
      · rw [h3] at h; cases h
      · rfl
    rw [le_ble, le_ble, hle, show leI 0 (t.size : Int) = true from leI_t (by omega), show Nat.ble s.size s.size = true by rw [Nat.ble_eq]; exact Nat.le_refl _]
    rfl
end Go.Proofs.YtcdhcihjcjpmkaaGreatDoor.Shw
/- PLAIN FACTS on chapter 14, part 7: Short of a finite pattern that is not nought. No statement is proved here. -/
namespace Go.Proofs.YtcdhcihjcjpmkaaGreatDoor.Shw
open Go Eng Fns Bw Dig Nt Num Slc
open Rn (X Y b32 b16 cmpZ)
open Go.Proofs.YtcdhcihjcjpmkaaGreatDoor.Patp Go.Proofs.YtcdhcihjcjpmkaaGreatDoor.Top
set_option linter.unusedVariables false
set_option linter.unusedSimpArgs false
theorem cls_zero {a : Int} (ha : okF a) (h : 0 < sz a) : eqI (clsR a) 0 = false := by
  obtain ⟨⟨h0, h1⟩, h2⟩ := ha
  unfold sz at h h2
  have hne : eN a ≠ 2047 := by unfold eN; omega
  unfold clsR
  rw [if_neg hne]
  by_cases h3 : eN a = 0
  · rw [if_pos h3]
    have : 0 < fN a := by unfold eN at h3; unfold fN; omega
    rw [if_pos this]; rfl
  · rw [if_neg h3]; rfl
theorem special_F {a : Int} (ha : okF a) : fn_show_special 100000 a = some (⟨#[]⟩, false) := by
  unfold fn_show_special
  exact bd (takeP_eq 100000 a ha.1.1 ha.1.2) (bd (nan_eq 100000 a ha.1.1 ha.1.2) (cF (okF_nan ha) (cF (okF_cls ha) (cF (okF_cls ha) rfl))))
/-- Short of a number -/
theorem short_F {a : Int} (ha : okF a) (hz : 0 < sz a) : ∃ (sig : Nat) (F : Int) (n w : Nat), sigR a = (sig : Int) ∧ 0 < sig ∧ sig < 9007199254740992 ∧ -1074 ≤ expR a ∧ expR a ≤ 971 ∧ -400 ≤ F ∧ F ≤ 400 ∧ GE (sig * 2 ^ (expR a).toNat) (2 ^ (-(expR a)).toNat) F ∧ ¬ GE (sig * 2 ^ (expR a).toNat) (2 ^ (-(expR a)).toNat) (F + 1) ∧
    1 ≤ n ∧ n ≤ 17 ∧ tpick (clsR a) (expR a) ((n : Int) - 1 - F) sig = some w ∧ fn_show_Short 100000 a = fn_text 100000 ((DS w).extract 0 n) (pw F n w) (mn a) := by
  obtain ⟨sig, s1, s2, s3, s4, s5, _⟩ := sig_val 3000 ha.1 ha.2
  have hsig : 0 < sig := by
    rcases Nat.eq_zero_or_pos sig with h | h
    · rw [h, Nat.zero_mul] at s3
      have := VN_eq0 (K := 3000) (by decide) s3
      omega
    · exact h
  have d1 : dl 4294967296 sig ≤ 2 := dl_le b32 (by omega)
  have d2 := dl_mul32 sig (2 ^ (expR a).toNat)
  have d3 := dl_two (expR a).toNat
  have d4 := dl_two (-(expR a)).toNat
  obtain ⟨F, f1, f2, f3, f4, f5⟩ := first_spec (sig * 2 ^ (expR a).toNat) (2 ^ (-(expR a)).toNat) (Nat.mul_pos hsig (Nat.pow_pos (by decide))) (Nat.pow_pos (by decide)) (by omega) (by omega)
  obtain ⟨n, w, i1, i2, i3, i4⟩ := short_loop (mn a) (clsR a) (expR a) F sig hsig (by omega) s4 s5 f4 f5 f2 f3 16 100000 1 (by decide) rfl (by decide)
  refine ⟨sig, F, n, w, s1, hsig, by omega, s4, s5, f4, f5, f2, f3, i1, i2, i3, ?_⟩
  unfold fn_show_Short t6
  refine bd (special_F ha) (cF rfl (bd (takeP_eq 100000 a ha.1.1 ha.1.2) (cF (cls_zero ha hz) ?_)))
  simp only [s1]
  exact bd (of_Z sig (expR a) (by omega) (by omega) (by omega)) (bd f1 i4)
end Go.Proofs.YtcdhcihjcjpmkaaGreatDoor.Shw
