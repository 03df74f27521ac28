/- PLAIN LEMMAS: lists of digits as numbers, to any base. No program, no statement. -/
import Derived.Test.YtopcajgknbmbcaaGreatDoorTab
namespace Go.Proofs.YtopcajgknbmbcaaGreatDoor.Dig
set_option linter.unusedVariables false
open Go Go.RowKit Go.Proofs.YtopcajgknbmbcaaGreatDoor.Eng Go.Proofs.YtopcajgknbmbcaaGreatDoor.Bw
/-- the first k digits of n -/
def T (b k n : Nat) : List Int := (List.range k).map fun j => ((n / b ^ j % b : Nat) : Int)
@[simp] theorem T_len (b k n : Nat) : (T b k n).length = k := by simp [T]
theorem T_get {b k n i : Nat} (h : i < k) : (T b k n)[i]? = some ((n / b ^ i % b : Nat) : Int) := by simp [T, h]
theorem lrd_T {b k n i : Nat} (h : i < k) : lrd (T b k n) (i : Int) = ((n / b ^ i % b : Nat) : Int) := by
  unfold lrd; rw [List.getD_eq_getElem?_getD, Int.toNat_natCast, T_get h]; rfl
theorem list_ext {xs ys : List Int} (hl : xs.length = ys.length) (h : ∀ i, i < xs.length → xs[i]? = ys[i]?) : xs = ys := by
  apply List.ext_getElem?
  intro i
  by_cases hi : i < xs.length
  · exact h i hi
  · rw [List.getElem?_eq_none (by omega), List.getElem?_eq_none (by omega)]
theorem T_zero (b n : Nat) : T b 0 n = [] := rfl
theorem T_succ (b k n : Nat) : T b (k + 1) n = T b k n ++ [((n / b ^ k % b : Nat) : Int)] := by
  unfold T; rw [List.range_succ, List.map_append]; rfl
theorem T_take {b k n m : Nat} (h : m ≤ k) : (T b k n).take m = T b m n := by
  apply list_ext (by simp; omega)
  intro i hi
  simp at hi
  rw [List.getElem?_take_of_lt (by omega), T_get (by omega), T_get (by omega)]
theorem pow_pos {b : Nat} (hb : 0 < b) (n : Nat) : 0 < b ^ n := Nat.pow_pos hb
theorem T_drop {b k n m : Nat} : (T b k n).drop m = T b (k - m) (n / b ^ m) := by
  apply list_ext (by simp)
  intro i hi
  simp at hi
  rw [List.getElem?_drop, T_get (by omega), T_get (by omega), Nat.div_div_eq_div_mul, ← Nat.pow_add]
theorem mod_pow_div {b : Nat} (hb : 0 < b) (n : Nat) {i k : Nat} (h : i < k) : n % b ^ k / b ^ i % b = n / b ^ i % b := by
  have e : b ^ k = b ^ i * b ^ (k - i) := by rw [← Nat.pow_add]; congr 1; omega
  rw [e, Nat.mod_mul_right_div_self]
  obtain ⟨c, hc⟩ : ∃ c, k - i = c + 1 := ⟨k - i - 1, by omega⟩
  rw [hc, Nat.pow_succ, Nat.mod_mul_left_mod]
theorem T_mod {b : Nat} (hb : 0 < b) (k n : Nat) : T b k (n % b ^ k) = T b k n := by
  apply list_ext (by simp)
  intro i hi
  simp at hi
  rw [T_get hi, T_get hi, mod_pow_div hb n hi]
theorem T_append {b : Nat} (hb : 0 < b) (k l m n : Nat) (hm : m < b ^ k) : T b k m ++ T b l n = T b (k + l) (m + b ^ k * n) := by
  apply list_ext (by simp)
  intro i hi
  simp at hi
  rw [T_get hi]
  by_cases h : i < k
  · rw [List.getElem?_append_left (by simpa using h), T_get h, ← mod_pow_div hb (m + b ^ k * n) h, Nat.add_mul_mod_self_left, Nat.mod_eq_of_lt hm]
  · rw [List.getElem?_append_right (by simp; omega), T_len, T_get (by omega)]
    congr 3
    obtain ⟨j, rfl⟩ : ∃ j, i = k + j := ⟨i - k, by omega⟩
    rw [Nat.add_sub_cancel_left, Nat.pow_add, ← Nat.div_div_eq_div_mul, Nat.add_mul_div_left _ _ (pow_pos hb k), Nat.div_eq_of_lt hm, Nat.zero_add]
theorem T_val {b : Nat} (hb : 0 < b) : ∀ (k m n : Nat), T b k m = T b k n → m % b ^ k = n % b ^ k := by
  intro k
  induction k with
  | zero => intro m n _; simp [Nat.mod_one]
  | succ k ih =>
    intro m n h
    rw [T_succ, T_succ] at h
    obtain ⟨h1, h2⟩ := List.append_inj h (by simp)
    have := ih m n h1
    simp only [List.cons.injEq, and_true] at h2
    rw [Nat.pow_succ, Nat.mod_mul, Nat.mod_mul, this]
    congr 2
    omega
theorem T_inj {b : Nat} (hb : 0 < b) {k m n : Nat} (hm : m < b ^ k) (hn : n < b ^ k) (h : T b k m = T b k n) : m = n := by
  have := T_val hb k m n h
  rwa [Nat.mod_eq_of_lt hm, Nat.mod_eq_of_lt hn] at this
/-- any list of digits -/
theorem T_all {b : Nat} (hb : 0 < b) : ∀ (xs : List Int), (∀ x ∈ xs, 0 ≤ x ∧ x < (b : Int)) → ∃ n, n < b ^ xs.length ∧ xs = T b xs.length n
  | [], _ => ⟨0, by simp, rfl⟩
  | x :: xs, h => by
    obtain ⟨n, hn, e⟩ := T_all hb xs fun y hy => h y (by simp [hy])
    obtain ⟨h0, h1⟩ := h x (by simp)
    obtain ⟨a, rfl⟩ := Int.eq_ofNat_of_zero_le h0
    have ha : a < b := by omega
    refine ⟨a + b * n, ?_, ?_⟩
    · rw [List.length_cons, Nat.pow_succ]
      have : b * (n + 1) ≤ b * b ^ xs.length := Nat.mul_le_mul_left _ hn
      rw [Nat.mul_comm (b ^ xs.length) b]; rw [Nat.mul_add, Nat.mul_one] at this; omega
    · have := T_append hb 1 xs.length a n (by simpa using ha)
      rw [Nat.pow_one, ← e] at this
      rw [List.length_cons, Nat.add_comm xs.length 1, ← this]
      simp [T]
      rw [← Int.natCast_emod, Nat.mod_eq_of_lt ha]
theorem T_pad {b : Nat} (hb : 0 < b) {k l n : Nat} (hn : n < b ^ k) : T b (k + l) n = T b k n ++ List.replicate l 0 := by
  have := T_append hb k l n 0 hn
  rw [Nat.mul_zero, Nat.add_zero] at this
  rw [← this]; congr 1
  apply list_ext (by simp)
  intro i hi
  simp at hi
  rw [T_get hi]; simp [hi]
theorem T_nought {b : Nat} (hb : 0 < b) (k : Nat) : T b k 0 = List.replicate k 0 := by
  have := T_pad hb (k := 0) (l := k) (n := 0) (by simp)
  simpa [T_zero] using this
theorem T_set {b : Nat} (hb : 1 < b) {k n i v : Nat} (hi : i < k) (hv : v < b) : (T b k n).set i (v : Int) = T b k (n % b ^ i + b ^ i * v + b ^ (i + 1) * (n / b ^ (i + 1))) := by
  have hb0 : 0 < b := by omega
  apply list_ext (by simp)
  intro j hj
  simp at hj
  have hlt : n % b ^ i + b ^ i * v < b ^ (i + 1) := by
    have h1 : n % b ^ i < b ^ i := Nat.mod_lt _ (pow_pos hb0 i)
    have h2 : b ^ i * (v + 1) ≤ b ^ i * b := Nat.mul_le_mul_left _ hv
    rw [Nat.mul_add, Nat.mul_one] at h2
    rw [Nat.pow_succ]; omega
  rw [List.getElem?_set, T_get hj]
  by_cases e : i = j
  · subst e
    rw [if_pos rfl, if_pos (by simpa using hj), T_get hj]
    rw [← mod_pow_div hb0 (n % b ^ i + b ^ i * v + b ^ (i + 1) * (n / b ^ (i + 1))) (Nat.lt_succ_self i), Nat.succ_eq_add_one, Nat.add_mul_mod_self_left, Nat.mod_eq_of_lt hlt, Nat.add_mul_div_left _ _ (pow_pos hb0 i),
      Nat.div_eq_of_lt (Nat.mod_lt _ (pow_pos hb0 i)), Nat.zero_add, Nat.mod_eq_of_lt hv]
  · rw [if_neg e, T_get hj]
    rcases Nat.lt_or_gt_of_ne e with h | h
    · congr 2
      obtain ⟨l, rfl⟩ : ∃ l, j = i + 1 + l := ⟨j - i - 1, by omega⟩
      rw [Nat.pow_add, ← Nat.div_div_eq_div_mul, ← Nat.div_div_eq_div_mul, Nat.add_mul_div_left _ _ (pow_pos hb0 _), Nat.div_eq_of_lt hlt, Nat.zero_add]
    · congr 2
      rw [← mod_pow_div hb0 (n % b ^ i + b ^ i * v + b ^ (i + 1) * (n / b ^ (i + 1))) h, Nat.pow_succ, Nat.mul_assoc, Nat.add_mul_mod_self_left, Nat.add_mul_mod_self_left, Nat.mod_mod, mod_pow_div hb0 n h]

/-- how many digits -/
def dl (b n : Nat) : Nat := if h : 1 < b ∧ 0 < n then dl b (n / b) + 1 else 0
termination_by n
decreasing_by exact Nat.div_lt_self h.2 h.1
theorem dl_zero (b : Nat) : dl b 0 = 0 := by rw [dl]; simp
theorem dl_pos {b n : Nat} (hb : 1 < b) (hn : 0 < n) : dl b n = dl b (n / b) + 1 := by rw [dl, dif_pos ⟨hb, hn⟩]
theorem dl_spec {b : Nat} (hb : 1 < b) (n : Nat) : n < b ^ dl b n ∧ (0 < n → b ^ (dl b n - 1) ≤ n ∧ 0 < dl b n) := by
  induction n using Nat.strongRecOn with
  | ind n ih =>
    by_cases hn : 0 < n
    · rw [dl_pos hb hn]
      have h := ih (n / b) (Nat.div_lt_self hn hb)
      refine ⟨?_, fun _ => ⟨?_, by omega⟩⟩
      · rw [Nat.pow_succ]; exact (Nat.div_lt_iff_lt_mul (by omega)).1 h.1
      · rw [Nat.add_sub_cancel]
        by_cases h0 : 0 < n / b
        · obtain ⟨h1, h2⟩ := h.2 h0
          have : b ^ dl b (n / b) = b ^ (dl b (n / b) - 1) * b := by rw [← Nat.pow_succ]; congr 1; omega
          rw [this]; exact (Nat.le_div_iff_mul_le (by omega)).1 h1
        · rw [Nat.eq_zero_of_not_pos h0, dl_zero, Nat.pow_zero]; exact hn
    · have : n = 0 := by omega
      subst this; rw [dl_zero]; simp
theorem dl_lt {b : Nat} (hb : 1 < b) (n : Nat) : n < b ^ dl b n := (dl_spec hb n).1
theorem dl_le {b : Nat} (hb : 1 < b) {n k : Nat} (h : n < b ^ k) : dl b n ≤ k := by
  by_cases hn : 0 < n
  · obtain ⟨h1, h2⟩ := (dl_spec hb n).2 hn
    have h3 : b ^ (dl b n - 1) < b ^ k := Nat.lt_of_le_of_lt h1 h
    have := (Nat.pow_lt_pow_iff_right hb).1 h3
    omega
  · have : n = 0 := by omega
    subst this; rw [dl_zero]; omega
theorem dl_gt {b : Nat} (hb : 1 < b) {n k : Nat} (h : b ^ k ≤ n) : k < dl b n := (Nat.pow_lt_pow_iff_right hb).1 (Nat.lt_of_le_of_lt h (dl_lt hb n))
theorem dl_eq {b : Nat} (hb : 1 < b) {n k : Nat} (h1 : b ^ k ≤ n) (h2 : n < b ^ (k + 1)) : dl b n = k + 1 := by
  have := dl_le hb h2; have := dl_gt hb h1; omega
theorem dl_nil {b n : Nat} (hb : 1 < b) : dl b n = 0 ↔ n = 0 := by
  constructor
  · intro h; have := dl_lt hb n; rw [h] at this; simpa using this
  · rintro rfl; exact dl_zero b
/-- a number's digits, as many as it has -/
def D (b n : Nat) : List Int := T b (dl b n) n
theorem D_len (b n : Nat) : (D b n).length = dl b n := T_len ..
theorem D_nil (b : Nat) : D b 0 = [] := by unfold D; rw [dl_zero]; rfl
theorem lrd_D {b : Nat} (hb : 1 < b) (n i : Nat) : lrd (D b n) (i : Int) = ((n / b ^ i % b : Nat) : Int) := by
  by_cases h : i < dl b n
  · exact lrd_T h
  · have e : n / b ^ i = 0 := Nat.div_eq_of_lt (Nat.lt_of_lt_of_le (dl_lt hb n) (Nat.pow_le_pow_right (by omega) (by omega)))
    rw [e, Nat.zero_mod]
    unfold lrd
    rw [List.getD_eq_getElem?_getD, List.getElem?_eq_none (by rw [D_len, Int.toNat_natCast]; omega)]; rfl
theorem D_inj {b : Nat} (hb : 1 < b) {m n : Nat} (h : D b m = D b n) : m = n := by
  have hl : dl b m = dl b n := by rw [← D_len, ← D_len, h]
  unfold D at h
  rw [hl] at h
  exact T_inj (by omega) (hl ▸ dl_lt hb m) (dl_lt hb n) h
theorem D_pad {b : Nat} (hb : 1 < b) {k n : Nat} (h : n < b ^ k) : T b k n = D b n ++ List.replicate (k - dl b n) 0 := by
  have := T_pad (by omega : 0 < b) (l := k - dl b n) (dl_lt hb n)
  rw [show dl b n + (k - dl b n) = k from by have := dl_le hb h; omega] at this
  exact this
/-- the highest digit -/
theorem D_top {b : Nat} (hb : 1 < b) {n : Nat} (hn : 0 < n) : 0 < n / b ^ (dl b n - 1) ∧ n / b ^ (dl b n - 1) < b := by
  obtain ⟨h1, h2⟩ := (dl_spec hb n).2 hn
  refine ⟨Nat.div_pos h1 (pow_pos (by omega) _), ?_⟩
  rw [Nat.div_lt_iff_lt_mul (pow_pos (by omega) _), Nat.mul_comm, ← Nat.pow_succ, show (dl b n - 1).succ = dl b n by omega]
  exact dl_lt hb n
/-- a list of digits without noughts at its end -/
theorem D_all {b : Nat} (hb : 1 < b) (xs : List Int) (h : ∀ x ∈ xs, 0 ≤ x ∧ x < (b : Int)) (hl : xs = [] ∨ lrd xs ((xs.length - 1 : Nat) : Int) ≠ 0) : ∃ n, n < b ^ xs.length ∧ xs = D b n := by
  obtain ⟨n, h1, h2⟩ := T_all (by omega) xs h
  refine ⟨n, h1, ?_⟩
  rcases hl with rfl | hl
  · have : n = 0 := by simpa using h1
    rw [this, D_nil]
  · by_cases h0 : xs.length = 0
    · rw [List.length_eq_zero_iff.1 h0] at hl; exact absurd rfl hl
    · have h3 : b ^ (xs.length - 1) ≤ n := by
        apply Nat.le_of_not_lt
        intro h4
        apply hl
        rw [h2, T_len, lrd_T (by omega), Nat.div_eq_of_lt h4]; simp
      have : dl b n = xs.length := by
        have := dl_eq hb h3 (by rw [show xs.length - 1 + 1 = xs.length by omega]; exact h1)
        omega
      unfold D; rw [this]; exact h2
/-- a digit more -/
theorem T_cut {b : Nat} (hb : 1 < b) {k n : Nat} (h : n / b ^ k % b = 0) (hn : n < b ^ (k + 1)) : n < b ^ k := by
  have h2 : n / b ^ k < b := by rw [Nat.div_lt_iff_lt_mul (pow_pos (by omega) _), Nat.mul_comm, ← Nat.pow_succ]; exact hn
  rw [Nat.mod_eq_of_lt h2] at h
  exact (Nat.div_eq_zero_iff_lt (pow_pos (by omega) _)).1 h
/-! ### operations that do not wrap, on numbers from 0 on -/
def lim : IntKind → Nat
  | .u8 => 256 | .u16 => 65536 | .u32 => 4294967296 | .u64 => 18446744073709551616
  | .i8 => 128 | .i16 => 32768 | .i32 => 2147483648 | .i64 => 9223372036854775808
theorem wrapN {k : IntKind} {n : Nat} (h : n < lim k) : k.wrap (n : Int) = (n : Int) := by
  cases k <;> simp only [lim] at h <;> simp only [IntKind.wrap, IntKind.bits, IntKind.signed] <;> simp <;> omega
theorem addN {k : IntKind} {a b : Nat} (h : a + b < lim k) : addI k (a : Int) (b : Int) = ((a + b : Nat) : Int) := by
  unfold addI; rw [← Int.natCast_add, wrapN h]
theorem mulN {k : IntKind} {a b : Nat} (h : a * b < lim k) : mulI k (a : Int) (b : Int) = ((a * b : Nat) : Int) := by
  unfold mulI; rw [← Int.natCast_mul, wrapN h]
theorem subN {k : IntKind} {a b : Nat} (hb : b ≤ a) (h : a < lim k) : subI k (a : Int) (b : Int) = ((a - b : Nat) : Int) := by
  unfold subI; rw [← Int.natCast_sub hb, wrapN (Nat.lt_of_le_of_lt (Nat.sub_le a b) h)]
theorem quoN {k : IntKind} {a b : Nat} (h : a < lim k) : quoI k (a : Int) (b : Int) = ((a / b : Nat) : Int) := by
  unfold quoI
  rw [show (a : Int).tdiv (b : Int) = ((a / b : Nat) : Int) from rfl, wrapN (Nat.lt_of_le_of_lt (Nat.div_le_self a b) h)]
theorem remN (k : IntKind) (a b : Nat) : remI k (a : Int) (b : Int) = ((a % b : Nat) : Int) := rfl
theorem cvN {k : IntKind} {a : Nat} (h : a < lim k) : cvI k (a : Int) = (a : Int) := wrapN h
theorem cvU32 (a : Nat) : cvI .u32 (a : Int) = ((a % 4294967296 : Nat) : Int) := by unfold cvI; rw [wrap_u32]; rfl
theorem shrN {k : IntKind} {a b : Nat} (hb : b ≤ k.bits) : shrI k (a : Int) (b : Int) = ((a / 2 ^ b : Nat) : Int) := shrI_n k hb
theorem maxN (a b : Nat) : maxI (a : Int) (b : Int) = ((max a b : Nat) : Int) := by unfold maxI; split <;> omega
theorem minN (a b : Nat) : minI (a : Int) (b : Int) = ((min a b : Nat) : Int) := by unfold minI; split <;> omega
theorem predI (n : Nat) (h : n + 1 < 9223372036854775808) : subI .i64 ((n + 1 : Nat) : Int) 1 = (n : Int) := by
  have := subN (k := .i64) (a := n + 1) (b := 1) (by omega) (by simp only [lim]; omega)
  rw [show ((1 : Nat) : Int) = 1 from rfl] at this
  rw [this]; rfl
theorem succI (n : Nat) (h : n + 1 < 9223372036854775808) : addI .i64 (n : Int) 1 = ((n + 1 : Nat) : Int) := addN (k := .i64) (b := 1) h
theorem fit_t {n : Nat} (h : n ≤ 17592186044416) : fitL n = true := by unfold fitL; rw [Nat.ble_eq]; exact h
end Go.Proofs.YtopcajgknbmbcaaGreatDoor.Dig
