/- PLAIN LEMMAS: arrays as tables; whole numbers written as four 64-bit words and as 256 bits; the evaluator's named operations where nothing wraps. No program, no statement. -/
import Derived.Test.YtopcajgknbmbcaaGreatDoorBw
namespace Go.Proofs.YtopcajgknbmbcaaGreatDoor.Bw
set_option linter.unusedVariables false
open Go Go.RowKit Go.Proofs.YtopcajgknbmbcaaGreatDoor.Eng
/-! ### operations that do not wrap -/
theorem addI_i {a b : Int} (h0 : -9223372036854775808 ≤ a + b) (h1 : a + b < 9223372036854775808) : addI .i64 a b = a + b := by unfold addI; rw [wrap_i64]; omega
theorem subI_i {a b : Int} (h0 : -9223372036854775808 ≤ a - b) (h1 : a - b < 9223372036854775808) : subI .i64 a b = a - b := by unfold subI; rw [wrap_i64]; omega
theorem mulI_i {a b : Int} (h0 : -9223372036854775808 ≤ a * b) (h1 : a * b < 9223372036854775808) : mulI .i64 a b = a * b := by unfold mulI; rw [wrap_i64]; omega
theorem cvI_i {a : Int} (h0 : -9223372036854775808 ≤ a) (h1 : a < 9223372036854775808) : cvI .i64 a = a := by unfold cvI; rw [wrap_i64]; omega
theorem addI_u {a b : Int} (h0 : 0 ≤ a + b) (h1 : a + b < 18446744073709551616) : addI .u64 a b = a + b := by unfold addI; rw [wrap_u64]; omega
theorem subI_u {a b : Int} (h0 : 0 ≤ a - b) (h1 : a - b < 18446744073709551616) : subI .u64 a b = a - b := by unfold subI; rw [wrap_u64]; omega
theorem mulI_u {a b : Int} (h0 : 0 ≤ a * b) (h1 : a * b < 18446744073709551616) : mulI .u64 a b = a * b := by unfold mulI; rw [wrap_u64]; omega
theorem cvI_u {a : Int} (h0 : 0 ≤ a) (h1 : a < 18446744073709551616) : cvI .u64 a = a := by unfold cvI; rw [wrap_u64]; omega
theorem quoI_n (k : IntKind) {a b : Nat} (hk : k = .i64 ∨ k = .u64) (h : a < 9223372036854775808 ∨ (k = .u64 ∧ a < 18446744073709551616)) : quoI k (a : Int) (b : Int) = ((a / b : Nat) : Int) := by
  unfold quoI
  have e : (a : Int).tdiv (b : Int) = ((a / b : Nat) : Int) := rfl
  have := Nat.div_le_self a b
  rw [e]
  generalize a / b = c at *
  rcases hk with rfl | rfl
  · rw [wrap_i64]; rcases h with h | h
    · omega
    · simp at h
  · rw [wrap_u64]; rcases h with h | ⟨_, h⟩ <;> omega
theorem quoI_i {a b : Nat} (h : a < 9223372036854775808) : quoI .i64 (a : Int) (b : Int) = ((a / b : Nat) : Int) := quoI_n .i64 (.inl rfl) (.inl h)
theorem quoI_u {a b : Nat} (h : a < 18446744073709551616) : quoI .u64 (a : Int) (b : Int) = ((a / b : Nat) : Int) := quoI_n .u64 (.inr rfl) (.inr ⟨rfl, h⟩)
theorem remI_n (k : IntKind) (a b : Nat) : remI k (a : Int) (b : Int) = ((a % b : Nat) : Int) := rfl
theorem shrI_n (k : IntKind) {a b : Nat} (hb : b ≤ k.bits) : shrI k (a : Int) (b : Int) = ((a / 2 ^ b : Nat) : Int) := by
  unfold shrI
  have e : (2 : Int) ^ b = ((2 ^ b : Nat) : Int) := by simp
  rw [Int.toNat_natCast, Nat.min_eq_left hb, e, Int.fdiv_eq_ediv_of_nonneg _ (Int.natCast_nonneg _)]
  rfl
theorem shlI_n {a b : Nat} (hb : b ≤ 64) : shlI .u64 (a : Int) (b : Int) = ((a * 2 ^ b % 18446744073709551616 : Nat) : Int) := by
  unfold shlI
  have e : (2 : Int) ^ b = ((2 ^ b : Nat) : Int) := by simp
  rw [wrap_u64, Int.toNat_natCast, Nat.min_eq_left (by simpa [IntKind.bits] using hb), e, ← Int.natCast_mul]
  rfl
theorem andI_n {a b : Nat} (ha : a < 2 ^ 64) (hb : b < 2 ^ 64) : andI .u64 (a : Int) (b : Int) = ((a &&& b : Nat) : Int) := (bits_nat .u64 64 (by decide) w64 a b ha hb).1
theorem orI_n {a b : Nat} (ha : a < 2 ^ 64) (hb : b < 2 ^ 64) : orI .u64 (a : Int) (b : Int) = ((a ||| b : Nat) : Int) := (bits_nat .u64 64 (by decide) w64 a b ha hb).2
theorem lt_n {a b : Nat} : ltI (a : Int) (b : Int) = decide (a < b) := by rw [ltI_eq]; congr 1; simp
theorem le_n {a b : Nat} : leI (a : Int) (b : Int) = decide (a ≤ b) := by rw [leI_eq]; congr 1; simp
theorem eq_n {a b : Nat} : eqI (a : Int) (b : Int) = decide (a = b) := by rw [eqI_eq]; congr 1; exact propext Int.ofNat_inj
theorem ltI_t {a b : Int} (h : a < b) : ltI a b = true := ltI_iff.2 h
theorem ltI_f {a b : Int} (h : ¬ a < b) : ltI a b = false := by rw [ltI_eq]; simpa using h
theorem leI_t {a b : Int} (h : a ≤ b) : leI a b = true := leI_iff.2 h
theorem leI_f {a b : Int} (h : ¬ a ≤ b) : leI a b = false := by rw [leI_eq]; simpa using h
theorem eqI_t {a b : Int} (h : a = b) : eqI a b = true := eqI_iff.2 h
theorem eqI_f {a b : Int} (h : ¬ a = b) : eqI a b = false := by rw [eqI_eq]; simpa using h

/-! ### arrays as tables -/
def tab (n : Nat) (f : Nat → Int) : Vec n := ⟨(List.range n).map f, by simp⟩
theorem tab_get {n : Nat} {f : Nat → Int} {i : Nat} (h : i < n) : (tab n f).1[i]? = some (f i) := by simp [tab, h]
theorem vec_ext {n : Nat} {x y : Vec n} (h : ∀ i, i < n → x.1[i]? = y.1[i]?) : x = y := by
  obtain ⟨x, hx⟩ := x; obtain ⟨y, hy⟩ := y
  have : x = y := by
    apply List.ext_getElem?
    intro i
    by_cases hi : i < n
    · exact h i hi
    · rw [List.getElem?_eq_none (by omega), List.getElem?_eq_none (by omega)]
  subst this; rfl
theorem rd_tab {n : Nat} {f : Nat → Int} {i : Nat} (h : i < n) : Vec.rd (tab n f) (i : Int) = f i := by
  unfold Vec.rd; rw [List.getD_eq_getElem?_getD, Int.toNat_natCast, tab_get h]; rfl
theorem st_tab {n : Nat} {f : Nat → Int} {i : Nat} {v : Int} (h : i < n) : Vec.st (tab n f) (i : Int) v = tab n fun k => if k = i then v else f k := by
  apply vec_ext
  intro k hk
  rw [tab_get hk]
  unfold Vec.st
  simp only [Int.toNat_natCast, List.getElem?_set]
  by_cases e : i = k
  · subst e; simp [tab, hk]
  · rw [if_neg e, if_neg (fun h => e h.symm)]; exact tab_get hk
theorem zero_tab (n : Nat) : Vec.zero n = tab n fun _ => 0 := by
  apply vec_ext
  intro k hk
  rw [tab_get hk]; simp [Vec.zero, hk]
theorem tab_congr {n : Nat} {f g : Nat → Int} (h : ∀ i, i < n → f i = g i) : tab n f = tab n g := by
  apply vec_ext
  intro k hk
  rw [tab_get hk, tab_get hk, h k hk]
theorem tab_all {n : Nat} (x : Vec n) : x = tab n fun i => x.1.getD i 0 := by
  apply vec_ext
  intro k hk
  rw [tab_get hk, List.getD_eq_getElem?_getD, List.getElem?_eq_getElem (by rw [x.2]; exact hk)]; rfl
theorem tab_inj {n : Nat} {f g : Nat → Int} (h : tab n f = tab n g) : ∀ i, i < n → f i = g i := by
  intro i hi
  have := congrArg (fun x : Vec n => x.1[i]?) h
  simp only [tab_get hi] at this
  injection this
theorem cut_tab {n : Nat} {f : Nat → Int} {i : Nat} (h : i < n) : lrd (Vec.cut (tab n f) 0 n) (i : Int) = f i := by
  unfold lrd Vec.cut
  rw [List.getD_eq_getElem?_getD, Int.toNat_natCast, List.drop_zero, List.getElem?_take_of_lt (by omega), tab_get h]; rfl
theorem cut_len {n : Nat} {f : Nat → Int} : (Vec.cut (tab n f) 0 n).length = n := by simp [Vec.cut, tab]
theorem eqL_iff {n : Nat} (x y : Vec n) : eqL x.1 y.1 = true ↔ x = y := by
  have : (x = y) ↔ x.1 = y.1 := ⟨fun h => by rw [h], fun h => by obtain ⟨x, _⟩ := x; obtain ⟨y, _⟩ := y; subst h; rfl⟩
  rw [this]; simp [eqL]

/-! ### numbers: four words, 256 bits -/
def W (x : Nat) : Vec 4 := tab 4 fun i => ((x / 2 ^ (64 * i) % 2 ^ 64 : Nat) : Int)
def bitN (x i : Nat) : Nat := x / 2 ^ i % 2
theorem W_all (a : Vec 4) (h : okL .u64 a.1) : ∃ x, x < 2 ^ 256 ∧ a = W x := by
  obtain ⟨l, hl⟩ := a
  obtain ⟨a0, a1, a2, a3, rfl⟩ : ∃ a0 a1 a2 a3, l = [a0, a1, a2, a3] := by
    match l, hl with
    | [a0, a1, a2, a3], _ => exact ⟨_, _, _, _, rfl⟩
  have h0 := u64_in (h a0 (by simp)); have h1 := u64_in (h a1 (by simp)); have h2 := u64_in (h a2 (by simp)); have h3 := u64_in (h a3 (by simp))
  obtain ⟨b0, rfl⟩ := Int.eq_ofNat_of_zero_le h0.1
  obtain ⟨b1, rfl⟩ := Int.eq_ofNat_of_zero_le h1.1
  obtain ⟨b2, rfl⟩ := Int.eq_ofNat_of_zero_le h2.1
  obtain ⟨b3, rfl⟩ := Int.eq_ofNat_of_zero_le h3.1
  refine ⟨b0 + 2 ^ 64 * b1 + 2 ^ 128 * b2 + 2 ^ 192 * b3, by omega, ?_⟩
  apply vec_ext
  intro i hi
  unfold W
  rw [tab_get hi]
  match i, hi with
  | 0, _ => simp; omega
  | 1, _ => simp; omega
  | 2, _ => simp; omega
  | 3, _ => simp; omega
theorem W_inj {x y : Nat} (hx : x < 2 ^ 256) (hy : y < 2 ^ 256) : W x = W y ↔ x = y := by
  constructor
  · intro h
    have h0 := tab_inj h 0 (by omega); have h1 := tab_inj h 1 (by omega); have h2 := tab_inj h 2 (by omega); have h3 := tab_inj h 3 (by omega)
    simp only [Nat.mul_zero, Nat.pow_zero, Nat.div_one, Nat.reduceMul, Nat.reducePow] at h0 h1 h2 h3
    omega
  · intro h; rw [h]
theorem W_eq {x y : Nat} (hx : x < 2 ^ 256) (hy : y < 2 ^ 256) : eqL (W x).1 (W y).1 = decide (x = y) := by
  have h := eqL_iff (W x) (W y)
  rw [W_inj hx hy] at h
  by_cases e : x = y
  · rw [h.2 e]; simp [e]
  · cases h2 : eqL (W x).1 (W y).1
    · simp [e]
    · exact absurd (h.1 h2) e
theorem W_zero : Vec.zero 4 = W 0 := by rw [zero_tab]; apply tab_congr; intro i hi; simp
theorem rd_W {x i : Nat} (h : i < 4) : Vec.rd (W x) (i : Int) = ((x / 2 ^ (64 * i) % 2 ^ 64 : Nat) : Int) := rd_tab h
theorem bit_lt (x i : Nat) : bitN x i < 2 := Nat.mod_lt _ (by decide)
theorem bit_word {x k i : Nat} (h : i < 64) : x / 2 ^ (64 * k) % 2 ^ 64 / 2 ^ i % 2 = bitN x (64 * k + i) := by
  unfold bitN
  have e : (2 : Nat) ^ 64 = 2 ^ i * 2 ^ (64 - i) := by rw [← Nat.pow_add]; congr 1; omega
  rw [e, Nat.mod_mul_right_div_self, Nat.mod_mod_of_dvd _ (by obtain ⟨c, hc⟩ : ∃ c, 64 - i = c + 1 := ⟨63 - i, by omega⟩; rw [hc, Nat.pow_succ]; exact Nat.dvd_mul_left ..), Nat.div_div_eq_div_mul, ← Nat.pow_add]
theorem bit_ext {x y n : Nat} (hx : x < 2 ^ n) (hy : y < 2 ^ n) (h : ∀ i, i < n → bitN x i = bitN y i) : x = y := by
  apply Nat.eq_of_testBit_eq
  intro i
  by_cases hi : i < n
  · rw [Nat.testBit_eq_decide_div_mod_eq, Nat.testBit_eq_decide_div_mod_eq]
    have := h i hi; unfold bitN at this; rw [this]
  · rw [Nat.testBit_lt_two_pow (Nat.lt_of_lt_of_le hx (Nat.pow_le_pow_right (by decide) (by omega))), Nat.testBit_lt_two_pow (Nat.lt_of_lt_of_le hy (Nat.pow_le_pow_right (by decide) (by omega)))]
/-- 256 bits -/
def B (x : Nat) : Vec 256 := tab 256 fun i => (bitN x i : Int)
end Go.Proofs.YtopcajgknbmbcaaGreatDoor.Bw
