/- PLAIN FACTS on chapter 2: a number's decimal digits: the program's Decimal and Parse. No statement is proved here. -/
import Derived.Test.YtoihjgfnocimjaaDoorNat4
namespace Go.Proofs.YtoihjgfnocimjaaDoor.Nt
open Go Go.RowKit Go.Proofs.YtoihjgfnocimjaaDoor.Eng Go.Proofs.YtoihjgfnocimjaaDoor.Fns Go.Proofs.YtoihjgfnocimjaaDoor.Bw Go.Proofs.YtoihjgfnocimjaaDoor.Dig Go.Proofs.YtoihjgfnocimjaaDoor.Slc
open Go.Proofs.YtoihjgfnocimjaaDoor.Rn (Y b32 cmpZ)
set_option linter.unusedVariables false
set_option linter.unusedSimpArgs false
/-! ### bytes -/
def byte (s : ByteArray) (j : Nat) : Nat := if h : j < s.size then s[j].toNat else 0
theorem sAt_byte (s : ByteArray) (j : Nat) : sAt s (j : Int) = (byte s j : Int) := by
  unfold sAt byte
  rw [Int.toNat_natCast]
  split <;> rfl
theorem byte_lt (s : ByteArray) (j : Nat) : byte s j < 256 := by
  unfold byte
  split
  · exact UInt8.toNat_lt _
  · decide
def bs (l : List Nat) : ByteArray := ⟨(l.map UInt8.ofNat).toArray⟩
theorem bs_size (l : List Nat) : (bs l).size = l.length := by simp [bs, ByteArray.size]
theorem bs_cons (x : Nat) (l : List Nat) : bs [x] ++ bs l = bs (x :: l) := by
  apply ByteArray.ext
  rw [ByteArray.data_append]
  simp [bs]
theorem bs_byte {l : List Nat} {j x : Nat} (h : l[j]? = some x) (hx : x < 256) : byte (bs l) j = x := by
  obtain ⟨h1, h2⟩ := List.getElem?_eq_some_iff.1 h
  unfold byte
  rw [dif_pos (by rw [bs_size]; exact h1)]
  have : (bs l)[j]'(by rw [bs_size]; exact h1) = UInt8.ofNat x := by
    rw [ByteArray.getElem_eq_getElem_data]
    simp [bs, h2]
  rw [this]
  simp; omega
theorem bstr_eq : ∀ (xs : List Nat), bstr (xs.map fun n : Nat => (n : Int)) = bs xs := by
  have gen : ∀ (xs : List Nat) (r : ByteArray), (xs.map fun n : Nat => (n : Int)).foldl (fun r n => r.push (UInt8.ofNat n.toNat)) r = ⟨r.data ++ (xs.map UInt8.ofNat).toArray⟩ := by
    intro xs
    induction xs with
    | nil => intro r; simp
    | cons x xs ih =>
      intro r
      rw [List.map_cons, List.foldl_cons, ih]
      congr 1
      simp [ByteArray.push]
  intro xs
  unfold bstr
  rw [gen]
  simp [bs, ByteArray.empty, ByteArray.emptyWithCapacity]
  rfl
/-! ### decimal digits -/
/-- the lowest k digits of a number, the highest first -/
def dd (n : Nat) : Nat → List Nat
  | 0 => []
  | k + 1 => (48 + n / 10 ^ k % 10) :: dd n k
theorem dd_len (n : Nat) : ∀ k, (dd n k).length = k
  | 0 => rfl
  | k + 1 => by rw [dd, List.length_cons, dd_len n k]
theorem dd_get (n : Nat) : ∀ (k j : Nat), j < k → (dd n k)[j]? = some (48 + n / 10 ^ (k - 1 - j) % 10)
  | 0, j, h => by omega
  | k + 1, 0, h => by simp [dd]
  | k + 1, j + 1, h => by
    rw [dd, List.getElem?_cons_succ, dd_get n k j (by omega)]
    congr 5; omega
/-- a number's digits -/
def DS (n : Nat) : ByteArray := bs (dd n (max 1 (dl 10 n)))
/-- the same, the lowest first -/
def el (n k : Nat) : List Int := (List.range k).map fun j => ((48 + n / 10 ^ j % 10 : Nat) : Int)
theorem el_len (n k : Nat) : (el n k).length = k := by simp [el]
theorem el_succ (n k : Nat) : el n (k + 1) = el n k ++ [((48 + n / 10 ^ k % 10 : Nat) : Int)] := by
  unfold el
  rw [List.range_succ, List.map_append]; rfl
theorem el_rev (n : Nat) : ∀ k, (el n k).reverse = (dd n k).map fun n : Nat => (n : Int)
  | 0 => rfl
  | k + 1 => by rw [el_succ, List.reverse_append, el_rev n k]; rfl
theorem el_take (n k : Nat) : (el n (k + 1)).take k = el n k := by
  rw [el_succ, List.take_append, el_len, Nat.sub_self, List.take_zero, List.append_nil, List.take_of_length_le (by rw [el_len]; exact Nat.le_refl _)]
theorem el_last (n k : Nat) : lrd (el n (k + 1)) (k : Int) = ((48 + n / 10 ^ k % 10 : Nat) : Int) := by
  unfold lrd
  rw [Int.toNat_natCast, el_succ, List.getD_eq_getElem?_getD, List.getElem?_append_right (by rw [el_len]; exact Nat.le_refl _), el_len, Nat.sub_self]
  rfl
theorem b10 : (1 : Nat) < 10 := by decide
theorem lit48 : (⟨#[48]⟩ : ByteArray) = bs [48] := by decide
/-! ### Decimal -/
theorem dtrim_loop (N n : Nat) : ∀ (k f : Nat), n < 10 ^ k → k < f → k < 4611686018427387904 → l23_2 N f (el n k) = some (DS n, none) := by
  have fin : ∀ k, max 1 (dl 10 n) = k → bstr (List.reverse (el n k)) = DS n := by
    intro k hk
    rw [el_rev, bstr_eq, DS, hk]
  intro k
  induction k with
  | zero =>
    intro f hn hf hb
    obtain ⟨f, rfl⟩ : ∃ n', f = n' + 1 := ⟨f - 1, by omega⟩
    show s23_2 N _ _ = _
    unfold s23_2
    have : n = 0 := by rw [Nat.pow_zero] at hn; omega
    subst this
    have e : DS 0 = (⟨#[48]⟩ : ByteArray) := by
      unfold DS; rw [dl_zero]; decide
    rw [el_len, ltI_f (by omega), cond_false, eqI_t (show ((0 : Nat) : Int) = 0 from rfl), cond_true, e]
  | succ k ih =>
    intro f hn hf hb
    obtain ⟨f, rfl⟩ : ∃ n', f = n' + 1 := ⟨f - 1, by omega⟩
    show s23_2 N (l23_2 N f) _ = _
    unfold s23_2
    have e1 : subI .i64 ((k + 1 : Nat) : Int) 1 = (k : Int) := predI k (by omega)
    have hle : dl 10 n ≤ k + 1 := dl_le b10 hn
    rw [el_len, e1]
    by_cases hk : k = 0
    · subst hk
      rw [ltI_f (by omega), cond_false, eqI_f (by omega), cond_false, fin 1 (by omega)]
    · rw [ltI_t (by omega), cond_true, leI_t (by omega), cond_true, ltI_t (by omega), cond_true, el_last]
      have hq : n / 10 ^ k < 10 := by
        rw [Nat.div_lt_iff_lt_mul (Nat.pow_pos (by decide)), Nat.mul_comm, ← Nat.pow_succ]; exact hn
      by_cases hz : n / 10 ^ k = 0
      · have hn2 : n < 10 ^ k := by
          rcases Nat.div_eq_zero_iff.1 hz with h | h
          · have : 0 < 10 ^ k := Nat.pow_pos (by decide)
            omega
          · exact h
        rw [hz, eqI_t (show ((48 + 0 % 10 : Nat) : Int) = 48 from rfl), cond_true, leI_t (by omega)]
        simp only [Bool.and_self, cond_true, Int.toNat_natCast]
        rw [el_take]
        exact ih f hn2 (by omega) (by omega)
      · have hge : 10 ^ k ≤ n := by
          apply Nat.le_of_not_lt
          intro h
          exact hz (Nat.div_eq_of_lt h)
        have hdl : dl 10 n = k + 1 := dl_eq b10 hge hn
        rw [Nat.mod_eq_of_lt hq, eqI_f (by omega), cond_false, eqI_f (by omega), cond_false, fin (k + 1) (by omega)]
theorem dgroup_loop (N n t : Nat) (v0 : List Int) (E : List Int → List Int → Option (ByteArray × Option Int)) (ht : 9 * t < 17592186000000) : ∀ (r j f : Nat), j + r = 9 → r < f →
    l23_1 N E f v0 ((n / 10 ^ (9 * t) % 10 ^ 9 / 10 ^ j : Nat) : Int) (j : Int) (el n (9 * t + j)) = E v0 (el n (9 * t + 9)) := by
  intro r
  induction r with
  | zero =>
    intro j f hj hf
    obtain ⟨f, rfl⟩ : ∃ n', f = n' + 1 := ⟨f - 1, by omega⟩
    show s23_1 N _ _ _ _ _ _ = _
    unfold s23_1
    have : j = 9 := by omega
    subst this
    rw [ltI_f (by omega), cond_false]
  | succ r ih =>
    intro j f hj hf
    obtain ⟨f, rfl⟩ : ∃ n', f = n' + 1 := ⟨f - 1, by omega⟩
    show s23_1 N (l23_1 N E f) E _ _ _ _ = _
    unfold s23_1
    have ih := ih (j + 1) f (by omega) (by omega)
    have hlt : n / 10 ^ (9 * t) % 10 ^ 9 / 10 ^ j ≤ n / 10 ^ (9 * t) % 10 ^ 9 := Nat.div_le_self _ _
    have h9 : n / 10 ^ (9 * t) % 10 ^ 9 < 10 ^ 9 := Nat.mod_lt _ (by decide)
    have hdig : n / 10 ^ (9 * t) % 10 ^ 9 / 10 ^ j % 10 = n / 10 ^ (9 * t + j) % 10 := by
      rw [mod_pow_div (by decide) _ (show j < 9 by omega), Nat.div_div_eq_div_mul, ← Nat.pow_add]
    have hnext : n / 10 ^ (9 * t) % 10 ^ 9 / 10 ^ j / 10 = n / 10 ^ (9 * t) % 10 ^ 9 / 10 ^ (j + 1) := by
      rw [Nat.div_div_eq_div_mul, ← Nat.pow_succ]
    rw [show (10 : Nat) ^ 9 = 1000000000 from rfl] at h9
    rw [show (10 : Nat) ^ 9 = 1000000000 from rfl] at *
    generalize hv : n / 10 ^ (9 * t) % 1000000000 / 10 ^ j = v at *
    have e1 : remI .u32 (v : Int) 10 = ((v % 10 : Nat) : Int) := remN .u32 v 10
    have e2 : addI .u32 48 ((v % 10 : Nat) : Int) = ((48 + v % 10 : Nat) : Int) := addN (k := .u32) (a := 48) (by simp only [lim]; omega)
    have e3 : cvI .u8 ((48 + v % 10 : Nat) : Int) = ((48 + v % 10 : Nat) : Int) := by unfold cvI; rw [wrap_u8]; omega
    have e4 : quoI .u32 (v : Int) 10 = ((v / 10 : Nat) : Int) := quoN (k := .u32) (b := 10) (by simp only [lim]; omega)
    rw [ltI_t (by omega), cond_true, e1, e2, e3, e4, el_len, fit_t (by simp; omega), cond_true, hdig, ← el_succ, hnext, succI j (by omega)]
    exact ih
theorem dec_loop (N n : Nat) (hN : 2 * (9 * 2 * dl 4294967296 n) + 100 < N) (hN2 : N < 1000000000) : ∀ (r t f : Nat), n < 10 ^ (9 * (t + r)) → t + r ≤ 2 * dl 4294967296 n + 1 → r < f →
    l23_0 N f (Y (n / 10 ^ (9 * t))) (el n (9 * t)) = some (DS n, none) := by
  have stop : ∀ (t f : Nat), n < 10 ^ (9 * t) → t ≤ 2 * dl 4294967296 n + 1 → 0 < f → l23_0 N f (Y (n / 10 ^ (9 * t))) (el n (9 * t)) = some (DS n, none) := by
    intro t f hn ht hf
    obtain ⟨f, rfl⟩ : ∃ n', f = n' + 1 := ⟨f - 1, by omega⟩
    show s23_0 N _ (l23_2 N N) _ _ = _
    unfold s23_0
    rw [Nat.div_eq_of_lt hn, D_len, dl_zero, ltI_f (by omega), cond_false]
    exact dtrim_loop N n (9 * t) N hn (by omega) (by omega)
  intro r
  induction r with
  | zero => intro t f hn ht hf; exact stop t f hn (by omega) hf
  | succ r ih =>
    intro t f hn ht hf
    by_cases hz : n < 10 ^ (9 * t)
    · exact stop t f hz (by omega) (by omega)
    obtain ⟨f, rfl⟩ : ∃ n', f = n' + 1 := ⟨f - 1, by omega⟩
    show s23_0 N (l23_1 N (l23_0 N f) N) (l23_2 N N) _ _ = _
    unfold s23_0
    have hpos : 0 < n / 10 ^ (9 * t) := Nat.div_pos (by omega) (Nat.pow_pos (by decide))
    have hdl : dl 4294967296 (n / 10 ^ (9 * t)) ≤ dl 4294967296 n := dl_le b32 (Nat.lt_of_le_of_lt (Nat.div_le_self _ _) (dl_lt b32 n))
    have hdp : 0 < dl 4294967296 (n / 10 ^ (9 * t)) := ((dl_spec b32 _).2 hpos).2
    have hs := short_eq N (n / 10 ^ (9 * t)) 1000000000 (by decide) (by decide) (by omega) (by omega)
    have hnext : n / 10 ^ (9 * t) / 1000000000 = n / 10 ^ (9 * (t + 1)) := by
      rw [show 9 * (t + 1) = 9 * t + 9 by omega, Nat.pow_add, Nat.div_div_eq_div_mul]
    rw [hnext] at hs
    have hg := dgroup_loop N n t (Y (n / 10 ^ (9 * (t + 1)))) (l23_0 N f) (by omega) 9 0 N rfl (by omega)
    rw [Nat.pow_zero, Nat.div_one, Nat.add_zero] at hg
    rw [D_len, ltI_t (by omega), cond_true]
    rw [show ((1000000000 : Nat) : Int) = 1000000000 from rfl] at hs
    rw [hs, Option.bind_some]
    refine Eq.trans hg ?_
    exact ih (t + 1) f (by rw [show t + 1 + r = t + (r + 1) by omega]; exact hn) (by omega) (by omega)
theorem decimal_eq (N n : Nat) (hdn : dl 4294967296 n ≤ 8192) (hN : 2 * (9 * 2 * dl 4294967296 n) + 100 < N) (hN2 : N < 1000000000) : fn_nat_Decimal N (Y n) = some (DS n, none) := by
  unfold fn_nat_Decimal t23
  rw [check_Y N n hdn, Option.bind_some, show isNoneI none = true from rfl, Bool.not_true, cond_false]
  unfold fn_slices_Clone
  rw [D_len, leI_t (by omega), cond_true, Option.bind_some]
  have hb : n < 10 ^ (9 * (0 + 2 * dl 4294967296 n)) := by
    refine Nat.lt_of_lt_of_le (dl_lt b32 n) ?_
    have h1 : (4294967296 : Nat) ≤ 10 ^ 10 := by decide
    refine Nat.le_trans (Nat.pow_le_pow_left h1 _) ?_
    rw [← Nat.pow_mul]
    exact Nat.pow_le_pow_right (by decide) (by omega)
  have h := dec_loop N n hN hN2 (2 * dl 4294967296 n) 0 N hb (by omega) (by omega)
  rw [Nat.mul_zero, Nat.pow_zero, Nat.div_one] at h
  exact h
theorem decimal_bad (N : Nat) (xs : List Int) (h : fn_nat_Check N xs = some (some 1)) : fn_nat_Decimal N xs = some ((⟨#[]⟩ : ByteArray), some 1) := by
  unfold fn_nat_Decimal t23
  rw [h, Option.bind_some]; rfl
end Go.Proofs.YtoihjgfnocimjaaDoor.Nt
