/- PLAIN FACTS on chapter 2: digits read: the program's Parse, the reference's Parse and Decimal. No statement is proved here. -/
import Derived.Test.YtoihjgfnocimjaaDoorTxt1
import Derived.Test.YtoihjgfnocimjaaDoorNat3
import Derived.Test.YtoihjgfnocimjaaDoorRn4
namespace Go.Proofs.YtoihjgfnocimjaaDoor.Nt
open Go Go.RowKit Go.Proofs.YtoihjgfnocimjaaDoor.Eng Go.Proofs.YtoihjgfnocimjaaDoor.Fns Go.Proofs.YtoihjgfnocimjaaDoor.Bw Go.Proofs.YtoihjgfnocimjaaDoor.Dig Go.Proofs.YtoihjgfnocimjaaDoor.Slc
open Go.Proofs.YtoihjgfnocimjaaDoor.Rn (X Y b32 b16 cmpZ p16)
set_option linter.unusedVariables false
set_option linter.unusedSimpArgs false
def good (s : ByteArray) : Prop := ∀ j, j < s.size → 48 ≤ byte s j ∧ byte s j ≤ 57
def vv (s : ByteArray) : Nat → Nat
  | 0 => 0
  | i + 1 => 10 * vv s i + (byte s i - 48)
theorem vv_lt (s : ByteArray) : ∀ i, (∀ j, j < i → 48 ≤ byte s j ∧ byte s j ≤ 57) → vv s i < 10 ^ i
  | 0, _ => by show 0 < 10 ^ 0; decide
  | i + 1, h => by
    have h1 := vv_lt s i (fun j hj => h j (by omega))
    have h2 := h i (by omega)
    rw [vv, Nat.pow_succ]; omega
theorem bytes_get (s : ByteArray) (j : Nat) (h : j < s.size) : (bytesS s)[j]? = some (byte s j : Int) := by
  unfold bytesS byte
  rw [dif_pos h, List.getElem?_map, Array.getElem?_toList, Array.getElem?_eq_getElem (show j < s.data.size from h)]
  rfl
theorem bytes_len (s : ByteArray) : (bytesS s).length = s.size := by unfold bytesS; rw [List.length_map, Array.length_toList]; rfl
theorem odd_false {s : ByteArray} (h : good s) : (bytesS s).any oddC = false := by
  rw [List.any_eq_false]
  intro x hx
  obtain ⟨j, hj, rfl⟩ := List.mem_iff_getElem.1 hx
  have hj2 : j < s.size := by rw [← bytes_len]; exact hj
  have := bytes_get s j hj2
  rw [List.getElem?_eq_getElem hj] at this
  injection this with this
  rw [this]
  have := h j hj2
  simp [oddC]; omega
theorem odd_true {s : ByteArray} {j : Nat} (hj : j < s.size) (h : ¬ (48 ≤ byte s j ∧ byte s j ≤ 57)) : (bytesS s).any oddC = true := by
  rw [List.any_eq_true]
  refine ⟨(byte s j : Int), ?_, ?_⟩
  · exact List.mem_of_getElem? (bytes_get s j hj)
  · simp [oddC]; omega
theorem not_good {s : ByteArray} (h : ¬ good s) : ∃ j, j < s.size ∧ ¬ (48 ≤ byte s j ∧ byte s j ≤ 57) := by
  apply Classical.byContradiction
  intro hn
  apply h
  intro j hj
  apply Classical.byContradiction
  intro hb
  exact hn ⟨j, hj, hb⟩
/-! ### ten times, and a digit -/
def pc (v d k : Nat) : Nat := (10 * (v % 4294967296 ^ k) + d) / 4294967296 ^ k
theorem pc_div (v d k : Nat) : (10 * v + d) / 4294967296 ^ k = pc v d k + 10 * (v / 4294967296 ^ k) := by
  unfold pc
  have h := Nat.div_add_mod v (4294967296 ^ k)
  have e : 10 * v + d = 10 * (v % 4294967296 ^ k) + d + 4294967296 ^ k * (10 * (v / 4294967296 ^ k)) := by
    rw [Nat.mul_left_comm]; omega
  rw [e, Nat.add_mul_div_left _ _ (p32 _)]
theorem pc_lt (v d k : Nat) (hd : d < 10) : pc v d k < 10 := by
  unfold pc
  rw [Nat.div_lt_iff_lt_mul (p32 _)]
  have := Nat.mod_lt v (p32 k)
  omega
theorem pc_succ (v d k : Nat) : pc v d (k + 1) = (pc v d k + 10 * (v / 4294967296 ^ k % 4294967296)) / 4294967296 := by
  have h1 := pc_div v d k
  have h2 := pc_div v d (k + 1)
  rw [Nat.pow_succ, ← Nat.div_div_eq_div_mul, ← Nat.div_div_eq_div_mul, h1] at h2
  omega
theorem pc_dig (v d k : Nat) : (10 * v + d) / 4294967296 ^ k % 4294967296 = (pc v d k + 10 * (v / 4294967296 ^ k % 4294967296)) % 4294967296 := by
  rw [pc_div]; omega
theorem set0 {L k A B v : Nat} (hA : A < 4294967296 ^ k) (hv : v < 4294967296) (hk : k < L) : (T 4294967296 L (A + 4294967296 ^ k * B)).set k (v : Int) = T 4294967296 L (A + 4294967296 ^ k * v + 4294967296 ^ (k + 1) * (B / 4294967296)) := by
  rw [T_set b32 hk hv]
  have e1 : (A + 4294967296 ^ k * B) % 4294967296 ^ k = A := by rw [Nat.add_mul_mod_self_left, Nat.mod_eq_of_lt hA]
  have e2 : (A + 4294967296 ^ k * B) / 4294967296 ^ (k + 1) = B / 4294967296 := by
    rw [Nat.pow_succ, ← Nat.div_div_eq_div_mul, Nat.add_mul_div_left _ _ (p32 _), Nat.div_eq_of_lt hA, Nat.zero_add]
  rw [e1, e2]
theorem get0 {L k A B : Nat} (hA : A < 4294967296 ^ k) (hk : k < L) : lrd (T 4294967296 L (A + 4294967296 ^ k * B)) (k : Int) = ((B % 4294967296 : Nat) : Int) := by
  rw [lrd_T hk, Nat.add_mul_div_left _ _ (p32 _), Nat.div_eq_of_lt hA, Nat.zero_add]
theorem pin (N : Nat) (s : ByteArray) (v2 v3 : Int) (v d : Nat) (hd : d < 10) (E : ByteArray → Int → Int → List Int → Option (List Int × Option Int)) (hL : dl 4294967296 v < 1000000000) : ∀ (r k f : Nat), k + r = dl 4294967296 v → r < f →
    l24_1 N E f s (pc v d k : Int) v2 v3 (dl 4294967296 v : Int) (k : Int) (T 4294967296 (dl 4294967296 v) ((10 * v + d) % 4294967296 ^ k + 4294967296 ^ k * (v / 4294967296 ^ k))) = E s v2 (addI .i64 v3 1) (Y (10 * v + d)) := by
  have hvl := dl_lt b32 v
  intro r
  induction r with
  | zero =>
    intro k f hk hf
    obtain ⟨f, rfl⟩ : ∃ n', f = n' + 1 := ⟨f - 1, by omega⟩
    show s24_1 N _ _ _ _ _ _ _ _ _ = _
    unfold s24_1
    have hk2 : k = dl 4294967296 v := by omega
    have hpc : pc v d k = (10 * v + d) / 4294967296 ^ k := by rw [pc_div, hk2, Nat.div_eq_of_lt hvl, Nat.mul_zero, Nat.add_zero]
    have hlt := pc_lt v d k hd
    rw [ltI_f (by omega), cond_false, hk2, Nat.div_eq_of_lt hvl, Nat.mul_zero, Nat.add_zero, T_mod (by decide), ← hk2]
    by_cases hc : 0 < pc v d k
    · have hge : 4294967296 ^ k ≤ 10 * v + d := by
        apply Nat.le_of_not_lt
        intro h
        rw [hpc, Nat.div_eq_of_lt h] at hc; omega
      have hl2 : 10 * v + d < 4294967296 ^ (k + 1) := by
        rw [Nat.pow_succ, Nat.mul_comm (4294967296 ^ k), ← Nat.div_lt_iff_lt_mul (p32 _), ← hpc]; omega
      have hdl := dl_eq b32 hge hl2
      have e : T 4294967296 k (10 * v + d) ++ [((pc v d k : Nat) : Int)] = Y (10 * v + d) := by
        show _ = T 4294967296 (dl 4294967296 (10 * v + d)) (10 * v + d)
        rw [hdl, T_succ, ← hpc, Nat.mod_eq_of_lt (by omega)]
      rw [ltI_t (by omega), cond_true, cvN (k := .u32) (by simp only [lim]; omega), T_len, fit_t (by simp; omega), cond_true, e]
    · rw [ltI_f (by omega), cond_false]
      have hl2 : 10 * v + d < 4294967296 ^ k := by
        apply Nat.lt_of_not_le
        intro h
        have := Nat.div_pos h (p32 k)
        omega
      have hdl : dl 4294967296 (10 * v + d) = k := by
        by_cases h0 : v = 0
        · subst h0
          rw [dl_zero] at hk2
          subst hk2
          rw [Nat.pow_zero] at hl2
          rw [show 10 * 0 + d = 0 by omega, dl_zero]
        · have h1 := (dl_spec b32 v).2 (by omega)
          obtain ⟨k', rfl⟩ : ∃ k', k = k' + 1 := ⟨k - 1, by omega⟩
          rw [← hk2, Nat.add_sub_cancel] at h1
          exact dl_eq b32 (by omega) hl2
      have e : T 4294967296 k (10 * v + d) = Y (10 * v + d) := by
        show _ = T 4294967296 (dl 4294967296 (10 * v + d)) (10 * v + d)
        rw [hdl]
      rw [e]
  | succ r ih =>
    intro k f hk hf
    obtain ⟨f, rfl⟩ : ∃ n', f = n' + 1 := ⟨f - 1, by omega⟩
    show s24_1 N (l24_1 N E f) E _ _ _ _ _ _ _ = _
    unfold s24_1
    have ih := ih (k + 1) f (by omega) (by omega)
    have hA : (10 * v + d) % 4294967296 ^ k < 4294967296 ^ k := Nat.mod_lt _ (p32 _)
    have hp := pc_lt v d k hd
    have hs := pc_succ v d k
    have hg := pc_dig v d k
    have hb := Nat.mod_lt (v / 4294967296 ^ k) (show 0 < 4294967296 by decide)
    have e1 : mulI .u64 10 ((v / 4294967296 ^ k % 4294967296 : Nat) : Int) = ((10 * (v / 4294967296 ^ k % 4294967296) : Nat) : Int) := mulN (k := .u64) (a := 10) (by simp only [lim]; omega)
    rw [ltI_t (by omega), cond_true, leI_t (by omega), cond_true, T_len, ltI_t (by omega), cond_true, cond_true, cond_true, get0 hA (by omega), cvN (k := .u64) (by simp only [lim]; omega), e1, addN (k := .u64) (by simp only [lim]; omega),
      show (32 : Int) = ((32 : Nat) : Int) from rfl, shrN (by decide), show (2 : Nat) ^ 32 = 4294967296 from rfl, ← hs, cvU32, ← hg, Int.toNat_natCast, set0 hA (Nat.mod_lt _ (by decide)) (by omega), ← mod32, Nat.div_div_eq_div_mul, ← Nat.pow_succ, succI k (by omega)]
    exact ih
theorem dl_ten {v i : Nat} (h : v < 10 ^ i) : dl 4294967296 v ≤ i := dl_le b32 (Nat.lt_of_lt_of_le h (Nat.pow_le_pow_left (by decide) _))
theorem pout (N : Nat) (s : ByteArray) (hg : good s) (hN : s.size + 10 < N) (hN2 : N < 1000000000) : ∀ (r i f : Nat), i + r = s.size → r < f → l24_0 N f s (s.size : Int) (i : Int) (Y (vv s i)) = some (Y (vv s s.size), none) := by
  intro r
  induction r with
  | zero =>
    intro i f hi hf
    obtain ⟨f, rfl⟩ : ∃ n', f = n' + 1 := ⟨f - 1, by omega⟩
    show s24_0 N _ _ _ _ _ = _
    unfold s24_0
    have : i = s.size := by omega
    rw [ltI_f (by omega), cond_false, clip_eq, Option.bind_some, this]
  | succ r ih =>
    intro i f hi hf
    obtain ⟨f, rfl⟩ : ∃ n', f = n' + 1 := ⟨f - 1, by omega⟩
    show s24_0 N (l24_1 N (l24_0 N f) N) _ _ _ _ = _
    unfold s24_0
    have ih := ih (i + 1) f (by omega) (by omega)
    have hb := hg i (by omega)
    have hv := dl_ten (vv_lt s i (fun j hj => hg j (by omega)))
    have e1 : subI .u8 (byte s i : Int) 48 = ((byte s i - 48 : Nat) : Int) := by unfold subI; rw [wrap_u8]; omega
    have e2 : cvI .u64 ((byte s i - 48 : Nat) : Int) = ((byte s i - 48 : Nat) : Int) := cvN (by simp only [lim]; omega)
    have hin := pin N s (s.size : Int) (i : Int) (vv s i) (byte s i - 48) (by omega) (l24_0 N f) (by omega) (dl 4294967296 (vv s i)) 0 N (by omega) (by omega)
    have hpc0 : pc (vv s i) (byte s i - 48) 0 = byte s i - 48 := by unfold pc; rw [Nat.pow_zero, Nat.mod_one, Nat.mul_zero, Nat.zero_add, Nat.div_one]
    rw [hpc0, Nat.pow_zero, Nat.mod_one, Nat.zero_add, Nat.one_mul, Nat.div_one, succI i (by omega)] at hin
    rw [ltI_t (by omega), cond_true, leI_t (by omega), cond_true, cond_true, sAt_byte, e1, e2, D_len]
    refine Eq.trans hin ?_
    exact ih
open Classical in
noncomputable def natR (s : ByteArray) : List Int × Option Int := if s.size = 0 ∨ ¬ good s then ([], some 3) else (Y (vv s s.size), none)
open Classical in
noncomputable def refR (s : ByteArray) : List Int × Bool := if ¬ good s then ([], false) else (X (vv s s.size), ltI 0 (s.size : Int))
theorem parse_eq (N : Nat) (s : ByteArray) (h20 : s.size ≤ 20000) (hN : s.size + 10 < N) (hN2 : N < 1000000000) : fn_nat_Parse N s = some (natR s) := by
  unfold fn_nat_Parse t24 natR
  by_cases h0 : s.size = 0
  · rw [if_pos (.inl h0), eqI_t (by omega), cond_true]
  rw [eqI_f (by omega), cond_false]
  unfold fn_contains
  rw [bytes_len, leI_t (by omega), cond_true, Option.bind_some]
  by_cases hg : good s
  · rw [odd_false hg, cond_false, ltI_f (by omega), cond_false, if_neg (by rintro (h | h); exact h0 h; exact h hg)]
    have h := pout N s hg hN hN2 s.size 0 N (by omega) (by omega)
    rw [show vv s 0 = 0 from rfl, show (Y 0 : List Int) = [] from D_nil _] at h
    exact h
  · obtain ⟨j, hj, hb⟩ := not_good hg
    rw [odd_true hj hb, cond_true, if_pos (.inr hg)]
/-! ### the reference's -/
theorem refp_loop (N : Nat) (s : ByteArray) (hN : s.size * 4 + 100 < N) (hN2 : N < 1000000000) : ∀ (r i f : Nat), i + r = s.size → r < f → (∀ j, j < i → 48 ≤ byte s j ∧ byte s j ≤ 57) → l25_0 N f s (X (vv s i)) (i : Int) = some (refR s) := by
  intro r
  induction r with
  | zero =>
    intro i f hi hf hg
    obtain ⟨f, rfl⟩ : ∃ n', f = n' + 1 := ⟨f - 1, by omega⟩
    show s25_0 N _ _ _ _ = _
    unfold s25_0 refR
    have hi2 : i = s.size := by omega
    have hgd : good s := fun j hj => hg j (by omega)
    rw [ltI_f (by omega), cond_false, if_neg (by simp [hgd]), hi2]
  | succ r ih =>
    intro i f hi hf hg
    obtain ⟨f, rfl⟩ : ∃ n', f = n' + 1 := ⟨f - 1, by omega⟩
    show s25_0 N (l25_0 N f) _ _ _ = _
    unfold s25_0
    have bad : ¬ (48 ≤ byte s i ∧ byte s i ≤ 57) → refR s = ([], false) := fun hb => by
      unfold refR
      rw [if_pos fun hg => hb (hg i (by omega))]
    have hv := vv_lt s i hg
    have hd32 := dl_ten hv
    have hd16 := dl_16_le (vv s i)
    rw [ltI_t (by omega), cond_true, leI_t (by omega), cond_true, cond_true, sAt_byte]
    by_cases h1 : 48 ≤ byte s i
    · rw [ltI_f (by omega), cond_false, cond_true, cond_true]
      by_cases h2 : byte s i ≤ 57
      · have e1 : subI .u8 (byte s i : Int) 48 = ((byte s i - 48 : Nat) : Int) := by unfold subI; rw [wrap_u8]; omega
        have e2 : cvI .u32 ((byte s i - 48 : Nat) : Int) = ((byte s i - 48 : Nat) : Int) := cvN (by simp only [lim]; omega)
        have hs := Rn.small_eq N (vv s i) 10 (byte s i - 48) (by omega) (by omega) (by omega) (by omega)
        rw [show ((10 : Nat) : Int) = 10 from rfl, Nat.mul_comm] at hs
        rw [ltI_f (by omega), cond_false, cond_true, cond_true, e1, e2, hs, Option.bind_some, succI i (by omega)]
        exact ih (i + 1) f (by omega) (by omega) (fun j hj => by
          by_cases e : j = i
          · rw [e]; exact ⟨h1, h2⟩
          · exact hg j (by omega))
      · rw [ltI_t (by omega), cond_true, bad (by omega)]
    · rw [ltI_t (by omega), cond_true, bad (by omega)]
theorem refParse_eq (N : Nat) (s : ByteArray) (hN : s.size * 4 + 100 < N) (hN2 : N < 1000000000) : fn_tillerref02_Parse N s = some (refR s) := by
  unfold fn_tillerref02_Parse t25
  have h := refp_loop N s hN hN2 s.size 0 N (by omega) (by omega) (fun j hj => by omega)
  rw [show vv s 0 = 0 from rfl, show (X 0 : List Int) = [] from D_nil _] at h
  exact h
theorem lit_cut : ∀ d : Fin 10, (⟨#[48, 49, 50, 51, 52, 53, 54, 55, 56, 57]⟩ : ByteArray).extract d.1 (d.1 + 1) = bs [48 + d.1] := by decide +kernel
/-- parting by ten, a digit more -/
theorem ten_step (m i : Nat) : m / 65536 ^ i / 10 = (65536 * (m / 65536 ^ (i + 1) % 10) + m / 65536 ^ i % 65536) / 10 + 65536 * (m / 65536 ^ (i + 1) / 10) ∧ m / 65536 ^ i % 10 = (65536 * (m / 65536 ^ (i + 1) % 10) + m / 65536 ^ i % 65536) % 10 := by
  have h : m / 65536 ^ (i + 1) = m / 65536 ^ i / 65536 := by rw [Nat.pow_succ, Nat.div_div_eq_div_mul]
  rw [h]
  generalize m / 65536 ^ i = z
  omega
theorem refd_in (N m : Nat) (v0 : ByteArray) (hN : dl 65536 m + 10 < N) (hN2 : N < 1000000000) (hsz : v0.size < 3000000000) (E : List Int → ByteArray → Option ByteArray) : ∀ (j f : Nat), j ≤ dl 65536 m → j < f →
    l26_1 N E f v0 ((m / 65536 ^ j % 10 : Nat) : Int) ((j : Int) - 1) (T 65536 (dl 65536 m) (m % 65536 ^ j + 65536 ^ j * (m / 65536 ^ j / 10))) = E (X (m / 10)) (bs [48 + m % 10] ++ v0) := by
  have hml := dl_lt b16 m
  intro j
  induction j with
  | zero =>
    intro f hj hf
    obtain ⟨f, rfl⟩ : ∃ n', f = n' + 1 := ⟨f - 1, by omega⟩
    show s26_1 N _ _ _ _ _ _ = _
    unfold s26_1
    have h10 := Nat.mod_lt m (show 0 < 10 by decide)
    have e1 : addI .u32 ((m % 10 : Nat) : Int) 1 = ((m % 10 + 1 : Nat) : Int) := addN (k := .u32) (b := 1) (by simp only [lim]; omega)
    have e2 := lit_cut ⟨m % 10, h10⟩
    simp only at e2
    have hsz2 : ((⟨#[48, 49, 50, 51, 52, 53, 54, 55, 56, 57]⟩ : ByteArray).size : Int) = 10 := rfl
    rw [leI_f (by omega), cond_false, Nat.pow_zero, Nat.div_one, Nat.mod_one, Nat.zero_add, Nat.one_mul, e1, leI_t (show (0 : Int) ≤ ((m % 10 : Nat) : Int) by omega), leI_t (show ((m % 10 : Nat) : Int) ≤ ((m % 10 + 1 : Nat) : Int) by omega), hsz2, leI_t (show ((m % 10 + 1 : Nat) : Int) ≤ 10 by omega)]
    simp only [Bool.and_self, cond_true, Int.toNat_natCast]
    rw [e2, bs_size, leI_t (by simp; omega), cond_true, Rn.trim_eq N _ _ (by omega) (by omega), Option.bind_some, Nat.mod_eq_of_lt (Nat.lt_of_le_of_lt (Nat.div_le_self _ _) hml)]
  | succ i ih =>
    intro f hj hf
    obtain ⟨f, rfl⟩ : ∃ n', f = n' + 1 := ⟨f - 1, by omega⟩
    have ih := ih f (by omega) (by omega)
    show s26_1 N (l26_1 N E f) E _ _ _ _ = _
    unfold s26_1
    obtain ⟨t1, t2⟩ := ten_step m i
    have e0 : ((i + 1 : Nat) : Int) - 1 = (i : Int) := by omega
    have e1 : subI .i64 (i : Int) 1 = (i : Int) - 1 := subI_i (by omega) (by omega)
    have hr : m / 65536 ^ (i + 1) % 10 < 10 := Nat.mod_lt _ (by decide)
    have ha : m / 65536 ^ i % 65536 < 65536 := Nat.mod_lt _ (by decide)
    have hA : m % 65536 ^ (i + 1) < 65536 ^ (i + 1) := Nat.mod_lt _ (p16 _)
    have hget : lrd (T 65536 (dl 65536 m) (m % 65536 ^ (i + 1) + 65536 ^ (i + 1) * (m / 65536 ^ (i + 1) / 10))) (i : Int) = ((m / 65536 ^ i % 65536 : Nat) : Int) := by
      rw [lrd_T (by omega), Nat.pow_succ 65536 i, Nat.mul_assoc, Nat.add_mul_div_left _ _ (p16 _), Nat.add_mul_mod_self_left, ← Nat.pow_succ, mod_pow_div (by decide) m (Nat.lt_succ_self i)]
    have hq : (65536 * (m / 65536 ^ (i + 1) % 10) + m / 65536 ^ i % 65536) / 10 < 65536 := by omega
    have hset : ∀ q : Nat, q < 65536 → (T 65536 (dl 65536 m) (m % 65536 ^ (i + 1) + 65536 ^ (i + 1) * (m / 65536 ^ (i + 1) / 10))).set i (q : Int) = T 65536 (dl 65536 m) (m % 65536 ^ i + 65536 ^ i * (q + 65536 * (m / 65536 ^ (i + 1) / 10))) := by
      intro q hq
      rw [T_set b16 (by omega) hq]
      have f1 : (m % 65536 ^ (i + 1) + 65536 ^ (i + 1) * (m / 65536 ^ (i + 1) / 10)) % 65536 ^ i = m % 65536 ^ i := by
        rw [Nat.pow_succ, Nat.mul_assoc, Nat.add_mul_mod_self_left, Nat.mod_mul_right_mod]
      have f2 : (m % 65536 ^ (i + 1) + 65536 ^ (i + 1) * (m / 65536 ^ (i + 1) / 10)) / 65536 ^ (i + 1) = m / 65536 ^ (i + 1) / 10 := by
        rw [Nat.add_mul_div_left _ _ (p16 _), Nat.div_eq_of_lt hA, Nat.zero_add]
      rw [f1, f2, Nat.mul_add, ← Nat.mul_assoc, ← Nat.pow_succ, Nat.add_assoc]
    have e2 : mulI .u32 65536 ((m / 65536 ^ (i + 1) % 10 : Nat) : Int) = ((65536 * (m / 65536 ^ (i + 1) % 10) : Nat) : Int) := mulN (k := .u32) (a := 65536) (by simp only [lim]; omega)
    have e3 : addI .u32 ((65536 * (m / 65536 ^ (i + 1) % 10) : Nat) : Int) ((m / 65536 ^ i % 65536 : Nat) : Int) = ((65536 * (m / 65536 ^ (i + 1) % 10) + m / 65536 ^ i % 65536 : Nat) : Int) := addN (by simp only [lim]; omega)
    have e4 : remI .u32 ((65536 * (m / 65536 ^ (i + 1) % 10) + m / 65536 ^ i % 65536 : Nat) : Int) 10 = ((m / 65536 ^ i % 10 : Nat) : Int) := by rw [t2]; exact remN .u32 _ 10
    have e5 : quoI .u32 ((65536 * (m / 65536 ^ (i + 1) % 10) + m / 65536 ^ i % 65536 : Nat) : Int) 10 = (((65536 * (m / 65536 ^ (i + 1) % 10) + m / 65536 ^ i % 65536) / 10 : Nat) : Int) := quoN (k := .u32) (b := 10) (by simp only [lim]; omega)
    have z1 : (i : Int) < ((dl 65536 m : Nat) : Int) := by omega
    have z0 : (0 : Int) ≤ (i : Int) := by omega
    rw [e0, leI_t z0, cond_true, cond_true, T_len, ltI_t z1, cond_true, cond_true, cond_true, hget, e2, e3, e4, e5, e1, Int.toNat_natCast, hset _ hq, ← t1]
    exact ih

theorem refd_out (N n : Nat) (hN : dl 65536 n + 10 < N) (hN2 : N < 1000000000) : ∀ (r t f : Nat), n < 10 ^ (t + r) → t + r < 2000000000 → r < f → (t = 0 ∨ n / 10 ^ (t - 1) ≠ 0) → 0 < n →
    l26_0 N f (X (n / 10 ^ t)) (bs (dd n t)) = some (DS n) := by
  have stop : ∀ (t f : Nat), n < 10 ^ t → 0 < f → (t = 0 ∨ n / 10 ^ (t - 1) ≠ 0) → 0 < n → l26_0 N f (X (n / 10 ^ t)) (bs (dd n t)) = some (DS n) := by
    intro t f hn hf ht h0
    obtain ⟨f, rfl⟩ : ∃ n', f = n' + 1 := ⟨f - 1, by omega⟩
    show s26_0 N _ _ _ = _
    unfold s26_0
    have hdl : dl 10 n = t := by
      rcases ht with rfl | ht
      · rw [Nat.pow_zero] at hn; omega
      · obtain ⟨t', rfl⟩ : ∃ t', t = t' + 1 := by
          cases t with
          | zero => rw [Nat.pow_zero] at hn; omega
          | succ t' => exact ⟨t', rfl⟩
        rw [Nat.add_sub_cancel] at ht
        refine dl_eq b10 ?_ hn
        apply Nat.le_of_not_lt
        intro h
        exact ht (Nat.div_eq_of_lt h)
    have hd1 : 0 < t := by rw [← hdl]; exact ((dl_spec b10 n).2 h0).2
    have e : DS n = bs (dd n t) := by unfold DS; rw [hdl, show max 1 t = t by omega]
    rw [Nat.div_eq_of_lt hn, D_len, dl_zero, ltI_f (by omega), cond_false, e]
  intro r
  induction r with
  | zero => intro t f hn hb hf ht h0; exact stop t f hn hf ht h0
  | succ r ih =>
    intro t f hn hb hf ht h0
    by_cases hz : n < 10 ^ t
    · exact stop t f hz (by omega) ht h0
    obtain ⟨f, rfl⟩ : ∃ n', f = n' + 1 := ⟨f - 1, by omega⟩
    show s26_0 N (l26_1 N (l26_0 N f) N) _ _ = _
    unfold s26_0
    have hpos : 0 < n / 10 ^ t := Nat.div_pos (by omega) (Nat.pow_pos (by decide))
    have hdl : dl 65536 (n / 10 ^ t) ≤ dl 65536 n := dl_le b16 (Nat.lt_of_le_of_lt (Nat.div_le_self _ _) (dl_lt b16 n))
    have hdp : 0 < dl 65536 (n / 10 ^ t) := ((dl_spec b16 _).2 hpos).2
    have hnext : n / 10 ^ t / 10 = n / 10 ^ (t + 1) := by rw [Nat.div_div_eq_div_mul, ← Nat.pow_succ]
    have hin := refd_in N (n / 10 ^ t) (bs (dd n t)) (by omega) hN2 (by rw [bs_size, dd_len]; omega) (l26_0 N f) (dl 65536 (n / 10 ^ t)) N (Nat.le_refl _) (by omega)
    have hz0 : n / 10 ^ t / 65536 ^ dl 65536 (n / 10 ^ t) = 0 := Nat.div_eq_of_lt (dl_lt b16 _)
    rw [hz0, Nat.zero_mod, Nat.zero_div, Nat.mul_zero, Nat.add_zero, T_mod (by decide), hnext, bs_cons] at hin
    have e1 : subI .i64 ((dl 65536 (n / 10 ^ t) : Nat) : Int) 1 = ((dl 65536 (n / 10 ^ t) : Nat) : Int) - 1 := subI_i (by omega) (by omega)
    rw [D_len, ltI_t (by omega), cond_true, fit_t (by omega), cond_true, e1]
    refine Eq.trans hin ?_
    exact ih (t + 1) f (by rw [show t + 1 + r = t + (r + 1) by omega]; exact hn) (by omega) (by omega) (.inr (by rw [Nat.add_sub_cancel]; omega)) h0
theorem refDecimal_eq (N n : Nat) (hN : dl 65536 n * 5 + 100 < N) (hN2 : N < 1000000000) : fn_tillerref02_Decimal N (X n) = some (DS n) := by
  unfold fn_tillerref02_Decimal t26
  by_cases h0 : n = 0
  · subst h0
    have e : DS 0 = (⟨#[48]⟩ : ByteArray) := by
      unfold DS; rw [dl_zero]; decide
    rw [D_len, dl_zero, eqI_t (show ((0 : Nat) : Int) = 0 from rfl), cond_true, e]
  · have hdp : 0 < dl 65536 n := ((dl_spec b16 _).2 (by omega)).2
    have hb : n < 10 ^ (0 + 5 * dl 65536 n) := by
      refine Nat.lt_of_lt_of_le (dl_lt b16 n) ?_
      have h1 : (65536 : Nat) ≤ 10 ^ 5 := by decide
      refine Nat.le_trans (Nat.pow_le_pow_left h1 _) ?_
      rw [← Nat.pow_mul]
      exact Nat.pow_le_pow_right (by decide) (by omega)
    have h := refd_out N n (by omega) hN2 (5 * dl 65536 n) 0 N hb (by omega) (by omega) (.inl rfl) (by omega)
    rw [Nat.pow_zero, Nat.div_one] at h
    rw [D_len, eqI_f (by omega), cond_false]
    exact h
/-! ### a number's digits, read -/
theorem vv_dd (n k : Nat) (hn : n < 10 ^ k) : ∀ i, i ≤ k → vv (bs (dd n k)) i = n / 10 ^ (k - i)
  | 0, _ => (Nat.div_eq_of_lt hn).symm
  | i + 1, h => by
    have hlt : n / 10 ^ (k - 1 - i) % 10 < 10 := Nat.mod_lt _ (by decide)
    have hb : byte (bs (dd n k)) i = 48 + n / 10 ^ (k - 1 - i) % 10 := bs_byte (dd_get n k i (by omega)) (by omega)
    rw [vv, vv_dd n k hn i (by omega), hb, Nat.add_sub_cancel_left, show k - i = k - 1 - i + 1 by omega, show k - (i + 1) = k - 1 - i by omega, Nat.pow_succ, ← Nat.div_div_eq_div_mul]
    exact Nat.div_add_mod _ _
theorem DS_size (n : Nat) : (DS n).size = max 1 (dl 10 n) := by unfold DS; rw [bs_size, dd_len]
theorem DS_good (n : Nat) : good (DS n) := by
  intro j hj
  rw [DS_size] at hj
  have hlt : n / 10 ^ (max 1 (dl 10 n) - 1 - j) % 10 < 10 := Nat.mod_lt _ (by decide)
  have hb : byte (DS n) j = 48 + n / 10 ^ (max 1 (dl 10 n) - 1 - j) % 10 := bs_byte (dd_get n _ j hj) (by omega)
  rw [hb]; omega
theorem natR_DS (n : Nat) : natR (DS n) = (Y n, none) := by
  have hs := DS_size n
  have hn : n < 10 ^ max 1 (dl 10 n) := Nat.lt_of_lt_of_le (dl_lt b10 n) (Nat.pow_le_pow_right (by decide) (Nat.le_max_right _ _))
  have hv : vv (DS n) (DS n).size = n := by
    rw [hs]
    have := vv_dd n _ hn (max 1 (dl 10 n)) (Nat.le_refl _)
    rw [Nat.sub_self, Nat.pow_zero, Nat.div_one] at this
    exact this
  unfold natR
  rw [if_neg (by rintro (h | h); omega; exact h (DS_good n)), hv]
end Go.Proofs.YtoihjgfnocimjaaDoor.Nt
