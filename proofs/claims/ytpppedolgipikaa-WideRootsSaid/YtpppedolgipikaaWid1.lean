/- PLAIN FACTS on chapter 1's functions (the document's own): all bits of a number, and a number by its bits. No statement is proved here. -/
import Derived.Test.YtpppedolgipikaaFn1
import Derived.Test.YtpppedolgipikaaTab
namespace Go.Proofs.Ytpppedolgipikaa.Wid
open Go Go.RowKit Go.Proofs.Ytpppedolgipikaa.Eng Go.Proofs.Ytpppedolgipikaa.Fns Go.Proofs.Ytpppedolgipikaa.Bw
set_option linter.unusedVariables false
set_option linter.unusedSimpArgs false
/-! ### bitsOf -/
theorem bits_in (N : Nat) (E : Int → Vec 4 → Vec 256 → Vec 256 → Option (Vec 256)) (x k : Nat) (hk : k < 4) (a : Vec 4) (z : Vec 256) :
    ∀ m i n : Nat, i + m = 64 → m < n → l30_1 N E n k ((x / 2 ^ (64 * k) % 2 ^ 64 / 2 ^ i : Nat) : Int) i a z (tab 256 fun j => if j < 64 * k + i then (bitN x j : Int) else 0) = E ((k + 1 : Nat) : Int) a z (tab 256 fun j => if j < 64 * (k + 1) then (bitN x j : Int) else 0) := by
  intro m
  induction m with
  | zero =>
    intro i n hi hn
    obtain ⟨n, rfl⟩ : ∃ n', n = n' + 1 := ⟨n - 1, by omega⟩
    show s30_1 N _ E _ _ _ _ _ _ = _
    unfold s30_1
    rw [ltI_f (by omega), cond_false, addI_i (by omega) (by omega), show 64 * k + i = 64 * (k + 1) from by omega]
    rfl
  | succ m ih =>
    intro i n hi hn
    obtain ⟨n, rfl⟩ : ∃ n', n = n' + 1 := ⟨n - 1, by omega⟩
    show s30_1 N (l30_1 N E n) E _ _ _ _ _ _ = _
    unfold s30_1
    have hw : x / 2 ^ (64 * k) % 2 ^ 64 / 2 ^ i < 2 ^ 64 := Nat.lt_of_le_of_lt (Nat.div_le_self ..) (Nat.mod_lt _ (by decide))
    have hj : addI .i64 (mulI .i64 64 (k : Int)) (i : Int) = ((64 * k + i : Nat) : Int) := by rw [mulI_i (by omega) (by omega), addI_i (by omega) (by omega)]; omega
    rw [ltI_t (by omega), cond_true, hj, leI_t (by omega), cond_true, ltI_t (by omega), cond_true]
    rw [show (2 : Int) = ((2 : Nat) : Int) from rfl, quoI_u (by omega), remI_n, bit_word (by omega), cvI_i (by omega) (by have := bit_lt x (64 * k + i); omega), addI_i (by omega) (by omega), st_tab (by omega)]
    rw [Nat.div_div_eq_div_mul, ← Nat.pow_succ]
    have := ih (i + 1) n (by omega) (by omega)
    rw [show ((i : Int) + 1) = ((i + 1 : Nat) : Int) from rfl]
    rw [← this]
    congr 1
    apply tab_congr
    intro j hj
    by_cases h1 : j = 64 * k + i
    · subst h1; simp
    · simp only [h1, if_false]
      by_cases h2 : j < 64 * k + i
      · rw [if_pos h2, if_pos (by omega)]
      · rw [if_neg h2, if_neg (by omega)]
theorem bits_out (N : Nat) (hN : 65 ≤ N) (x : Nat) (z : Vec 256) : ∀ m k n : Nat, k + m = 4 → m < n → l30_0 N n k (W x) z (tab 256 fun j => if j < 64 * k then (bitN x j : Int) else 0) = some (B x) := by
  intro m
  induction m with
  | zero =>
    intro k n hk hn
    obtain ⟨n, rfl⟩ : ∃ n', n = n' + 1 := ⟨n - 1, by omega⟩
    show s30_0 N _ _ _ _ _ = _
    unfold s30_0
    rw [ltI_f (by omega), cond_false]
    congr 1
    apply tab_congr
    intro j hj
    rw [if_pos (by omega)]
  | succ m ih =>
    intro k n hk hn
    obtain ⟨n, rfl⟩ : ∃ n', n = n' + 1 := ⟨n - 1, by omega⟩
    show s30_0 N (l30_1 N (l30_0 N n) N) _ _ _ _ = _
    unfold s30_0
    rw [ltI_t (by omega), cond_true, leI_t (by omega), cond_true, cond_true, rd_W (by omega)]
    have := bits_in N (l30_0 N n) x k (by omega) (W x) z 64 0 N (by omega) (by omega)
    rw [Nat.pow_zero, Nat.div_one] at this
    exact this.trans (ih (k + 1) n (by omega) (by omega))
theorem bitsOf_eq (N : Nat) (hN : 65 ≤ N) (x : Nat) : fn_tillerref01_bitsOf N (W x) = some (B x) := by
  unfold fn_tillerref01_bitsOf t30
  have := bits_out N hN x (Vec.zero 256) 4 0 N (by omega) (by omega)
  rw [← this, zero_tab 256]
  congr 1
/-! ### of -/
theorem of_in (N : Nat) (E : List Int → Int → Vec 4 → Vec 4 → Option (Vec 4)) (x k : Nat) (hk : k < 4) (l : List Int) (hl : l.length = 256) (hb : ∀ i : Nat, i < 256 → lrd l (i : Int) = (bitN x i : Int)) (a z : Vec 4) :
    ∀ i n : Nat, i ≤ 64 → i < n → l31_1 N E n l k ((x / 2 ^ (64 * k) % 2 ^ 64 / 2 ^ i : Nat) : Int) ((i : Int) - 1) a z = E l ((k + 1 : Nat) : Int) a (Vec.st z k ((x / 2 ^ (64 * k) % 2 ^ 64 : Nat) : Int)) := by
  intro i
  induction i with
  | zero =>
    intro n hi hn
    obtain ⟨n, rfl⟩ : ∃ n', n = n' + 1 := ⟨n - 1, by omega⟩
    show s31_1 N _ E _ _ _ _ _ _ = _
    unfold s31_1
    rw [leI_f (by omega), cond_false, leI_t (by omega), cond_true, ltI_t (by omega), cond_true, addI_i (by omega) (by omega), Nat.pow_zero, Nat.div_one]
    rfl
  | succ i ih =>
    intro n hi hn
    obtain ⟨n, rfl⟩ : ∃ n', n = n' + 1 := ⟨n - 1, by omega⟩
    show s31_1 N (l31_1 N E n) E _ _ _ _ _ _ = _
    unfold s31_1
    have hw : x / 2 ^ (64 * k) % 2 ^ 64 < 2 ^ 64 := Nat.mod_lt _ (by decide)
    have hj : addI .i64 (mulI .i64 64 (k : Int)) (((i + 1 : Nat) : Int) - 1) = ((64 * k + i : Nat) : Int) := by rw [mulI_i (by omega) (by omega), addI_i (by omega) (by omega)]; omega
    rw [leI_t (by omega), cond_true, hj, leI_t (by omega), cond_true, hl, ltI_t (by omega), cond_true, hb _ (by omega)]
    have hbt := bit_word (x := x) (k := k) (i := i) (by omega)
    have hlt := bit_lt x (64 * k + i)
    have hd : x / 2 ^ (64 * k) % 2 ^ 64 / 2 ^ (i + 1) = x / 2 ^ (64 * k) % 2 ^ 64 / 2 ^ i / 2 := by rw [Nat.div_div_eq_div_mul _ (2 ^ i) 2, ← Nat.pow_succ]
    have h0 : x / 2 ^ (64 * k) % 2 ^ 64 / 2 ^ i < 2 ^ 64 := Nat.lt_of_le_of_lt (Nat.div_le_self ..) hw
    rw [hd, cvI_u (by omega) (by omega)]
    have e : addI .u64 (mulI .u64 2 ((x / 2 ^ (64 * k) % 2 ^ 64 / 2 ^ i / 2 : Nat) : Int)) (bitN x (64 * k + i) : Int) = ((x / 2 ^ (64 * k) % 2 ^ 64 / 2 ^ i : Nat) : Int) := by
      generalize x / 2 ^ (64 * k) % 2 ^ 64 / 2 ^ i = y at *
      rw [mulI_u (by omega) (by omega), addI_u (by omega) (by omega)]; omega
    rw [e, subI_i (by omega) (by omega), show (((i + 1 : Nat) : Int) - 1 - 1) = (i : Int) - 1 from by omega]
    exact ih n (by omega) (by omega)
theorem of_out (N : Nat) (hN : 65 ≤ N) (x : Nat) (l : List Int) (hl : l.length = 256) (hb : ∀ i : Nat, i < 256 → lrd l (i : Int) = (bitN x i : Int)) (a : Vec 4) :
    ∀ m k n : Nat, k + m = 4 → m < n → l31_0 N n l k a (tab 4 fun j => if j < k then ((x / 2 ^ (64 * j) % 2 ^ 64 : Nat) : Int) else 0) = some (W x) := by
  intro m
  induction m with
  | zero =>
    intro k n hk hn
    obtain ⟨n, rfl⟩ : ∃ n', n = n' + 1 := ⟨n - 1, by omega⟩
    show s31_0 N _ _ _ _ _ = _
    unfold s31_0
    rw [ltI_f (by omega), cond_false]
    congr 1
    apply tab_congr
    intro j hj
    rw [if_pos (by omega)]
  | succ m ih =>
    intro k n hk hn
    obtain ⟨n, rfl⟩ : ∃ n', n = n' + 1 := ⟨n - 1, by omega⟩
    show s31_0 N (l31_1 N (l31_0 N n) N) _ _ _ _ = _
    unfold s31_0
    rw [ltI_t (by omega), cond_true]
    have h := of_in N (l31_0 N n) x k (by omega) l hl hb a (tab 4 fun j => if j < k then ((x / 2 ^ (64 * j) % 2 ^ 64 : Nat) : Int) else 0) 64 N (by omega) (by omega)
    have hw : x / 2 ^ (64 * k) % 2 ^ 64 < 2 ^ 64 := Nat.mod_lt _ (by decide)
    rw [Nat.div_eq_of_lt hw] at h
    refine Eq.trans h ?_
    rw [st_tab (by omega), ← ih (k + 1) n (by omega) (by omega)]
    congr 1
    apply tab_congr
    intro j hj
    by_cases h1 : j = k
    · subst h1; simp
    · simp only [h1, if_false]
      by_cases h2 : j < k
      · rw [if_pos h2, if_pos (by omega)]
      · rw [if_neg h2, if_neg (by omega)]
theorem of_eq (N : Nat) (hN : 65 ≤ N) (x : Nat) (f : Nat → Int) (h : ∀ i, i < 256 → f i = (bitN x i : Int)) : fn_tillerref01_of N (Vec.cut (tab 256 f) 0 256) = some (W x) := by
  unfold fn_tillerref01_of t31
  have := of_out N hN x (Vec.cut (tab 256 f) 0 256) cut_len (fun i hi => by rw [cut_tab hi, h i hi]) (Vec.zero 4) 4 0 N (by omega) (by omega)
  rw [← this, zero_tab 4]
  congr 1
end Go.Proofs.Ytpppedolgipikaa.Wid
