/- Plain facts on the functions that were printed. Texts in one: Red2, Red3, Red4, Red5, Red6, Red7, Red8, Hxs, Red9. No statement is proved here. -/
import Derived.Test.YtcdhcihjcjpmkaaGreatDoorGshw
import Derived.Test.YtcdhcihjcjpmkaaGreatDoorGval
import Derived.Laws.Strings
namespace Go.Proofs.YtcdhcihjcjpmkaaGreatDoor.Shw
open Go Eng Fns Bw Dig Nt Num Slc
open Rn (X Y b32 b16 cmpZ)
set_option linter.unusedVariables false
set_option linter.unusedSimpArgs false
/-- the number of digits -/
def dv (b : Nat) (D : List Int) : Nat := D.foldl (fun a d => a * b + d.toNat) 0
theorem dv_snoc (b : Nat) (D : List Int) (d : Int) : dv b (D ++ [d]) = dv b D * b + d.toNat := by unfold dv; rw [List.foldl_append]; rfl
theorem fold_lt (b : Nat) (hb : b ≤ 16) : ∀ (D : List Int) (a : Nat), (∀ d ∈ D, d < 16) → D.foldl (fun a d => a * b + d.toNat) a + 1 ≤ (a + 1) * 16 ^ D.length
  | [], a, _ => by simp
  | d :: D, a, h => by
    have h1 := fold_lt b hb D (a * b + d.toNat) (fun x hx => h x (List.mem_cons_of_mem _ hx))
    have h2 := h d (List.mem_cons_self ..)
    have h3 : a * b ≤ a * 16 := Nat.mul_le_mul_left _ hb
    have h4 : (a * b + d.toNat + 1) * 16 ^ D.length ≤ ((a + 1) * 16) * 16 ^ D.length := Nat.mul_le_mul_right _ (by omega)
    rw [List.foldl_cons, List.length_cons, Nat.pow_succ, Nat.mul_comm (16 ^ D.length), ← Nat.mul_assoc]
    exact Nat.le_trans h1 h4
theorem dv_lt (b : Nat) (hb : b ≤ 16) (D : List Int) (h : ∀ d ∈ D, d < 16) : dv b D < 16 ^ D.length := by
  have h1 := fold_lt b hb D 0 h
  unfold dv
  omega
theorem dv_dl (b : Nat) (hb : b ≤ 16) (D : List Int) (h : ∀ d ∈ D, d < 16) : dl 4294967296 (dv b D) ≤ D.length := by
  have h1 := dv_lt b hb D h
  have h2 : 16 ^ D.length ≤ 4294967296 ^ D.length := Nat.pow_le_pow_left (by decide) _
  exact dl_le b32 (Nat.lt_of_lt_of_le h1 h2)
theorem of_loop (b : Nat) (hb : b ≤ 16) (D : List Int) (hD : ∀ d ∈ D, 0 ≤ d ∧ d < 16) (hl : D.length ≤ 1000) : ∀ (r i f : Nat), i + r = D.length → r < f → l72_0 100000 f (Y (dv b (D.take i))) (Y b) D (D.length : Int) (i : Int) = some (Y (dv b D), none)
  | 0, i, f, hi, hf => by
    obtain ⟨f, rfl⟩ : ∃ n', f = n' + 1 := ⟨f - 1, by omega⟩
    show s72_0 100000 _ _ _ _ _ _ = _
    unfold s72_0
    rw [List.take_of_length_le (by omega)]
    exact cF (ltI_f (by omega)) rfl
  | r + 1, i, f, hi, hf => by
    obtain ⟨f, rfl⟩ : ∃ n', f = n' + 1 := ⟨f - 1, by omega⟩
    have hlt : i < D.length := by omega
    obtain ⟨d, hd⟩ := Int.eq_ofNat_of_zero_le (hD _ (List.getElem_mem hlt)).1
    have hd2 := (hD _ (List.getElem_mem hlt)).2
    have e1 : lrd D (i : Int) = (d : Int) := by
      unfold lrd
      rw [Int.toNat_natCast, List.getD_eq_getElem?_getD, List.getElem?_eq_getElem hlt]
      exact hd
    have e2 : dv b (D.take (i + 1)) = dv b (D.take i) * b + d := by
      rw [List.take_succ_eq_append_getElem hlt, dv_snoc, hd]; rfl
    have b1 := dv_dl b hb (D.take i) (fun x hx => (hD x (List.mem_of_mem_take hx)).2)
    have b2 := dv_dl b hb (D.take (i + 1)) (fun x hx => (hD x (List.mem_of_mem_take hx)).2)
    rw [List.length_take] at b1 b2
    have b3 : dl 4294967296 b ≤ 1 := dl_le b32 (by omega)
    have b4 : dl 4294967296 d ≤ 1 := dl_le b32 (by omega)
    have b5 := dl_mul32 (dv b (D.take i)) b
    have ih := of_loop b hb D hD hl r (i + 1) f (by omega) (by omega)
    have hmul := mul_Y (dv b (D.take i)) b (by omega) (by omega)
    have hof := of_eq 100000 d (by decide) (by omega)
    have hadd := add_eq 100000 (dv b (D.take i) * b) d (by omega) (by omega) (by decide) (by decide)
    rw [← e2, bnd32, if_pos (by omega)] at hadd
    have hcv : cvI .u64 (lrd D (i : Int)) = (d : Int) := by rw [e1]; exact cvN (by simp only [lim]; omega)
    have hsc : addI .i64 (i : Int) 1 = ((i + 1 : Nat) : Int) := succI i (by omega)
    show s72_0 100000 (l72_0 100000 f) _ _ _ _ _ = _
    unfold s72_0
    refine cT (ltI_t (by omega)) (cT (leI_t (by omega)) (cT (ltI_t (by omega)) (bd hmul (cF rfl (bd (by rw [hcv]; exact hof) (bd hadd (cF rfl ?_)))))))
    rw [hsc]
    exact ih
theorem of_R (b : Nat) (hb : b ≤ 16) (D : List Int) (hD : ∀ d ∈ D, 0 ≤ d ∧ d < 16) (hl : D.length ≤ 1000) : fn_read_of 100000 D (b : Int) = some (Y (dv b D), none) := by
  have h := of_loop b hb D hD hl D.length 0 100000 (by omega) (by omega)
  have e0 : Y (dv b (D.take 0)) = [] := by
    rw [List.take_zero]; exact D_nil _
  rw [e0] at h
  unfold fn_read_of t72
  refine bd (v := Y b) ?_ h
  rw [cvN (by simp only [lim]; omega)]
  exact of_eq 100000 b (by decide) (by omega)
/-! ### a number's first bits -/
theorem w_at (w k j : Nat) (hw : w < 4294967296) : 2 ^ (32 * k) * w / 2 ^ (64 * j) % 2 ^ 64 = if j = k / 2 then w * 2 ^ (32 * (k % 2)) else 0 := by
  rcases Nat.lt_trichotomy j (k / 2) with h | h | h
  · rw [if_neg (by omega)]
    have e : 2 ^ (32 * k) * w = 2 ^ (64 * j) * (2 ^ 64 * (2 ^ (32 * k - 64 * j - 64) * w)) := by
      rw [← Nat.mul_assoc, ← Nat.mul_assoc, ← Nat.pow_add, ← Nat.pow_add]; congr 2; omega
    rw [e, Nat.mul_div_cancel_left _ (Nat.pow_pos (by decide)), Nat.mul_mod_right]
  · rw [if_pos h]
    have e : 2 ^ (32 * k) * w = 2 ^ (64 * j) * (w * 2 ^ (32 * (k % 2))) := by
      rw [Nat.mul_comm w, ← Nat.mul_assoc, ← Nat.pow_add]; congr 2; omega
    rw [e, Nat.mul_div_cancel_left _ (Nat.pow_pos (by decide)), Nat.mod_eq_of_lt]
    rcases Nat.mod_two_eq_zero_or_one k with h2 | h2 <;> rw [h2] <;> omega
  · rw [if_neg (by omega)]
    have e : 2 ^ (32 * k) * w < 2 ^ (64 * j) := by
      have h1 : 2 ^ (32 * k) * w < 2 ^ (32 * k) * 2 ^ 32 := Nat.mul_lt_mul_of_pos_left hw (Nat.pow_pos (by decide))
      rw [← Nat.pow_add] at h1
      exact Nat.lt_of_lt_of_le h1 (Nat.pow_le_pow_right (by decide) (by omega))
    rw [Nat.div_eq_of_lt e]
theorem st_or (a w k : Nat) (hk : k < 8) (ha : a < 2 ^ (32 * k)) (hw : w < 4294967296) : Vec.st (W a) ((k / 2 : Nat) : Int) (orI .u64 (Vec.rd (W a) ((k / 2 : Nat) : Int)) (shlI .u64 (w : Int) ((32 * (k % 2) : Nat) : Int))) = W (a + 2 ^ (32 * k) * w) := by
  have hw2 : w * 2 ^ (32 * (k % 2)) < 18446744073709551616 := by
    rcases Nat.mod_two_eq_zero_or_one k with h2 | h2 <;> rw [h2] <;> omega
  rw [shlI_n (by omega), rd_W (by omega), Nat.mod_eq_of_lt hw2, orI_n (Nat.mod_lt _ (by decide)) (by simpa using hw2), Nat.add_comm a, Nat.two_pow_add_eq_or_of_lt ha]
  unfold W
  rw [st_tab (by omega)]
  apply tab_congr
  intro j hj
  rw [Wid.or_word, w_at w k j hw]
  by_cases h : j = k / 2
  · rw [if_pos h, if_pos h, h, Nat.or_comm]
  · rw [if_neg h, if_neg h, Nat.zero_or]
theorem pow32e (i : Nat) : 4294967296 ^ i = 2 ^ (32 * i) := by rw [Nat.pow_mul]
theorem cut_loop (a L by_ : Nat) (hL : dl 4294967296 a = L) (hL2 : L ≤ 90000) (hb : L ≤ by_ + 7) (hb2 : by_ ≤ L) (v5 : Vec 4) : ∀ (r i f : Nat), i + r = L → r < f →
    l75_0 100000 f (by_ : Int) (decide (a % 2 ^ (32 * min i by_) ≠ 0)) (Y a) (L : Int) (i : Int) v5 (W (a / 2 ^ (32 * by_) % 2 ^ (32 * (i - by_)))) = some (W (a / 2 ^ (32 * by_)), ((32 * by_ : Nat) : Int), decide (a % 2 ^ (32 * by_) ≠ 0))
  | 0, i, f, hi, hf => by
    obtain ⟨f, rfl⟩ : ∃ n', f = n' + 1 := ⟨f - 1, by omega⟩
    have hiL : i = L := by omega
    have e1 : a / 2 ^ (32 * by_) % 2 ^ (32 * (i - by_)) = a / 2 ^ (32 * by_) := by
      apply Nat.mod_eq_of_lt
      rw [Nat.div_lt_iff_lt_mul (Nat.pow_pos (by decide)), ← Nat.pow_add, show 32 * (i - by_) + 32 * by_ = 32 * L by omega, ← pow32e, ← hL]
      exact dl_lt b32 a
    rw [e1, show min i by_ = by_ by omega]
    show s75_0 100000 _ _ _ _ _ _ _ _ = _
    unfold s75_0
    refine cF (ltI_f (by omega)) ?_
    rw [mulI_i (by omega) (by omega), show (32 : Int) * (by_ : Int) = ((32 * by_ : Nat) : Int) by omega]
  | r + 1, i, f, hi, hf => by
    obtain ⟨f, rfl⟩ : ∃ n', f = n' + 1 := ⟨f - 1, by omega⟩
    have ih := cut_loop a L by_ hL hL2 hb hb2 v5 r (i + 1) f (by omega) (by omega)
    have e1 : lrd (Y a) (i : Int) = ((a / 2 ^ (32 * i) % 4294967296 : Nat) : Int) := by rw [← pow32e]; exact lrd_D b32 a i
    have hlen : ((Y a).length : Int) = (L : Int) := by rw [Y, D_len, hL]
    have hsc : addI .i64 (i : Int) 1 = ((i + 1 : Nat) : Int) := succI i (by omega)
    have hw : a / 2 ^ (32 * i) % 4294967296 < 4294967296 := Nat.mod_lt _ (by decide)
    show s75_0 100000 (l75_0 100000 f) _ _ _ _ _ _ _ = _
    unfold s75_0
    refine cT (ltI_t (by omega)) (cT (leI_t (by omega)) (cT (ltI_t (by omega)) ?_))
    rw [e1, hsc]
    have em : a % 2 ^ (32 * (i + 1)) = a % 2 ^ (32 * i) + 2 ^ (32 * i) * (a / 2 ^ (32 * i) % 4294967296) := by
      rw [show 32 * (i + 1) = 32 * i + 32 by omega, Nat.pow_add, Nat.mod_mul]
    generalize a / 2 ^ (32 * i) % 4294967296 = w at *
    by_cases hib : i < by_
    · refine cT (ltI_t (by omega)) ?_
      rw [show min i by_ = i by omega]
      rw [show min (i + 1) by_ = i + 1 by omega, em, show i + 1 - by_ = i - by_ by omega] at ih
      have hp : 0 < 2 ^ (32 * i) := Nat.pow_pos (by decide)
      by_cases hz : a % 2 ^ (32 * i) = 0
      · refine cF (decide_eq_false (by omega)) ?_
        have e3 : (!(eqI (w : Int) 0)) = decide (a % 2 ^ (32 * i) + 2 ^ (32 * i) * w ≠ 0) := by
          rw [hz, Nat.zero_add]
          by_cases h0 : w = 0
          · subst h0
            rw [Nat.mul_zero, decide_eq_false (by omega)]; rfl
          · have : 0 < 2 ^ (32 * i) * w := Nat.mul_pos hp (by omega)
            rw [eqI_f (by omega), decide_eq_true (by omega)]; rfl
        rw [e3]
        exact ih
      · refine cT (decide_eq_true hz) ?_
        rw [decide_eq_true (by omega)] at ih
        exact ih
    · refine cF (ltI_f (by omega)) ?_
      obtain ⟨k, hk⟩ : ∃ k, k = i - by_ := ⟨_, rfl⟩
      have es : subI .i64 (i : Int) (by_ : Int) = (k : Int) := by rw [subI_i (by omega) (by omega)]; omega
      have eq : quoI .i64 (k : Int) 2 = ((k / 2 : Nat) : Int) := quoN (k := .i64) (b := 2) (by simp only [lim]; omega)
      have er : remI .i64 (k : Int) 2 = ((k % 2 : Nat) : Int) := remN .i64 k 2
      have em2 : mulI .i64 32 ((k % 2 : Nat) : Int) = ((32 * (k % 2) : Nat) : Int) := by rw [mulI_i (by omega) (by omega)]; omega
      have ecv : cvI .u64 (w : Int) = (w : Int) := cvN (by simp only [lim]; omega)
      have ha : a / 2 ^ (32 * by_) % 2 ^ (32 * k) < 2 ^ (32 * k) := Nat.mod_lt _ (Nat.pow_pos (by decide))
      have hst := st_or (a / 2 ^ (32 * by_) % 2 ^ (32 * k)) w k (by omega) ha hw
      have em3 : a / 2 ^ (32 * by_) % 2 ^ (32 * (k + 1)) = a / 2 ^ (32 * by_) % 2 ^ (32 * k) + 2 ^ (32 * k) * w := by
        have h1 : a / 2 ^ (32 * by_) / 2 ^ (32 * k) = a / 2 ^ (32 * i) := by
          rw [Nat.div_div_eq_div_mul, ← Nat.pow_add]; congr 2; omega
        have h2 : a / 2 ^ (32 * i) % 4294967296 = w := by
          have hp : 0 < 2 ^ (32 * i) := Nat.pow_pos (by decide)
          have h3 : a % 2 ^ (32 * (i + 1)) = a % 2 ^ (32 * i) + 2 ^ (32 * i) * (a / 2 ^ (32 * i) % 4294967296) := by
            rw [show 32 * (i + 1) = 32 * i + 32 by omega, Nat.pow_add, Nat.mod_mul]
          rw [h3] at em
          exact Nat.eq_of_mul_eq_mul_left hp (by omega)
        rw [show 32 * (k + 1) = 32 * k + 32 by omega, Nat.pow_add, Nat.mod_mul, h1, h2]
      rw [es, eq, er, em2, ecv, ← hk]
      refine cT (leI_t (by omega)) (cT (ltI_t (by omega)) (cF (ltI_f (by omega)) (cT (leI_t (by omega)) (cT (ltI_t (by omega)) ?_))))
      rw [hst, ← em3]
      rw [show i + 1 - by_ = k + 1 by omega, show min (i + 1) by_ = by_ by omega] at ih
      rw [show min i by_ = by_ by omega]
      exact ih
theorem cut_R (a : Nat) (h : dl 4294967296 a ≤ 8192) : fn_read_cut 100000 (Y a) = some (W (a / 2 ^ (32 * (dl 4294967296 a - 7))), ((32 * (dl 4294967296 a - 7) : Nat) : Int), decide (a % 2 ^ (32 * (dl 4294967296 a - 7)) ≠ 0)) := by
  obtain ⟨L, hL⟩ : ∃ L, dl 4294967296 a = L := ⟨_, rfl⟩
  have hlen : ((Y a).length : Int) = (L : Int) := by rw [Y, D_len, hL]
  have hl := cut_loop a L (L - 7) hL (by omega) (by omega) (by omega) (Vec.zero 4) L 0 100000 (by omega) (by omega)
  rw [show min 0 (L - 7) = 0 by omega, show 0 - (L - 7) = 0 by omega, Nat.mul_zero, Nat.pow_zero, Nat.mod_one, Nat.mod_one, ← W_zero] at hl
  unfold fn_read_cut t75
  have e2 : subI .i64 (L : Int) (minI (L : Int) 7) = ((L - 7 : Nat) : Int) := by
    have h7 : minI (L : Int) 7 = ((min L 7 : Nat) : Int) := minN L 7
    rw [h7, subI_i (by omega) (by omega)]; omega
  rw [hlen, e2, hL]
  exact hl
end Go.Proofs.YtcdhcihjcjpmkaaGreatDoor.Shw
/- PLAIN FACTS on chapter 13, part 3: what digits denote, cut. No statement is proved here. -/
namespace Go.Proofs.YtcdhcihjcjpmkaaGreatDoor.Shw
open Go Eng Fns Bw Dig Nt Num Slc
open Rn (X Y b32 b16 cmpZ)
open Go.Proofs.YtcdhcihjcjpmkaaGreatDoor.Wid (lenN lenN_spec lenN_le shlZ)
open Go.Proofs.YtcdhcihjcjpmkaaGreatDoor.Top (RSpec round_spec WF okP sg NumV)
set_option linter.unusedVariables false
set_option linter.unusedSimpArgs false
theorem shl_Z (a s : Nat) (ha : dl 4294967296 a ≤ 4000) (hs : s ≤ 60000) : fn_nat_Shl 100000 (Y a) (s : Int) = some (Y (a * 2 ^ s), none) := by
  have hd := dl_mul32 a (2 ^ s)
  have h2 := dl_two s
  rw [Nt.shl_eq 100000 a s (by omega) (by omega) (by omega)]
  by_cases h0 : a = 0
  · rw [if_pos h0, h0, Nat.zero_mul, Y, D_nil]
  · rw [if_neg h0, if_neg (by omega), bnd32, if_pos (by omega)]
/-- a number, cut: what is kept of it, and whether something is lost -/
def CutOf (num den : Nat) (mo : Bool) (E : Int) (s : Nat) (mo' : Bool) : Prop := ∃ c d : Nat, E = (d : Int) - c ∧ c ≤ 50000 ∧ d ≤ 100000 ∧ s < 2 ^ 224 ∧ s * 2 ^ d * den ≤ num * 2 ^ c ∧ num * 2 ^ c < (s + 1) * 2 ^ d * den ∧ mo' = (mo || decide (s * 2 ^ d * den ≠ num * 2 ^ c)) ∧ (s * 2 ^ d * den ≠ num * 2 ^ c → 2 ^ 192 ≤ s)
theorem cut_nat (a den d : Nat) (hd : 0 < den) : a / den / 2 ^ d * 2 ^ d * den ≤ a ∧ a < (a / den / 2 ^ d + 1) * 2 ^ d * den ∧ (a / den / 2 ^ d * 2 ^ d * den ≠ a ↔ (a / den % 2 ^ d ≠ 0 ∨ 0 < a % den)) := by
  have h1 := Nat.div_add_mod a den
  have h2 := Nat.mod_lt a hd
  have h3 := Nat.div_add_mod (a / den) (2 ^ d)
  have h4 := Nat.mod_lt (a / den) (Nat.pow_pos (n := d) (show 0 < 2 by decide))
  generalize a / den = q at *
  generalize a % den = r at *
  generalize q / 2 ^ d = s at *
  generalize q % 2 ^ d = t at *
  generalize 2 ^ d = p at *
  have e1 : den * q = s * p * den + t * den := by rw [← h3, Nat.mul_comm den, Nat.add_mul, Nat.mul_comm p]
  have e2 : (s + 1) * p * den = s * p * den + p * den := by rw [Nat.add_mul, Nat.add_mul, Nat.one_mul]
  have e3 : (t + 1) * den ≤ p * den := Nat.mul_le_mul_right _ h4
  rw [Nat.add_mul, Nat.one_mul] at e3
  have e4 : t ≠ 0 → 0 < t * den := fun h => Nat.mul_pos (by omega) hd
  have e5 : t = 0 → t * den = 0 := fun h => by rw [h, Nat.zero_mul]
  refine ⟨by omega, by omega, fun h => ?_, fun h => ?_⟩
  · by_cases ht : t = 0
    · have := e5 ht; exact .inr (by omega)
    · exact .inl ht
  · rcases h with h | h
    · have := e4 h; omega
    · omega
theorem cutw_lt (a L : Nat) (hL : dl 4294967296 a = L) : a / 2 ^ (32 * (L - 7)) < 2 ^ 224 := by
  rw [Nat.div_lt_iff_lt_mul (Nat.pow_pos (by decide)), ← Nat.pow_add]
  have h := dl_lt b32 a
  rw [hL, pow32e] at h
  exact Nat.lt_of_lt_of_le h (Nat.pow_le_pow_right (by decide) (by omega))
theorem cutw_ge (a L : Nat) (hL : dl 4294967296 a = L) (h7 : 0 < L - 7) : 2 ^ 192 ≤ a / 2 ^ (32 * (L - 7)) := by
  have h0 : 0 < a := by
    rcases Nat.eq_zero_or_pos a with h | h
    · rw [h, dl_zero] at hL; omega
    · exact h
  have h := ((dl_spec b32 a).2 h0).1
  rw [hL, pow32e] at h
  rw [Nat.le_div_iff_mul_le (Nat.pow_pos (by decide)), ← Nat.pow_add]
  exact Nat.le_trans (Nat.pow_le_pow_right (by decide) (by omega)) h
theorem dl_div (a b : Nat) : dl 4294967296 (a / b) ≤ dl 4294967296 a := dl_le b32 (Nat.lt_of_le_of_lt (Nat.div_le_self _ _) (dl_lt b32 a))
theorem ten_hi (D : List Int) (pl pwr : Int) (mo : Bool) (hl : D.length ≤ 1000) (h0 : -100000000 ≤ pl) (h1 : pl ≤ 100000000) (h2 : -100000000 ≤ pwr) (h3 : pwr ≤ 100000000) (h : 400 < pl + pwr + (D.length : Int)) :
    fn_read_number_ten 100000 (D, pl, pwr, mo) = some ((false, 3200, W 1, false), none) := by
  unfold fn_read_number_ten
  simp only
  rw [addI_i (a := pl) (by omega) (by omega), addI_i (by omega) (by omega)]
  exact cT (ltI_t h) (bd (Top.of_one 100000) rfl)
theorem ten_lo (D : List Int) (pl pwr : Int) (mo : Bool) (hl : D.length ≤ 1000) (h0 : -100000000 ≤ pl) (h1 : pl ≤ 100000000) (h2 : -100000000 ≤ pwr) (h3 : pwr ≤ 100000000) (h : pl + pwr + (D.length : Int) < -400) :
    fn_read_number_ten 100000 (D, pl, pwr, mo) = some ((false, -3200, W 1, false), none) := by
  unfold fn_read_number_ten
  simp only
  rw [addI_i (a := pl) (by omega) (by omega), addI_i (by omega) (by omega)]
  exact cF (ltI_f (by omega)) (cT (ltI_t h) (bd (Top.of_one 100000) rfl))
theorem ten_mid (D : List Int) (hD : ∀ d ∈ D, 0 ≤ d ∧ d < 16) (hl : D.length ≤ 800) (pl pwr : Int) (mo : Bool) (h0 : -100000000 ≤ pl) (h1 : pl ≤ 100000000) (h2 : -100000000 ≤ pwr) (h3 : pwr ≤ 100000000) (g0 : -400 ≤ pl + pwr + (D.length : Int)) (g1 : pl + pwr + (D.length : Int) ≤ 400) :
    ∃ E s mo', fn_read_number_ten 100000 (D, pl, pwr, mo) = some ((false, E, W s, mo'), none) ∧ CutOf (dv 10 D * 10 ^ (pl + pwr).toNat) (10 ^ (-(pl + pwr)).toNat) mo E s mo' := by
  have hv := dv_dl 10 (by decide) D (fun d hd => (hD d hd).2)
  have hof := of_R 10 (by decide) D hD (by omega)
  rw [show ((10 : Nat) : Int) = 10 from rfl] at hof
  generalize dv 10 D = v at *
  unfold fn_read_number_ten
  simp only
  rw [addI_i (a := pl) (by omega) (by omega), addI_i (by omega) (by omega)]
  generalize pl + pwr = Q at *
  by_cases hQ : 0 ≤ Q
  · obtain ⟨n, rfl⟩ := Int.eq_ofNat_of_zero_le hQ
    have hm : maxI (n : Int) (subI .i64 0 (n : Int)) = (n : Int) := by
      rw [subI_i (by omega) (by omega)]; unfold maxI; split <;> omega
    have hp := dl_pow 10 n (by decide)
    have ha := dl_mul32 v (10 ^ n)
    have hpow := pow_Y 10 n (by decide) (by omega)
    rw [show ((10 : Nat) : Int) = 10 from rfl] at hpow
    have hmul := mul_Y v (10 ^ n) (by omega) (by omega)
    have hcut := cut_R (v * 10 ^ n) (by omega)
    obtain ⟨L, hL⟩ : ∃ L, dl 4294967296 (v * 10 ^ n) = L := ⟨_, rfl⟩
    have w1 := cutw_lt _ L hL
    have w2 := cutw_ge _ L hL
    have nat := cut_nat (v * 10 ^ n) 1 (32 * (L - 7)) (by decide)
    rw [Nat.div_one, Nat.mod_one] at nat
    rw [hL] at hcut ha
    rw [show (-(n : Int)).toNat = 0 by omega, Int.toNat_natCast, Nat.pow_zero]
    refine ⟨((32 * (L - 7) : Nat) : Int), v * 10 ^ n / 2 ^ (32 * (L - 7)), mo || decide (v * 10 ^ n % 2 ^ (32 * (L - 7)) ≠ 0), ?_, 0, 32 * (L - 7), by omega, by omega, by omega, w1, ?_, ?_, ?_, ?_⟩
    · refine cF (ltI_f (by omega)) (cF (ltI_f (by omega)) (bd hof (cF rfl ?_)))
      rw [hm]
      refine bd hpow (cF rfl (cT (leI_t (by omega)) (bd hmul (cF rfl (bd hcut ?_)))))
      simp only
      generalize decide (v * 10 ^ n % 2 ^ (32 * (L - 7)) ≠ 0) = z
      cases z <;> cases mo <;> rfl
    · rw [Nat.pow_zero, Nat.mul_one (v * 10 ^ n)]; exact nat.1
    · rw [Nat.pow_zero, Nat.mul_one (v * 10 ^ n)]; exact nat.2.1
    · congr 1
      rw [Nat.pow_zero, Nat.mul_one (v * 10 ^ n)]
      congr 1
      apply propext
      rw [nat.2.2]
      constructor
      · intro h; exact .inl h
      · rintro (h | h)
        · exact h
        · cases h
    · intro h
      rw [Nat.pow_zero, Nat.mul_one (v * 10 ^ n)] at h
      have h4 := nat.2.2.1 h
      refine w2 ?_
      rcases Nat.eq_zero_or_pos (L - 7) with h5 | h5
      · rw [h5, Nat.mul_zero, Nat.pow_zero, Nat.mod_one] at h4
        rcases h4 with h4 | h4
        · exact absurd rfl h4
        · cases h4
      · exact h5
  · obtain ⟨m, hm⟩ := Int.eq_ofNat_of_zero_le (show 0 ≤ -Q by omega)
    have hmx : maxI Q (subI .i64 0 Q) = (m : Int) := by
      rw [subI_i (by omega) (by omega)]; unfold maxI; split <;> omega
    have hp := dl_pow 10 m (by decide)
    have hpow := pow_Y 10 m (by decide) (by omega)
    rw [show ((10 : Nat) : Int) = 10 from rfl] at hpow
    have hden : 0 < 10 ^ m := Nat.pow_pos (by decide)
    have hlp := Nt.len_eq 100000 (10 ^ m) (by omega)
    have hlv := Nt.len_eq 100000 v (by omega)
    have l1 := dl2_le (10 ^ m) (m + 1) hp
    have l2 := dl2_le v 800 (by omega)
    have l3 := dl_lt (show 1 < 2 by decide) (10 ^ m)
    have l4 : 0 < v → 2 ^ (dl 2 v - 1) ≤ v ∧ 0 < dl 2 v := (dl_spec (show 1 < 2 by decide) v).2
    generalize dl 2 (10 ^ m) = lp at *
    generalize dl 2 v = lv at *
    have hc : maxI (subI .i64 (addI .i64 200 (lp : Int)) (lv : Int)) 0 = ((200 + lp - lv : Nat) : Int) := by
      rw [addI_i (by omega) (by omega), subI_i (by omega) (by omega)]
      unfold maxI; split <;> omega
    have hbig : 0 < v → 2 ^ 199 * 10 ^ m ≤ v * 2 ^ (200 + lp - lv) := by
      intro h
      obtain ⟨a1, a2⟩ := l4 h
      have a3 : 2 ^ 199 * 10 ^ m ≤ 2 ^ 199 * 2 ^ lp := Nat.mul_le_mul_left _ (Nat.le_of_lt l3)
      have a4 : 2 ^ (lv - 1) * 2 ^ (200 + lp - lv) ≤ v * 2 ^ (200 + lp - lv) := Nat.mul_le_mul_right _ a1
      rw [← Nat.pow_add] at a3 a4
      exact Nat.le_trans a3 (Nat.le_trans (Nat.pow_le_pow_right (by decide) (by omega)) a4)
    obtain ⟨c, hcc⟩ : ∃ c, c = 200 + lp - lv := ⟨_, rfl⟩
    rw [← hcc] at hc hbig
    have hshl := shl_Z v c (by omega) (by omega)
    have d1 := dl_mul32 v (2 ^ c)
    have d2 := dl_two c
    have hdm := Nt.divmod_eq 100000 (v * 2 ^ c) (10 ^ m) hden (by omega) (by omega) (by decide) (by decide)
    have d3 := dl_div (v * 2 ^ c) (10 ^ m)
    have hcut := cut_R (v * 2 ^ c / 10 ^ m) (by omega)
    obtain ⟨L, hL⟩ : ∃ L, dl 4294967296 (v * 2 ^ c / 10 ^ m) = L := ⟨_, rfl⟩
    have w1 := cutw_lt _ L hL
    have w2 := cutw_ge _ L hL
    have nat := cut_nat (v * 2 ^ c) (10 ^ m) (32 * (L - 7)) hden
    rw [hL] at hcut d3
    have hE : subI .i64 ((32 * (L - 7) : Nat) : Int) (c : Int) = ((32 * (L - 7) : Nat) : Int) - c := subI_i (by omega) (by omega)
    rw [show Q.toNat = 0 by omega, hm, Int.toNat_natCast, Nat.pow_zero, Nat.mul_one]
    refine ⟨((32 * (L - 7) : Nat) : Int) - c, v * 2 ^ c / 10 ^ m / 2 ^ (32 * (L - 7)), mo || decide (v * 2 ^ c / 10 ^ m / 2 ^ (32 * (L - 7)) * 2 ^ (32 * (L - 7)) * 10 ^ m ≠ v * 2 ^ c), ?_, c, 32 * (L - 7), rfl, by omega, by omega, w1, nat.1, nat.2.1, rfl, ?_⟩
    · refine cF (ltI_f (by omega)) (cF (ltI_f (by omega)) (bd hof (cF rfl ?_)))
      rw [hmx]
      refine bd hpow (cF rfl (cF (leI_f (by omega)) (bd hlp (bd hlv ?_))))
      rw [hc]
      refine bd hshl (cF rfl (bd hdm (bd hcut ?_)))
      simp only
      rw [hE, len_Y]
      have e : decide (v * 2 ^ c / 10 ^ m / 2 ^ (32 * (L - 7)) * 2 ^ (32 * (L - 7)) * 10 ^ m ≠ v * 2 ^ c) = (decide (v * 2 ^ c / 10 ^ m % 2 ^ (32 * (L - 7)) ≠ 0) || decide (0 < v * 2 ^ c % 10 ^ m)) := by
        rw [← Bool.decide_or]
        congr 1
        exact propext nat.2.2
      rw [e]
      generalize decide (v * 2 ^ c / 10 ^ m % 2 ^ (32 * (L - 7)) ≠ 0) = z
      generalize decide (0 < v * 2 ^ c % 10 ^ m) = y
      cases z <;> cases y <;> cases mo <;> rfl
    · intro h
      have h4 := nat.2.2.1 h
      rcases Nat.eq_zero_or_pos (L - 7) with h5 | h5
      · rw [h5, Nat.mul_zero, Nat.pow_zero, Nat.div_one, Nat.le_div_iff_mul_le hden]
        rw [h5, Nat.mul_zero, Nat.pow_zero, Nat.mod_one] at h4
        have hv0 : 0 < v := by
          rcases Nat.eq_zero_or_pos v with h6 | h6
          · rw [h6, Nat.zero_mul, Nat.zero_mod] at h4
            rcases h4 with h4 | h4
            · exact absurd rfl h4
            · cases h4
          · exact h6
        exact Nat.le_trans (Nat.mul_le_mul_right _ (Nat.pow_le_pow_right (by decide) (by decide))) (hbig hv0)
      · exact w2 h5
theorem enough_R (mi mo : Bool) (E : Int) (s : Nat) (hs : s < 2 ^ 224) (h0 : -100000000 ≤ E) (h1 : E ≤ 100000000) : ∃ k : Nat, k ≤ 200 ∧ fn_read_enough 100000 (mi, E, W s, mo) = some (mi, E - k, W (s * 2 ^ k), mo) ∧ s * 2 ^ k < 2 ^ 224 ∧ (mo = false → k = 0) := by
  have hlen := Wid.len_eq 100000 (by decide) s (by omega)
  obtain ⟨l1, _⟩ := lenN_spec s
  have l2 : lenN s ≤ 224 := lenN_le hs
  generalize lenN s = L at *
  have hsub : subI .i64 200 (L : Int) = 200 - L := subI_i (by omega) (by omega)
  unfold fn_read_enough
  simp only
  cases mo
  · refine ⟨0, by decide, ?_, by rw [Nat.pow_zero, Nat.mul_one]; exact hs, fun _ => rfl⟩
    rw [Nat.pow_zero, Nat.mul_one, show E - ((0 : Nat) : Int) = E by omega]
    exact bd hlen (cF rfl rfl)
  · by_cases hL : L < 200
    · obtain ⟨k, hk⟩ : ∃ k, k = 200 - L := ⟨_, rfl⟩
      have hlt : s * 2 ^ k < 2 ^ 200 := by
        have h3 : s * 2 ^ k < 2 ^ L * 2 ^ k := Nat.mul_lt_mul_of_pos_right l1 (Nat.pow_pos (by decide))
        rw [← Nat.pow_add, show L + k = 200 by omega] at h3
        exact h3
      have hsh : shlZ s ((k : Nat) : Int) = s * 2 ^ k := by
        unfold shlZ
        rw [if_neg (by omega), if_neg (by omega), Int.toNat_natCast, Nat.mod_eq_of_lt (by omega)]
      refine ⟨k, by omega, ?_, by omega, fun h => by cases h⟩
      refine bd hlen (cT rfl ?_)
      rw [hsub, show (200 : Int) - L = (k : Int) by omega]
      refine cT (ltI_t (by omega)) (bd (Wid.shl_eq 100000 (by decide) s (k : Int)) ?_)
      rw [hsh, subI_i (by omega) (by omega)]
    · refine ⟨0, by decide, ?_, by rw [Nat.pow_zero, Nat.mul_one]; exact hs, fun _ => rfl⟩
      rw [Nat.pow_zero, Nat.mul_one, show E - ((0 : Nat) : Int) = E by omega]
      refine bd hlen (cT rfl ?_)
      rw [hsub]
      exact cF (ltI_f (by omega)) rfl
theorem round_okP (N : Nat) (hN : 300 ≤ N) (x : NumV) (hx : WF x) (m : Int) : ∃ q F, fn_rnd_Round N x m = some (q, F) ∧ okP q := by
  obtain ⟨mi, base, ix, u, b0, b1, h, _⟩ := round_spec N hN x hx
  obtain ⟨f, hf, _⟩ := h m
  refine ⟨_, f, hf, ?_⟩
  unfold okP sg
  cases mi <;> cases u m <;> simp only [cond_true, cond_false] <;> omega
theorem sixteen_R (D : List Int) (hD : ∀ d ∈ D, 0 ≤ d ∧ d < 16) (hl : D.length ≤ 800) (pl pwr : Int) (mo : Bool) (h0 : -10000000 ≤ pl) (h1 : pl ≤ 10000000) (h2 : -10000000 ≤ pwr) (h3 : pwr ≤ 10000000) :
    ∃ (d s : Nat) (mo' : Bool), fn_read_number_sixteen 100000 (D, pl, pwr, mo) = some ((false, 4 * pl + pwr + d, W s, mo'), none) ∧ d ≤ 30000 ∧ s < 2 ^ 224 ∧ (dv 16 D < 2 ^ 224 → d = 0 ∧ s = dv 16 D ∧ mo' = mo) := by
  have hv := dv_dl 16 (by decide) D (fun d hd => (hD d hd).2)
  have hof := of_R 16 (by decide) D hD (by omega)
  rw [show ((16 : Nat) : Int) = 16 from rfl] at hof
  generalize dv 16 D = v at *
  have hcut := cut_R v (by omega)
  obtain ⟨L, hL⟩ : ∃ L, dl 4294967296 v = L := ⟨_, rfl⟩
  have w1 := cutw_lt _ L hL
  rw [hL] at hcut hv
  refine ⟨32 * (L - 7), v / 2 ^ (32 * (L - 7)), mo || decide (v % 2 ^ (32 * (L - 7)) ≠ 0), ?_, by omega, w1, ?_⟩
  · unfold fn_read_number_sixteen
    simp only
    refine bd hof (bd hcut ?_)
    simp only
    rw [mulI_i (by omega) (by omega), addI_i (a := 4 * pl) (by omega) (by omega), addI_i (by omega) (by omega)]
    generalize decide (v % 2 ^ (32 * (L - 7)) ≠ 0) = z
    cases z <;> cases mo <;> rfl
  · intro hlt
    have hL7 : L - 7 = 0 := by
      have h5 : dl 4294967296 v ≤ 7 := dl_le b32 (by rw [pow32e]; exact hlt)
      omega
    rw [hL7, Nat.mul_zero, Nat.pow_zero, Nat.div_one, Nat.mod_one]
    exact ⟨rfl, rfl, by rw [decide_eq_false (by decide), Bool.or_false]⟩
theorem rounded_total (D : List Int) (hD : ∀ d ∈ D, 0 ≤ d ∧ d < 16) (hl : D.length ≤ 800) (pl pwr : Int) (mo : Bool) (h0 : -10000000 ≤ pl) (h1 : pl ≤ 10000000) (h2 : -10000000 ≤ pwr) (h3 : pwr ≤ 10000000) (base : Int) (mi : Bool) (m : Int) :
    ∃ q F, fn_read_rounded 100000 (D, pl, pwr, mo) base mi m = some (q, F, none) ∧ okP q := by
  unfold fn_read_rounded
  simp only
  by_cases hz : D.length = 0
  · obtain ⟨q, F, e, o⟩ := round_okP 100000 (by decide) (mi, 0, Vec.zero 4, false) ⟨0, by decide, W_zero⟩ m
    exact ⟨q, F, cT (eqI_t (by omega)) (bd e rfl), o⟩
  have hten : ∃ E s mo', fn_read_number_ten 100000 (D, pl, pwr, mo) = some ((false, E, W s, mo'), none) ∧ s < 2 ^ 224 ∧ -100000000 ≤ E ∧ E ≤ 100000000 := by
    by_cases g1 : 400 < pl + pwr + (D.length : Int)
    · exact ⟨_, _, _, ten_hi D pl pwr mo (by omega) (by omega) (by omega) (by omega) (by omega) g1, by decide, by decide, by decide⟩
    · by_cases g0 : pl + pwr + (D.length : Int) < -400
      · exact ⟨_, _, _, ten_lo D pl pwr mo (by omega) (by omega) (by omega) (by omega) (by omega) g0, by decide, by decide, by decide⟩
      · obtain ⟨E, s, mo', e, c, d, eE, c1, c2, c3, _⟩ := ten_mid D hD hl pl pwr mo (by omega) (by omega) (by omega) (by omega) (by omega) (by omega)
        exact ⟨E, s, mo', e, c3, by omega, by omega⟩
  obtain ⟨E, s, mo', e, t1, t2, t3⟩ := hten
  by_cases hb : base = 16
  · obtain ⟨d, s6, mo6, e6, x1, x2, _⟩ := sixteen_R D hD hl pl pwr mo h0 h1 h2 h3
    obtain ⟨k, _, ek, hk, _⟩ := enough_R false mo6 (4 * pl + pwr + d) s6 x2 (by omega) (by omega)
    obtain ⟨q, F, er, o⟩ := round_okP 100000 (by decide) (mi, 4 * pl + pwr + d - k, W (s6 * 2 ^ k), mo6) ⟨_, by omega, rfl⟩ m
    exact ⟨q, F, cF (eqI_f (by omega)) (bd e (cT (eqI_t hb) (bd e6 (cF rfl (bd ek (bd er rfl)))))), o⟩
  · obtain ⟨k, _, ek, hk, _⟩ := enough_R false mo' E s t1 (by omega) (by omega)
    obtain ⟨q, F, er, o⟩ := round_okP 100000 (by decide) (mi, E - k, W (s * 2 ^ k), mo') ⟨_, by omega, rfl⟩ m
    exact ⟨q, F, cF (eqI_f (by omega)) (bd e (cF (eqI_f hb) (cF rfl (bd ek (bd er rfl))))), o⟩
end Go.Proofs.YtcdhcihjcjpmkaaGreatDoor.Shw
/- PLAIN FACTS on chapters 13 and 14: the digits told are read again as the pattern. No statement is proved here. -/
namespace Go.Proofs.YtcdhcihjcjpmkaaGreatDoor.Shw
open Go Eng Fns Bw Dig Nt Num Slc
open Rn (X Y b32 b16 cmpZ)
open Go.Proofs.YtcdhcihjcjpmkaaGreatDoor.Wid (lenN lenN_spec lenN_le shlZ)
open Go.Proofs.YtcdhcihjcjpmkaaGreatDoor.Patp
open Go.Proofs.YtcdhcihjcjpmkaaGreatDoor.Top (RSpec round_spec WF okP sg NumV P VN P_pos P_add P_le VN_pack VN_inj VN_zero VN_mono VN_le sz okF mn sig_val read_near2)
set_option linter.unusedVariables false
set_option linter.unusedSimpArgs false
/-- a number below the greatest is so many bits long -/
theorem len_top (K : Nat) (hK : 1074 ≤ K) (s : Nat) (E : Int) (hE : -(K : Int) ≤ E) (hs : 0 < s) (h : s * P K E < P K 1024) : E + (lenN s : Int) ≤ 1024 := by
  have hlt : E < 1024 := by
    rcases Int.lt_or_le E 1024 with h1 | h1
    · exact h1
    · have h2 := P_le K h1
      have h3 : 1 * P K E ≤ s * P K E := Nat.mul_le_mul_right _ hs
      omega
  obtain ⟨d, hd⟩ := Int.eq_ofNat_of_zero_le (show 0 ≤ 1024 - E by omega)
  have h2 := P_add K d hE
  rw [show E + (d : Int) = 1024 by omega, Nat.mul_comm] at h2
  rw [h2] at h
  have h3 := lenN_le (Nat.lt_of_mul_lt_mul_right h)
  omega
theorem VN_top (K : Nat) : VN K 9218868437227405312 = P K 1024 := by
  unfold VN
  rw [if_neg (by decide), show (9218868437227405312 % 4503599627370496 + 4503599627370496 : Nat) = 2 ^ 52 by decide, show (((9218868437227405312 / 4503599627370496 : Nat) : Int) - 1075) = 972 by decide]
  have := P_add K (E := 972) 52 (by omega)
  rw [show (972 : Int) + ((52 : Nat) : Int) = 1024 by decide, Nat.mul_comm] at this
  exact this.symm
theorem VN_pos {K b : Nat} (hK : 1074 ≤ K) (hb : 0 < b) : 0 < VN K b := by
  have := VN_mono K hK hb
  rw [VN_zero] at this
  exact this
theorem rounded_near (D : List Int) (hD : ∀ d ∈ D, 0 ≤ d ∧ d < 16) (hl : D.length ≤ 800) (hne : D.length ≠ 0) (pl pwr : Int) (h0 : -100000000 ≤ pl) (h1 : pl ≤ 100000000) (h2 : -100000000 ≤ pwr) (h3 : pwr ≤ 100000000) (g0 : -400 ≤ pl + pwr + (D.length : Int)) (g1 : pl + pwr + (D.length : Int) ≤ 400) (mi : Bool) (K : Nat) (hK : K = 100000) (Xv Yv : Nat)
    (hX : Xv = dv 10 D * 10 ^ (pl + pwr).toNat * P K 0) (hY : Yv = 10 ^ (-(pl + pwr)).toNat) (b : Nat) (hb0 : 0 < b) (hb : b < 9218868437227405312)
    (lo : (VN K (b - 1) + VN K b) * Yv ≤ 2 * Xv) (hi : 2 * Xv ≤ (VN K b + VN K (b + 1)) * Yv) (tl : (VN K (b - 1) + VN K b) * Yv = 2 * Xv → b % 2 = 0) (th : 2 * Xv = (VN K b + VN K (b + 1)) * Yv → b % 2 = 0) :
    ∃ F, fn_read_rounded 100000 (D, pl, pwr, false) 10 mi 0 = some (sg mi + (b : Int), F, none) := by
  obtain ⟨E, s, mo', e, c, d, eE, c1, c2, c3, c4, c5, c6, c7⟩ := ten_mid D hD hl pl pwr false h0 h1 h2 h3 g0 g1
  obtain ⟨k, k1, ek, hk, hk0⟩ := enough_R false mo' E s c3 (by omega) (by omega)
  have hYp : 0 < Yv := by rw [hY]; exact Nat.pow_pos (by decide)
  rw [← hY] at c4 c5 c6 c7
  generalize dv 10 D * 10 ^ (pl + pwr).toNat = num at *
  have hP0 := P_pos K 0
  have hpE : P K E * 2 ^ c = P K 0 * 2 ^ d := by
    rw [← P_add K c (by omega), ← P_add K d (by omega)]; congr 1; omega
  have hpk : ∀ z : Nat, z * 2 ^ k * P K (E - k) = z * P K E := by
    intro z
    have := P_add K (E := E - k) k (by omega)
    rw [show E - (k : Int) + (k : Int) = E by omega] at this
    rw [this]; ac_rfl
  have hsc : ∀ z : Nat, z * P K E * Yv * 2 ^ c = z * 2 ^ d * Yv * P K 0 := by
    intro z
    have e1 : z * P K E * Yv * 2 ^ c = z * Yv * (P K E * 2 ^ c) := by ac_rfl
    rw [e1, hpE]; ac_rfl
  have hXc : Xv * 2 ^ c = num * 2 ^ c * P K 0 := by rw [hX]; ac_rfl
  have hc0 : 0 < 2 ^ c := Nat.pow_pos (by decide)
  have hVb := VN_pos (K := K) (b := b) (by omega) hb0
  have hXpos : 0 < Xv := by
    have : 0 < (VN K (b - 1) + VN K b) * Yv := Nat.mul_pos (by omega) hYp
    omega
  have spos : 0 < s := by
    rcases Nat.eq_zero_or_pos s with hz | hz
    · exfalso
      by_cases hx : s * 2 ^ d * Yv = num * 2 ^ c
      · rw [hz, Nat.zero_mul, Nat.zero_mul] at hx
        rw [← hx, Nat.zero_mul] at hXc
        have := Nat.mul_pos hXpos hc0
        omega
      · have := c7 hx; omega
    · exact hz
  have skpos : 0 < s * 2 ^ k := Nat.mul_pos spos (Nat.pow_pos (by decide))
  have hle : s * P K E * Yv ≤ Xv := by
    have h5 := Nat.mul_le_mul_right (P K 0) c4
    rw [← hsc, ← hXc] at h5
    exact Nat.le_of_mul_le_mul_right h5 hc0
  have hlt : Xv < (s + 1) * P K E * Yv := by
    have h5 := Nat.mul_lt_mul_of_pos_right c5 hP0
    rw [← hsc, ← hXc] at h5
    exact Nat.lt_of_mul_lt_mul_right h5
  have htop : s * P K E < P K 1024 := by
    have t1 := VN_mono K (show 1074 ≤ K by omega) (show b < b + 1 by omega)
    have t2 := VN_le K (show 1074 ≤ K by omega) (show b + 1 ≤ 9218868437227405312 by omega)
    rw [VN_top] at t2
    have t3 : (VN K b + VN K (b + 1)) * Yv ≤ 2 * P K 1024 * Yv := Nat.mul_le_mul_right _ (by omega)
    have t4 : (VN K b + VN K (b + 1)) * Yv < 2 * P K 1024 * Yv := Nat.mul_lt_mul_of_pos_right (by omega) hYp
    rw [Nat.mul_assoc 2] at t4
    have t5 : s * P K E * Yv < P K 1024 * Yv := by omega
    exact Nat.lt_of_mul_lt_mul_right t5
  have hlen := len_top K (by omega) (s * 2 ^ k) (E - k) (by omega) skpos (by rw [hpk]; exact htop)
  have hr : ∃ F, fn_rnd_Round 100000 (mi, E - k, W (s * 2 ^ k), mo') 0 = some (sg mi + (b : Int), F) := by
    refine read_near2 100000 (by decide) mi mo' (E - k) (s * 2 ^ k) K (by omega) skpos (by omega) (by omega) (by omega) (by omega) hlen Xv Yv hYp ?_ ?_ b hb0 hb lo hi tl th
    · intro hm
      rw [hm, Bool.false_or] at c6
      have c8 : s * 2 ^ d * Yv = num * 2 ^ c := by
        by_cases hx : s * 2 ^ d * Yv = num * 2 ^ c
        · exact hx
        · rw [decide_eq_true hx] at c6; cases c6
      rw [hpk]
      have h5 : s * P K E * Yv * 2 ^ c = Xv * 2 ^ c := by rw [hsc, hXc, c8]
      exact Nat.eq_of_mul_eq_mul_right hc0 h5
    · intro hm
      rw [hm, Bool.false_or] at c6
      have c8 := of_decide_eq_true c6.symm
      have c9 := c7 c8
      refine ⟨s, k, rfl, by omega, ?_, ?_⟩
      · rw [show E - (k : Int) + (k : Int) = E by omega]
        rcases Nat.lt_or_eq_of_le hle with h5 | h5
        · exact h5
        · exfalso
          apply c8
          have h6 : s * P K E * Yv * 2 ^ c = Xv * 2 ^ c := by rw [h5]
          rw [hsc, hXc] at h6
          exact Nat.eq_of_mul_eq_mul_right hP0 h6
      · rw [show E - (k : Int) + (k : Int) = E by omega]
        exact hlt
  obtain ⟨F, hF⟩ := hr
  refine ⟨F, ?_⟩
  unfold fn_read_rounded
  simp only
  exact cF (eqI_f (by omega)) (bd e (cF rfl (cF rfl (bd ek (bd hF rfl)))))
/-! ### the borders -/
theorem borders {a : Int} (ha : okF a) (hz : 0 < sz a) (K : Nat) (hK : 3000 ≤ K) (sig : Nat) (hsig : sigR a = (sig : Int)) :
    VN K (sz a - 1) + VN K (sz a) = 2 * (lowN (clsR a) (expR a) sig * P K (expR a - 2)) ∧ VN K (sz a) + VN K (sz a + 1) = 2 * ((4 * sig + 2) * P K (expR a - 2)) ∧ sz a % 2 = sig % 2 := by
  obtain ⟨sig', s1, s2, s3, s4, s5, s6⟩ := sig_val K ha.1 ha.2
  have : sig' = sig := by omega
  subst this
  have hcls : -1074 < expR a → clsR a = 2 := by
    intro h
    unfold expR at h
    unfold clsR
    have hne : eN a ≠ 2047 := by
      obtain ⟨⟨h0, h1⟩, h2⟩ := ha
      unfold sz at h2; unfold eN; omega
    rw [if_neg hne] at h ⊢
    by_cases h0 : eN a = 0
    · rw [if_pos h0] at h; omega
    · rw [if_neg h0]
  generalize expR a = e at *
  obtain ⟨j, hj⟩ := Int.eq_ofNat_of_zero_le (show 0 ≤ e + 1074 by omega)
  have p0 := VN_pack K (by omega) sig' j (by omega) (fun h => by have := s6 (by omega); omega)
  rw [show (j : Int) - 1074 = e by omega, ← s3] at p0
  have hb := VN_inj K (by omega) p0
  have p1 := VN_pack K (by omega) (sig' + 1) j (by omega) (fun h => by have := s6 (by omega); omega)
  rw [show (j : Int) - 1074 = e by omega] at p1
  have hP4 : P K e = 4 * P K (e - 2) := by
    have := P_add K (E := e - 2) 2 (by omega)
    rw [show e - 2 + ((2 : Nat) : Int) = e by omega, Nat.mul_comm] at this
    exact this
  rw [← hb] at s3 hz ⊢
  clear p0
  refine ⟨?_, ?_, by omega⟩
  · by_cases hc : clsR a = 2 ∧ sig' = 4503599627370496 ∧ -1074 < e
    · have hlow : lowN (clsR a) e sig' = 4 * sig' - 1 := by unfold lowN; rw [if_pos hc]
      have pm := VN_pack K (by omega) 9007199254740991 (j - 1) (by omega) (fun h => by omega)
      have hj1 : (((j - 1 : Nat) : Int) - 1074) = e - 1 := by omega
      have hP2 : P K (e - 1) = 2 * P K (e - 2) := by
        have := P_add K (E := e - 2) 1 (by omega)
        rw [show e - 2 + ((1 : Nat) : Int) = e - 1 by omega, Nat.mul_comm] at this
        exact this
      rw [hj1, hP2, show 9007199254740991 + (j - 1) * 4503599627370496 = sig' + j * 4503599627370496 - 1 by omega] at pm
      rw [pm, s3, hlow, hP4]
      have := hc.2.1
      subst this
      omega
    · have hlow : lowN (clsR a) e sig' = 4 * sig' - 2 := by unfold lowN; rw [if_neg hc]
      have hsg : 0 < sig' := by
        rcases Nat.eq_zero_or_pos sig' with h | h
        · subst h
          by_cases hj0 : -1074 < e
          · have := s6 hj0; omega
          · have : j = 0 := by omega
            subst this; omega
        · exact h
      have pm := VN_pack K (by omega) (sig' - 1) j (by omega) (fun h => by
        have h6 := s6 (by omega)
        have h7 := hcls (by omega)
        by_cases h8 : sig' = 4503599627370496
        · exact absurd ⟨h7, h8, by omega⟩ hc
        · omega)
      rw [show (j : Int) - 1074 = e by omega, show sig' - 1 + j * 4503599627370496 = sig' + j * 4503599627370496 - 1 by omega, hP4] at pm
      rw [pm, s3, hlow, hP4, ← Nat.add_mul]
      generalize P K (e - 2) = z
      rw [← Nat.mul_assoc, ← Nat.mul_assoc]
      congr 1; omega
  · rw [s3, show sig' + j * 4503599627370496 + 1 = sig' + 1 + j * 4503599627370496 by omega, p1, hP4, ← Nat.add_mul]
    generalize P K (e - 2) = z
    rw [← Nat.mul_assoc, ← Nat.mul_assoc]
    congr 1; omega
end Go.Proofs.YtcdhcihjcjpmkaaGreatDoor.Shw
/- PLAIN FACTS on chapters 13 and 14: the digits that Short tells are read again as the pattern. No statement is proved here. -/
namespace Go.Proofs.YtcdhcihjcjpmkaaGreatDoor.Shw
open Go Eng Fns Bw Dig Nt Num Slc
open Rn (X Y b32 b16 cmpZ)
open Go.Proofs.YtcdhcihjcjpmkaaGreatDoor.Patp
open Go.Proofs.YtcdhcihjcjpmkaaGreatDoor.Top (sg P VN P_pos P_add P_le sz okF mn sig_val)
set_option linter.unusedVariables false
set_option linter.unusedSimpArgs false
theorem two_ten (n k : Nat) (hn : n ≤ 1092) (hk : k = 330) : 2 ^ n ≤ 10 ^ k := by
  obtain ⟨y, hy⟩ : ∃ y, y = 6 := ⟨_, rfl⟩
  have h1 : 2 ^ n ≤ 2 ^ (182 * y) := Nat.pow_le_pow_right (by decide) (by omega)
  rw [Nat.pow_mul] at h1
  rw [show k = 55 * y by omega, Nat.pow_mul]
  exact Nat.le_trans h1 (Nat.pow_le_pow_left (by decide) y)
theorem F_bounds (sig : Nat) (e F : Int) (h0 : 0 < sig) (hs : sig < 9007199254740992) (e0 : -1074 ≤ e) (e1 : e ≤ 971) (h1 : GE (sig * 2 ^ e.toNat) (2 ^ (-e).toNat) F) (h2 : ¬ GE (sig * 2 ^ e.toNat) (2 ^ (-e).toNat) (F + 1)) : -330 ≤ F ∧ F ≤ 330 := by
  obtain ⟨k, hk⟩ : ∃ k, k = 330 := ⟨_, rfl⟩
  constructor
  · rcases Int.lt_or_le F (-330) with h | h
    · exfalso
      refine h2 (GE_mono (n := -(k : Int)) ?_ (by omega))
      unfold GE
      rw [show (-(k : Int)).toNat = 0 by omega, show (-(-(k : Int))).toNat = k by omega, Nat.pow_zero, Nat.mul_one]
      have a1 := two_ten (-e).toNat k (by omega) (by omega)
      have a2 : 0 < sig * 2 ^ e.toNat := Nat.mul_pos h0 (Nat.pow_pos (by decide))
      exact Nat.le_trans a1 (Nat.le_mul_of_pos_left _ a2)
    · exact h
  · rcases Int.lt_or_le 330 F with h | h
    · exfalso
      have g := GE_mono (m := (k : Int)) h1 (by omega)
      unfold GE at g
      rw [show (-(k : Int)).toNat = 0 by omega, Int.toNat_natCast, Nat.pow_zero, Nat.mul_one] at g
      have a1 := two_ten (53 + e.toNat) k (by omega) (by omega)
      have a2 : sig * 2 ^ e.toNat < 2 ^ 53 * 2 ^ e.toNat := Nat.mul_lt_mul_of_pos_right hs (Nat.pow_pos (by decide))
      rw [← Nat.pow_add] at a2
      have a3 : 10 ^ k ≤ 2 ^ (-e).toNat * 10 ^ k := Nat.le_mul_of_pos_left _ (Nat.pow_pos (by decide))
      exact absurd (Nat.lt_of_lt_of_le a2 (Nat.le_trans a1 (Nat.le_trans a3 g))) (Nat.lt_irrefl _)
    · exact h
theorem cross_le {L Xa Ya Xb Yb : Nat} (hY : 0 < Yb) (hc : Xb * Ya = Xa * Yb) (h : L * Yb ≤ Xb) : L * Ya ≤ Xa := by
  have h1 := Nat.mul_le_mul_right Ya h
  rw [hc, Nat.mul_right_comm] at h1
  exact Nat.le_of_mul_le_mul_right h1 hY
theorem cross_ge {L Xa Ya Xb Yb : Nat} (hY : 0 < Yb) (hc : Xb * Ya = Xa * Yb) (h : Xb ≤ L * Yb) : Xa ≤ L * Ya := by
  have h1 := Nat.mul_le_mul_right Ya h
  rw [hc, Nat.mul_right_comm] at h1
  exact Nat.le_of_mul_le_mul_right h1 hY
theorem cross_eq {L Xa Ya Xb Yb : Nat} (hY : 0 < Ya) (hc : Xb * Ya = Xa * Yb) (h : L * Ya = Xa) : L * Yb = Xb := by
  have h1 : L * Yb * Ya = Xb * Ya := by rw [hc, ← h]; exact Nat.mul_right_comm ..
  exact Nat.eq_of_mul_eq_mul_right hY h1
theorem tin_le {cls exp k : Int} {sig w : Nat} (h : tin cls exp k sig w = true) : over (lowN cls exp sig) (exp - 2) k ≤ w * under (exp - 2) k ∧ w * under (exp - 2) k ≤ over (4 * sig + 2) (exp - 2) k ∧ (over (lowN cls exp sig) (exp - 2) k = w * under (exp - 2) k → sig % 2 = 0) ∧ (over (4 * sig + 2) (exp - 2) k = w * under (exp - 2) k → sig % 2 = 0) := by
  have hlt : over (lowN cls exp sig) (exp - 2) k ≤ over (4 * sig + 2) (exp - 2) k := by
    rw [over_eq, over_eq (4 * sig + 2)]
    refine Nat.mul_le_mul_right _ ?_
    unfold lowN; split <;> omega
  unfold tin inside at h
  simp only [Bool.or_eq_true, Bool.and_eq_true, decide_eq_true_eq] at h
  rcases h with ⟨h1, h2⟩ | ⟨h1, h2 | h2⟩
  · exact ⟨by omega, by omega, by omega, by omega⟩
  · exact ⟨by omega, by omega, fun _ => h1, fun _ => h1⟩
  · exact ⟨by omega, by omega, fun _ => h1, fun _ => h1⟩
theorem scale_M (K : Nat) (e : Int) (h : -(K : Int) ≤ e) : P K e * 2 ^ (-e).toNat = 2 ^ e.toNat * P K 0 := by
  unfold P; rw [← Nat.pow_add, ← Nat.pow_add]; congr 1; omega
theorem sg_sz {a : Int} (ha : okF a) : sg (mn a) + (sz a : Int) = a := by
  obtain ⟨⟨h0, h1⟩, h2⟩ := ha
  unfold sg mn sz
  by_cases h : (9223372036854775808 : Int) ≤ a
  · rw [decide_eq_true h, cond_true]; omega
  · rw [decide_eq_false h, cond_false]; omega
theorem short_rounded {a : Int} (ha : okF a) (hz : 0 < sz a) : ∃ (n w : Nat) (F : Int), 1 ≤ n ∧ n ≤ 17 ∧ n ≤ dl 10 w ∧ dl 10 w ≤ n + 1 ∧ (dl 10 w = n + 1 → w = 10 ^ n) ∧ -330 ≤ F ∧ F ≤ 330 ∧ fn_show_Short 100000 a = fn_text 100000 ((DS w).extract 0 n) (pw F n w) (mn a) ∧
    ∀ (D : List Int) (pl pwr : Int), (∀ d ∈ D, 0 ≤ d ∧ d < 16) → D.length ≤ n → dv 10 D = w / 10 ^ (dl 10 w - n) → pl + pwr = F + (dl 10 w : Nat) - 2 * n + 1 → -100000 ≤ pl → pl ≤ 100000 → ∃ G, fn_read_rounded 100000 (D, pl, pwr, false) 10 (mn a) 0 = some (a, G, none) := by
  obtain ⟨sig, F, n, w, s1, s2, s3, e0, e1, f0, f1, g1, g2, n1, n2, hp, hshort⟩ := short_F ha hz
  obtain ⟨f2, f3⟩ := F_bounds sig (expR a) F s2 s3 e0 e1 g1 g2
  obtain ⟨d1, d2, _⟩ := laid_pick n1 n2 f0 f1 g1 g2 hp
  obtain ⟨p1, p2⟩ := pick_digits n1 g1 g2 hp
  have hw10 : dl 10 w = n + 1 → w = 10 ^ n := by
    intro h
    have h1 : 0 < w := by
      have : 0 < 10 ^ (n - 1) := Nat.pow_pos (by decide)
      omega
    have h2 := ((dl_spec (show 1 < 10 by decide) w).2 h1).1
    rw [h, Nat.add_sub_cancel] at h2
    omega
  refine ⟨n, w, F, n1, n2, d1, d2, hw10, f2, f3, hshort, ?_⟩
  intro D pl pwr hD hl hdv hQ q0 q1
  obtain ⟨j, hj⟩ : ∃ j, j = dl 10 w - n := ⟨_, rfl⟩
  rw [← hj] at hdv
  obtain ⟨w', hw'⟩ : ∃ w', w' = w / 10 ^ j := ⟨_, rfl⟩
  rw [← hw'] at hdv
  have hww : w = w' * 10 ^ j := by
    rcases Nat.lt_or_ge n (dl 10 w) with h | h
    · have h1 := hw10 (by omega)
      have h2 : j = 1 := by omega
      rw [hw', h1, h2]
      obtain ⟨t, rfl⟩ : ∃ t, n = t + 1 := ⟨n - 1, by omega⟩
      rw [Nat.pow_one, Nat.pow_succ, Nat.mul_div_cancel _ (by decide)]
    · have h2 : j = 0 := by omega
      rw [hw', h2, Nat.pow_zero, Nat.div_one, Nat.mul_one]
  have hw0 : 0 < w' := by
    rcases Nat.eq_zero_or_pos w' with h | h
    · rw [h, Nat.zero_mul] at hww
      have : 0 < 10 ^ (n - 1) := Nat.pow_pos (by decide)
      omega
    · exact h
  have hne : D.length ≠ 0 := by
    intro h
    rw [List.length_eq_zero_iff.1 h] at hdv
    have : dv 10 [] = 0 := rfl
    omega
  obtain ⟨Q, hQQ⟩ : ∃ Q, Q = pl + pwr := ⟨_, rfl⟩
  obtain ⟨k, hk⟩ : ∃ k : Int, k = (n : Int) - 1 - F := ⟨_, rfl⟩
  obtain ⟨t1, t2, t3, t4⟩ := tin_le (tpick_in hp).1
  rw [← hk] at t1 t2 t3 t4
  obtain ⟨K, hK⟩ : ∃ K, K = 100000 := ⟨_, rfl⟩
  obtain ⟨b1, b2, b3⟩ := borders ha hz K (by omega) sig s1
  have hM := scale_M K (expR a - 2) (by omega)
  have hM0 : 0 < 2 ^ (-(expR a - 2)).toNat := Nat.pow_pos (by decide)
  have hP0 := P_pos K 0
  have hXY : ∀ v : Nat, v * P K (expR a - 2) * 10 ^ k.toNat * 2 ^ (-(expR a - 2)).toNat = over v (expR a - 2) k * P K 0 := by
    intro v
    have h1 : v * P K (expR a - 2) * 10 ^ k.toNat * 2 ^ (-(expR a - 2)).toNat = v * 10 ^ k.toNat * (P K (expR a - 2) * 2 ^ (-(expR a - 2)).toNat) := by ac_rfl
    rw [h1, hM]
    unfold over
    ac_rfl
  have hX : w * 10 ^ (-k).toNat * P K 0 * 2 ^ (-(expR a - 2)).toNat = w * under (expR a - 2) k * P K 0 := by
    unfold under
    ac_rfl
  have hcross : w * 10 ^ (-k).toNat * P K 0 * 10 ^ (-Q).toNat = w' * 10 ^ Q.toNat * P K 0 * 10 ^ k.toNat := by
    have h1 : 10 ^ j * 10 ^ (-k).toNat * 10 ^ (-Q).toNat = 10 ^ Q.toNat * 10 ^ k.toNat := by
      rw [← Nat.pow_add, ← Nat.pow_add, ← Nat.pow_add]; congr 1; omega
    have h2 : w * 10 ^ (-k).toNat * P K 0 * 10 ^ (-Q).toNat = w' * P K 0 * (10 ^ j * 10 ^ (-k).toNat * 10 ^ (-Q).toNat) := by rw [hww]; ac_rfl
    rw [h2, h1]; ac_rfl
  have hYb : 0 < 10 ^ k.toNat := Nat.pow_pos (by decide)
  have hYa : 0 < 10 ^ (-Q).toNat := Nat.pow_pos (by decide)
  -- by the borders
  have le1 : lowN (clsR a) (expR a) sig * P K (expR a - 2) * 10 ^ k.toNat ≤ w * 10 ^ (-k).toNat * P K 0 := by
    have h := Nat.mul_le_mul_right (P K 0) t1
    rw [← hXY, ← hX] at h
    exact Nat.le_of_mul_le_mul_right h hM0
  have ge1 : w * 10 ^ (-k).toNat * P K 0 ≤ (4 * sig + 2) * P K (expR a - 2) * 10 ^ k.toNat := by
    have h := Nat.mul_le_mul_right (P K 0) t2
    rw [← hXY, ← hX] at h
    exact Nat.le_of_mul_le_mul_right h hM0
  have eq1 : ∀ v : Nat, v * P K (expR a - 2) * 10 ^ k.toNat = w * 10 ^ (-k).toNat * P K 0 → over v (expR a - 2) k = w * under (expR a - 2) k := by
    intro v h
    have h2 : v * P K (expR a - 2) * 10 ^ k.toNat * 2 ^ (-(expR a - 2)).toNat = w * 10 ^ (-k).toNat * P K 0 * 2 ^ (-(expR a - 2)).toNat := by rw [h]
    rw [hXY, hX] at h2
    exact Nat.eq_of_mul_eq_mul_right hP0 h2
  have h := rounded_near D hD (by omega) hne pl pwr (by omega) (by omega) (by omega) (by omega) (by omega) (by omega) (mn a) K hK (w' * 10 ^ Q.toNat * P K 0) (10 ^ (-Q).toNat) (by rw [hdv, hQQ]) (by rw [hQQ]) (sz a) hz ha.2
    (by rw [b1, Nat.mul_assoc 2]; exact Nat.mul_le_mul_left 2 (cross_le hYb hcross le1))
    (by rw [b2, Nat.mul_assoc 2]; exact Nat.mul_le_mul_left 2 (cross_ge hYb hcross ge1))
    (by
      rw [b1, Nat.mul_assoc 2]
      intro hh
      rw [b3]
      exact t3 (eq1 _ (cross_eq hYa hcross (by omega))))
    (by
      rw [b2, Nat.mul_assoc 2]
      intro hh
      rw [b3]
      exact t4 (eq1 _ (cross_eq hYa hcross (by omega))))
  rw [sg_sz ha] at h
  exact h
end Go.Proofs.YtcdhcihjcjpmkaaGreatDoor.Shw
/- PLAIN FACTS on chapter 13, part 6: texts as lists of bytes; a whole number taken off. No statement is proved here. -/
namespace Go.Proofs.YtcdhcihjcjpmkaaGreatDoor.Shw
open Go Eng Fns Bw Dig Nt Num Slc
set_option linter.unusedVariables false
set_option linter.unusedSimpArgs false
/-- a list of bytes as a text -/
def bl (l : List UInt8) : ByteArray := ⟨l.toArray⟩
theorem bl_size (l : List UInt8) : (bl l).size = l.length := by simp [bl, ByteArray.size]
theorem bl_data (l : List UInt8) : (bl l).data.toList = l := by simp [bl]
theorem bl_all (b : ByteArray) : b = bl b.data.toList := by simp [bl]
theorem eqS_bl (a b : List UInt8) : eqS (bl a) (bl b) = (a == b) := by unfold eqS bl; rw [ByteArray.toList_mk, ByteArray.toList_mk]
theorem bl_cut (l : List UInt8) (i j : Nat) : (bl l).extract i j = bl ((l.take j).drop i) := by
  apply ByteArray.ext
  rw [ByteArray.data_extract]
  simp [bl, List.extract_eq_take_drop, List.drop_take]
theorem bl_drop (l : List UInt8) (i : Nat) : (bl l).extract i (bl l).size = bl (l.drop i) := by
  rw [bl_cut, bl_size, List.take_of_length_le (Nat.le_refl _)]
theorem bl_app (a b : List UInt8) : bl a ++ bl b = bl (a ++ b) := by
  apply ByteArray.ext
  rw [ByteArray.data_append]
  simp [bl]
theorem pre_bl (l t : List UInt8) : pre (bl l) (bl t) = (l.take t.length == t) := by
  unfold pre
  rw [bl_size, bl_size, bl_cut, eqS_bl, List.drop_zero]
  cases h : Nat.ble t.length l.length
  · rw [cond_false]
    have hlt : ¬ t.length ≤ l.length := fun hh => by rw [Nat.ble_eq_true_of_le hh] at h; cases h
    symm
    rw [beq_eq_false_iff_ne]
    intro hh
    have := congrArg List.length hh
    rw [List.length_take] at this
    omega
  · rfl
theorem pre_cons (x c : UInt8) (l : List UInt8) : pre (bl (x :: l)) ⟨#[c]⟩ = (x == c) := by
  have h := pre_bl (x :: l) [c]
  have e : ((x :: l).take [c].length == [c]) = (x == c) := by
    by_cases hx : x = c
    · subst hx; simp
    · rw [show (x == c) = false from beq_eq_false_iff_ne.2 hx]
      rw [beq_eq_false_iff_ne]
      intro hh
      simp at hh
      exact hx hh
  exact h.trans e
theorem pre_nil (c : UInt8) : pre (bl []) ⟨#[c]⟩ = false := by
  have h := pre_bl [] [c]
  exact h.trans rfl
theorem sAt_bl (l : List UInt8) (i : Nat) (h : i < l.length) : sAt (bl l) (i : Int) = ((l[i].toNat : Nat) : Int) := by
  unfold sAt
  rw [Int.toNat_natCast, dif_pos (by rw [bl_size]; exact h)]
  congr 1
/-! ### digits as bytes -/
def ch (d : Nat) : UInt8 := UInt8.ofNat (if d < 10 then 48 + d else 87 + d)
theorem ch_nat {d : Nat} (h : d < 16) : (ch d).toNat = if d < 10 then 48 + d else 87 + d := by
  unfold ch
  split <;> simp <;> omega
theorem ch_dec {d : Nat} (h : d < 10) (base : Int) : dval (ch d).toNat base = some d := by
  rw [ch_nat (by omega), if_pos h]
  unfold dval
  rw [if_pos (by omega)]
  congr 1; omega
theorem ch_hex {d : Nat} (h : d < 16) : dval (ch d).toNat 16 = some d := by
  by_cases h1 : d < 10
  · exact ch_dec h1 16
  · rw [ch_nat h, if_neg h1]
    unfold dval
    rw [if_neg (by omega), if_pos ⟨rfl, by omega, by omega⟩]
    congr 1; omega
theorem dval10 {c d : Nat} (h : dval c 10 = some d) : d < 10 := by
  unfold dval at h
  split at h
  · injection h with h; omega
  · rw [if_neg (by omega)] at h; cases h
/-- the number of digits -/
def nv (b : Nat) (ds : List Nat) : Nat := ds.foldl (fun a d => a * b + d) 0
theorem nv_snoc (b : Nat) (ds : List Nat) (d : Nat) : nv b (ds ++ [d]) = nv b ds * b + d := by unfold nv; rw [List.foldl_append]; rfl
theorem fold_ge (b : Nat) (hb : 0 < b) : ∀ (ds : List Nat) (a : Nat), a ≤ ds.foldl (fun a d => a * b + d) a
  | [], a => Nat.le_refl _
  | d :: ds, a => by
    have h := fold_ge b hb ds (a * b + d)
    have h2 : a ≤ a * b := Nat.le_mul_of_pos_right _ hb
    rw [List.foldl_cons]
    omega
/-! ### a whole number taken off -/
def wl : List UInt8 → Nat → Nat × Nat
  | [], v => (v, 0)
  | c :: r, v => match dval c.toNat 10 with
    | none => (v, 0)
    | some d => ((wl r (min (10 * v + d) 1000000)).1, (wl r (min (10 * v + d) 1000000)).2 + 1)
theorem wl_le : ∀ (l : List UInt8) (v : Nat), v ≤ 1000000 → (wl l v).1 ≤ 1000000 ∧ (wl l v).2 ≤ l.length
  | [], v, h => ⟨h, Nat.le_refl _⟩
  | c :: r, v, h => by
    unfold wl
    cases hd : dval c.toNat 10 with
    | none => exact ⟨h, Nat.zero_le _⟩
    | some d =>
      obtain ⟨h1, h2⟩ := wl_le r (min (10 * v + d) 1000000) (by omega)
      exact ⟨h1, by simp only [List.length_cons]; omega⟩
theorem whole_loop (l : List UInt8) (neg : Bool) (hl : l.length ≤ 90000) : ∀ (r i f v : Nat), i + r = l.length → r < f → v ≤ 1000000 →
    Fds.l32_0 100000 f (bl l) neg (v : Int) (i : Int) = some (cond neg (-((wl (l.drop i) v).1 : Int)) ((wl (l.drop i) v).1 : Int), bl (l.drop (i + (wl (l.drop i) v).2)), decide (0 < i + (wl (l.drop i) v).2)) := by
  have fin : ∀ (i v : Nat), i ≤ l.length → v ≤ 1000000 → cond neg
      (cond (((leI 0 (i : Int)) && (leI (i : Int) ((bl l).size : Int))) && (leI ((bl l).size : Int) ((bl l).size : Int)))
       (some (subI .i64 0 (v : Int), (bl l).extract (i : Int).toNat (((bl l).size : Int).toNat), ltI 0 (i : Int)))
       none)
      (cond (((leI 0 (i : Int)) && (leI (i : Int) ((bl l).size : Int))) && (leI ((bl l).size : Int) ((bl l).size : Int)))
       (some ((v : Int), (bl l).extract (i : Int).toNat (((bl l).size : Int).toNat), ltI 0 (i : Int)))
       none) = some (cond neg (-(v : Int)) (v : Int), bl (l.drop i), decide (0 < i)) := by
    intro i v hi hv
    rw [leI_t (show (0 : Int) ≤ (i : Int) by omega), leI_t (show (i : Int) ≤ ((bl l).size : Int) by rw [bl_size]; omega), leI_t (Int.le_refl _), Int.toNat_natCast, Int.toNat_natCast, bl_drop, subI_i (by omega) (by omega)]
    have e : ltI 0 (i : Int) = decide (0 < i) := by
      by_cases h : 0 < i
      · rw [ltI_t (by omega), decide_eq_true h]
      · rw [ltI_f (by omega), decide_eq_false h]
    rw [e, show (0 : Int) - (v : Int) = -(v : Int) by omega]
    cases neg <;> rfl
  intro r
  induction r with
  | zero =>
    intro i f v hi hf hv
    obtain ⟨f, rfl⟩ : ∃ n', f = n' + 1 := ⟨f - 1, by omega⟩
    show Fds.s32_0 100000 _ _ _ _ _ = _
    unfold Fds.s32_0
    have e : l.drop i = [] := List.drop_of_length_le (by omega)
    rw [e]
    simp only [wl, Nat.add_zero]
    refine cF (ltI_f (by rw [bl_size]; omega)) ?_
    exact fin i v (by omega) hv
  | succ r ih =>
    intro i f v hi hf hv
    obtain ⟨f, rfl⟩ : ∃ n', f = n' + 1 := ⟨f - 1, by omega⟩
    have hlt : i < l.length := by omega
    have e : l.drop i = l[i] :: l.drop (i + 1) := List.drop_eq_getElem_cons hlt
    have hdig : Fds.fn_read_digit 100000 (sAt (bl l) (i : Int)) 10 = some (dpair (l[i].toNat) 10) := by
      rw [sAt_bl l i hlt]
      exact digit_eq (l[i].toNat) 10
    show Fds.s32_0 100000 (Fds.l32_0 100000 f) _ _ _ _ = _
    unfold Fds.s32_0
    refine cT (ltI_t (by rw [bl_size]; omega)) (cT (leI_t (by omega)) (cT (ltI_t (by rw [bl_size]; omega)) (bd hdig ?_)))
    cases hd : dval l[i].toNat 10 with
    | none =>
      have hp : dpair l[i].toNat 10 = (0, false) := by unfold dpair; rw [hd]
      have hw : wl (l.drop i) v = (v, 0) := by rw [e]; unfold wl; rw [hd]
      rw [hp, hw]
      exact cT rfl (fin i v (by omega) hv)
    | some d =>
      have hd9 := dval10 hd
      have hp : dpair l[i].toNat 10 = ((d : Int), true) := by unfold dpair; rw [hd]
      have hw : wl (l.drop i) v = ((wl (l.drop (i + 1)) (min (10 * v + d) 1000000)).1, (wl (l.drop (i + 1)) (min (10 * v + d) 1000000)).2 + 1) := by rw [e]; simp only [wl, hd]
      have ih := ih (i + 1) f (min (10 * v + d) 1000000) (by omega) (by omega) (by omega)
      have e1 : minI (addI .i64 (mulI .i64 10 (v : Int)) (cvI .i64 (d : Int))) 1000000 = ((min (10 * v + d) 1000000 : Nat) : Int) := by
        rw [cvI_i (by omega) (by omega), mulI_i (by omega) (by omega), addI_i (by omega) (by omega), show (10 : Int) * (v : Int) + (d : Int) = ((10 * v + d : Nat) : Int) by omega]
        exact minN (10 * v + d) 1000000
      rw [hp, hw]
      refine cF rfl ?_
      simp only
      rw [e1, succI i (by omega), show i + ((wl (l.drop (i + 1)) (min (10 * v + d) 1000000)).2 + 1) = i + 1 + (wl (l.drop (i + 1)) (min (10 * v + d) 1000000)).2 by omega]
      exact ih
theorem cut_one (x : UInt8) (l : List UInt8) : (((leI 0 1) && (leI 1 ((bl (x :: l)).size : Int))) && (leI ((bl (x :: l)).size : Int) ((bl (x :: l)).size : Int))) = true := by
  rw [bl_size, leI_t (show (1 : Int) ≤ ((x :: l).length : Int) by simp only [List.length_cons]; omega), leI_t (Int.le_refl _)]; rfl
theorem whole_cons (x : UInt8) (l : List UInt8) (hl : l.length ≤ 80000) : Fds.fn_read_whole 100000 (bl (x :: l)) =
    if x = 45 then some (-((wl l 0).1 : Int), bl (l.drop (wl l 0).2), decide (0 < (wl l 0).2))
    else if x = 43 then some (((wl l 0).1 : Int), bl (l.drop (wl l 0).2), decide (0 < (wl l 0).2))
    else some (((wl (x :: l) 0).1 : Int), bl ((x :: l).drop (wl (x :: l) 0).2), decide (0 < (wl (x :: l) 0).2)) := by
  have h1 := preF_eq 100000 (bl (x :: l)) ⟨#[45]⟩
  have h2 := preF_eq 100000 (bl (x :: l)) ⟨#[43]⟩
  rw [pre_cons] at h1 h2
  have hc : (bl (x :: l)).extract ((1 : Int).toNat) (((bl (x :: l)).size : Int).toNat) = bl l := by
    rw [Int.toNat_natCast, show (1 : Int).toNat = 1 from rfl, bl_drop]; rfl
  unfold Fds.fn_read_whole Fds.t32
  refine bd h1 ?_
  by_cases hx : x = 45
  · rw [if_pos hx]
    refine cT (beq_iff_eq.2 hx) (cT (cut_one x l) ?_)
    rw [hc, show (x == 45) = true from beq_iff_eq.2 hx]
    have h := whole_loop l true (by omega) l.length 0 100000 0 (by omega) (by omega) (by omega)
    rw [List.drop_zero, Nat.zero_add] at h
    exact h
  · rw [if_neg hx]
    have hxb : (x == 45) = false := beq_eq_false_iff_ne.2 hx
    refine cF hxb (bd h2 ?_)
    rw [hxb]
    by_cases hy : x = 43
    · rw [if_pos hy]
      refine cT (beq_iff_eq.2 hy) (cT (cut_one x l) ?_)
      rw [hc]
      have h := whole_loop l false (by omega) l.length 0 100000 0 (by omega) (by omega) (by omega)
      rw [List.drop_zero, Nat.zero_add] at h
      exact h
    · rw [if_neg hy]
      refine cF (beq_eq_false_iff_ne.2 hy) ?_
      have h := whole_loop (x :: l) false (by simp only [List.length_cons]; omega) (x :: l).length 0 100000 0 (by omega) (by simp only [List.length_cons]; omega) (by omega)
      rw [List.drop_zero, Nat.zero_add] at h
      exact h
theorem whole_nil : Fds.fn_read_whole 100000 (bl []) = some (0, bl [], false) := by
  have h1 := preF_eq 100000 (bl []) ⟨#[45]⟩
  have h2 := preF_eq 100000 (bl []) ⟨#[43]⟩
  rw [pre_nil] at h1 h2
  unfold Fds.fn_read_whole Fds.t32
  refine bd h1 (cF rfl (bd h2 (cF rfl ?_)))
  exact whole_loop [] false (by decide) 0 0 100000 0 rfl (by decide) (by decide)
/-- it always answers -/
theorem whole_tot (l : List UInt8) (hl : l.length ≤ 80000) : ∃ (v : Int) (r : ByteArray) (ok : Bool), Fds.fn_read_whole 100000 (bl l) = some (v, r, ok) ∧ -1000000 ≤ v ∧ v ≤ 1000000 := by
  rcases l with _ | ⟨x, l⟩
  · exact ⟨_, _, _, whole_nil, by decide, by decide⟩
  · rw [whole_cons x l (by simp only [List.length_cons] at hl; omega)]
    have h1 := (wl_le l 0 (by omega)).1
    have h2 := (wl_le (x :: l) 0 (by omega)).1
    by_cases hx : x = 45
    · rw [if_pos hx]; exact ⟨_, _, _, rfl, by omega, by omega⟩
    · rw [if_neg hx]
      by_cases hy : x = 43
      · rw [if_pos hy]; exact ⟨_, _, _, rfl, by omega, by omega⟩
      · rw [if_neg hy]; exact ⟨_, _, _, rfl, by omega, by omega⟩
/-! ### a whole number's text -/
theorem wl_ds : ∀ (ds : List Nat) (v : Nat), (∀ d ∈ ds, d < 10) → ds.foldl (fun a d => a * 10 + d) v ≤ 1000000 → wl (ds.map ch) v = (ds.foldl (fun a d => a * 10 + d) v, ds.length)
  | [], v, _, _ => rfl
  | d :: ds, v, h, hv => by
    rw [List.foldl_cons] at hv ⊢
    have h1 := fold_ge 10 (by decide) ds (v * 10 + d)
    have h2 := wl_ds ds (v * 10 + d) (fun x hx => h x (List.mem_cons_of_mem _ hx)) hv
    have h3 : dval (ch d).toNat 10 = some d := ch_dec (h d (List.mem_cons_self ..)) 10
    rw [List.map_cons]
    simp only [wl, h3, List.length_cons]
    rw [show min (10 * v + d) 1000000 = v * 10 + d by omega, h2]
theorem dec_ds (u : Nat) : ∃ d ds, d < 10 ∧ (∀ x ∈ ds, x < 10) ∧ nv 10 (d :: ds) = u ∧ Lib.decDigits u = (d :: ds).map ch := by
  induction u using Nat.strongRecOn with
  | ind u ih =>
    by_cases h : u < 10
    · refine ⟨u, [], h, (by intro x hx; cases hx), (by simp [nv]), ?_⟩
      rw [Lib.decDigits, dif_pos h]
      simp [ch, h]
    · obtain ⟨d, ds, h1, h2, h3, h4⟩ := ih (u / 10) (by omega)
      refine ⟨d, ds ++ [u % 10], h1, ?_, ?_, ?_⟩
      · intro x hx
        rcases List.mem_append.1 hx with hx | hx
        · exact h2 x hx
        · simp at hx; omega
      · rw [← List.cons_append, nv_snoc, h3]; omega
      · rw [Lib.decDigits, dif_neg h, h4, ← List.cons_append, List.map_append]
        congr 1
        have : u % 10 < 10 := Nat.mod_lt _ (by decide)
        simp [ch, this]
theorem whole_itoa (n : Int) (h0 : -100000 ≤ n) (h1 : n ≤ 100000) : Fds.fn_read_whole 100000 (bl (Lib.itoa n)) = some (n, bl [], true) := by
  have hu : ∀ u : Nat, u ≤ 100000 → ∃ d ds, d < 10 ∧ ds.length ≤ 79999 ∧ Lib.decDigits u = ch d :: ds ∧ wl (ch d :: ds) 0 = (u, ds.length + 1) := by
    intro u hu
    obtain ⟨d, ds, a1, a2, a3, a4⟩ := dec_ds u
    have a5 := wl_ds (d :: ds) 0 (fun x hx => by
      rcases List.mem_cons.1 hx with rfl | hx
      · exact a1
      · exact a2 x hx) (by rw [show (d :: ds).foldl (fun a d => a * 10 + d) 0 = u from a3]; omega)
    rw [show (d :: ds).foldl (fun a d => a * 10 + d) 0 = u from a3, List.map_cons, List.length_cons] at a5
    refine ⟨d, ds.map ch, a1, ?_, by rw [a4]; rfl, by rw [a5, List.length_map]⟩
    have := Num.dec_len 6 u (by omega) (by decide)
    rw [a4] at this
    simp only [List.map_cons, List.length_cons] at this
    omega
  unfold Lib.itoa
  by_cases hn : n < 0
  · rw [if_pos hn]
    obtain ⟨d, ds, a1, a2, a3, a4⟩ := hu n.natAbs (by omega)
    rw [a3, whole_cons 45 (ch d :: ds) (by simp only [List.length_cons]; omega), if_pos rfl, a4]
    simp only
    rw [show (ch d :: ds).drop (ds.length + 1) = [] from List.drop_of_length_le (by simp), decide_eq_true (by omega)]
    congr 2; omega
  · rw [if_neg hn]
    obtain ⟨d, ds, a1, a2, a3, a4⟩ := hu n.toNat (by omega)
    have c1 := ch_nat (d := d) (by omega)
    rw [if_pos a1] at c1
    have n1 : ch d ≠ 45 := fun h => by rw [h] at c1; have : (45 : UInt8).toNat = 45 := rfl; omega
    have n2 : ch d ≠ 43 := fun h => by rw [h] at c1; have : (43 : UInt8).toNat = 43 := rfl; omega
    rw [a3, whole_cons (ch d) ds (by omega), if_neg n1, if_neg n2, a4]
    simp only
    rw [show (ch d :: ds).drop (ds.length + 1) = [] from List.drop_of_length_le (by simp), decide_eq_true (by omega)]
    congr 2; omega
end Go.Proofs.YtcdhcihjcjpmkaaGreatDoor.Shw
/- PLAIN FACTS on chapter 13, part 7: digits, a point and a power read from a text; any text read. No statement is proved here. -/
namespace Go.Proofs.YtcdhcihjcjpmkaaGreatDoor.Shw
open Go Eng Fns Bw Dig Nt Num Slc
open Go.Proofs.YtcdhcihjcjpmkaaGreatDoor.Top (sg okP)
set_option linter.unusedVariables false
set_option linter.unusedSimpArgs false
/-! ### digits taken off -/
theorem runF_ds (base behind : Int) (R : List UInt8) (hR : ∀ c r, R = c :: r → dval c.toNat base = none) : ∀ (ds : List Nat) (t : RS), (∀ d ∈ ds, dval (ch d).toNat base = some d) → runF base behind (ds.map ch ++ R) t = (ds.length, ds.foldl (stp behind) t)
  | [], t, _ => by
    rw [List.map_nil, List.nil_append]
    rcases R with _ | ⟨c, r⟩
    · rfl
    · unfold runF; rw [hR c r rfl]; rfl
  | d :: ds, t, h => by
    have h1 := h d (List.mem_cons_self ..)
    have ih := runF_ds base behind R hR ds (stp behind t d) (fun x hx => h x (List.mem_cons_of_mem _ hx))
    rw [List.map_cons, List.cons_append]
    simp only [runF, h1, ih, List.length_cons, List.foldl_cons]
theorem stp_fold (b : Nat) (behind : Int) : ∀ (ds : List Nat) (D : List Int) (pl : Int), (∀ d ∈ ds, d < 16) → (∀ d ∈ D, 0 ≤ d ∧ d < 16) → D.length + ds.length ≤ 800 →
    ∃ D', ds.foldl (stp behind) (D, pl, false) = (D', pl - behind * (ds.length : Int), false) ∧ dv b D' = ds.foldl (fun a d => a * b + d) (dv b D) ∧ D'.length ≤ D.length + ds.length ∧ (∀ d ∈ D', 0 ≤ d ∧ d < 16)
  | [], D, pl, _, hD, _ => ⟨D, by simp, rfl, by simp, hD⟩
  | d :: ds, D, pl, h, hD, hl => by
    have hd := h d (List.mem_cons_self ..)
    have htl : ∀ x ∈ ds, x < 16 := fun x hx => h x (List.mem_cons_of_mem _ hx)
    simp only [List.length_cons] at hl
    have hb : pl - behind * ((d :: ds).length : Int) = pl - behind - behind * (ds.length : Int) := by
      rw [List.length_cons, show (((ds.length + 1 : Nat)) : Int) = (ds.length : Int) + 1 by omega, Int.mul_add, Int.mul_one]; omega
    rw [List.foldl_cons, List.foldl_cons, hb]
    by_cases hc : d ≠ 0 ∨ 0 < D.length
    · have e : stp behind (D, pl, false) d = (D ++ [(d : Int)], pl - behind, false) := by
        unfold stp; rw [if_pos ⟨by simp only; omega, hc⟩]
      obtain ⟨D', i1, i2, i3, i4⟩ := stp_fold b behind ds (D ++ [(d : Int)]) (pl - behind) htl (by
        intro x hx
        rcases List.mem_append.1 hx with hx | hx
        · exact hD x hx
        · simp at hx; omega) (by rw [List.length_append, List.length_singleton]; omega)
      refine ⟨D', by rw [e, i1], ?_, ?_, i4⟩
      · rw [i2, dv_snoc]; rfl
      · rw [List.length_append, List.length_singleton] at i3; simp only [List.length_cons]; omega
    · have h0 : d = 0 := by omega
      have hD0 : D = [] := List.length_eq_zero_iff.1 (by omega)
      subst h0; subst hD0
      have e : stp behind ([], pl, false) 0 = ([], pl - behind, false) := by
        unfold stp; rw [if_neg (by simp), if_pos (by rfl)]
      obtain ⟨D', i1, i2, i3, i4⟩ := stp_fold b behind ds [] (pl - behind) htl (fun x hx => by cases hx) (by simp only [List.length_nil]; omega)
      refine ⟨D', by rw [e, i1], ?_, ?_, i4⟩
      · rw [i2]
        congr 1
        show 0 = dv b [] * b + 0
        have : dv b [] = 0 := rfl
        rw [this]; omega
      · simp only [List.length_cons]; omega
theorem runF_dig (base behind : Int) : ∀ (l : List UInt8) (t : RS), (∀ d ∈ t.1, 0 ≤ d ∧ d < 16) → ∀ d ∈ (runF base behind l t).2.1, 0 ≤ d ∧ d < 16
  | [], t, h => h
  | c :: r, t, h => by
    unfold runF
    cases hd : dval c.toNat base with
    | none => exact h
    | some d =>
      refine runF_dig base behind r (stp behind t d) ?_
      have h16 := dval_lt hd
      unfold stp
      split
      · intro x hx
        rcases List.mem_append.1 hx with hx | hx
        · exact h x hx
        · simp at hx; omega
      · split
        · exact h
        · exact h
/-! ### a scan, over lists -/
def scA (base : Int) (l : List UInt8) : Nat × RS × List UInt8 :=
  cond ((l.drop (runF base 0 l ([], 0, false)).1).take 1 == [46])
    ((runF base 1 ((l.drop (runF base 0 l ([], 0, false)).1).drop 1) (runF base 0 l ([], 0, false)).2).1,
     (runF base 1 ((l.drop (runF base 0 l ([], 0, false)).1).drop 1) (runF base 0 l ([], 0, false)).2).2,
     ((l.drop (runF base 0 l ([], 0, false)).1).drop 1).drop (runF base 1 ((l.drop (runF base 0 l ([], 0, false)).1).drop 1) (runF base 0 l ([], 0, false)).2).1)
    (0, (runF base 0 l ([], 0, false)).2, l.drop (runF base 0 l ([], 0, false)).1)
theorem scan_bl (l : List UInt8) (hl : l.length ≤ 80000) (base : Int) (mk : UInt8) (needed : Bool) : fn_scan 100000 (bl l) base ⟨#[mk]⟩ needed =
    cond (Nat.beq ((runF base 0 l ([], 0, false)).1 + (scA base l).1) 0) (some (([], 0, 0, false), false))
      (cond ((scA base l).2.2.take 1 == [mk])
        ((Fds.fn_read_whole 100000 (bl ((scA base l).2.2.drop 1))).bind fun v => some (((scA base l).2.1.1, (scA base l).2.1.2.1, v.1, (scA base l).2.1.2.2), v.2.2 && eqS v.2.1 ⟨#[]⟩))
        (some (((scA base l).2.1.1, (scA base l).2.1.2.1, 0, (scA base l).2.1.2.2), eqS (bl (scA base l).2.2) ⟨#[]⟩ && !needed))) := by
  have hp : Fds.fn_strings_HasPrefix 0 (bl (l.drop (runF base 0 l ([], 0, false)).1)) ⟨#[46]⟩ = some ((l.drop (runF base 0 l ([], 0, false)).1).take 1 == [46]) := by
    have h := preF_eq 0 (bl (l.drop (runF base 0 l ([], 0, false)).1)) (bl [46])
    rw [pre_bl] at h
    exact h
  have hc : ∀ r : List UInt8, Fds.fn_strings_CutPrefix 0 (bl r) ⟨#[mk]⟩ = some (cond (r.take 1 == [mk]) (bl (r.drop 1), true) (bl r, false)) := by
    intro r
    have h := cutF_eq 0 (bl r) (bl [mk])
    rw [pre_bl, bl_size [mk], show [mk].length = 1 from rfl, bl_drop] at h
    exact h
  unfold fn_scan scanF
  refine cT (by rw [bl_size]; exact Nat.ble_eq_true_of_le (by omega)) ?_
  simp only [bl_data, bl_drop]
  unfold scA
  generalize runF base 0 l ([], 0, false) = a at *
  refine bd hp ?_
  cases hd : (l.drop a.1).take 1 == [46]
  · refine bd rfl (bd rfl ?_)
    simp only [cond_false]
    generalize l.drop a.1 = r at *
    rw [hc]
    cases Nat.beq (a.1 + 0) 0
    · cases r.take 1 == [mk] <;> rfl
    · rfl
  · refine bd rfl (bd rfl ?_)
    simp only [cond_true, bl_data, bl_drop]
    generalize runF base 1 ((l.drop a.1).drop 1) a.2 = b at *
    generalize ((l.drop a.1).drop 1).drop b.1 = r at *
    rw [hc]
    cases Nat.beq (a.1 + b.1) 0
    · cases r.take 1 == [mk] <;> rfl
    · rfl
theorem scA_ok (base : Int) (l : List UInt8) : (scA base l).2.1.1.length ≤ 800 ∧ (∀ d ∈ (scA base l).2.1.1, 0 ≤ d ∧ d < 16) ∧ -(2 * l.length : Int) ≤ (scA base l).2.1.2.1 ∧ (scA base l).2.1.2.1 ≤ 2 * l.length ∧ (scA base l).2.2.length ≤ l.length := by
  obtain ⟨a1, a2, a3, a4⟩ := runF_len base 0 (.inl rfl) l ([], 0, false) (by simp)
  have a5 := runF_dig base 0 l ([], 0, false) (fun d hd => by cases hd)
  unfold scA
  generalize runF base 0 l ([], 0, false) = a at *
  simp only at a3 a4
  cases (l.drop a.1).take 1 == [46]
  · simp only [cond_false]
    refine ⟨a2, a5, by omega, by omega, by rw [List.length_drop]; omega⟩
  · simp only [cond_true]
    obtain ⟨b1, b2, b3, b4⟩ := runF_len base 1 (.inr rfl) ((l.drop a.1).drop 1) a.2 a2
    have b5 := runF_dig base 1 ((l.drop a.1).drop 1) a.2 a5
    have b6 : ((l.drop a.1).drop 1).length ≤ l.length := by rw [List.length_drop, List.length_drop]; omega
    generalize runF base 1 ((l.drop a.1).drop 1) a.2 = b at *
    refine ⟨b2, b5, by omega, by omega, by rw [List.length_drop]; omega⟩
/-- a scan always answers -/
theorem scan_tot (l : List UInt8) (hl : l.length ≤ 2000) (base : Int) (mk : UInt8) (needed : Bool) : ∃ (D : List Int) (pl pw : Int) (mo is : Bool), fn_scan 100000 (bl l) base ⟨#[mk]⟩ needed = some ((D, pl, pw, mo), is) ∧ D.length ≤ 800 ∧ (∀ d ∈ D, 0 ≤ d ∧ d < 16) ∧ -4000 ≤ pl ∧ pl ≤ 4000 ∧ -1000000 ≤ pw ∧ pw ≤ 1000000 := by
  rw [scan_bl l (by omega)]
  obtain ⟨s1, s2, s3, s4, s5⟩ := scA_ok base l
  generalize (runF base 0 l ([], 0, false)).1 + (scA base l).1 = z
  generalize scA base l = q at *
  cases Nat.beq z 0
  · rw [cond_false]
    cases q.2.2.take 1 == [mk]
    · rw [cond_false]
      exact ⟨_, _, _, _, _, rfl, s1, s2, by omega, by omega, by omega, by omega⟩
    · rw [cond_true]
      obtain ⟨v, r, ok, hw, w1, w2⟩ := whole_tot (q.2.2.drop 1) (by rw [List.length_drop]; omega)
      rw [hw, Option.bind_some]
      exact ⟨_, _, _, _, _, rfl, s1, s2, by omega, by omega, w1, w2⟩
  · rw [cond_true]
    exact ⟨[], 0, 0, false, false, rfl, by decide, (fun d hd => by cases hd), by decide, by decide, by decide, by decide⟩
/-- digits, perhaps a point and digits, a mark and a power -/
theorem scan_num (b : Nat) (base : Int) (mk : UInt8) (needed : Bool) (xs ys : List Nat) (tl : List UInt8) (n : Int) (ha : ∀ d ∈ xs, dval (ch d).toNat base = some d) (hb : ∀ d ∈ ys, dval (ch d).toNat base = some d) (h1 : 0 < xs.length) (hl : xs.length + ys.length ≤ 700) (htl : (tl = [] ∧ ys = []) ∨ tl = 46 :: ys.map ch)
    (hmk : dval mk.toNat base = none) (hmk2 : mk ≠ 46) (h46 : dval 46 base = none) (n0 : -100000 ≤ n) (n1 : n ≤ 100000) :
    ∃ D, fn_scan 100000 (bl (xs.map ch ++ (tl ++ mk :: Lib.itoa n))) base ⟨#[mk]⟩ needed = some ((D, -(ys.length : Int), n, false), true) ∧ dv b D = nv b (xs ++ ys) ∧ D.length ≤ xs.length + ys.length ∧ (∀ d ∈ D, 0 ≤ d ∧ d < 16) := by
  have hit : (Lib.itoa n).length ≤ 9 := itoa_len n (by omega) (by omega)
  have ha16 : ∀ d ∈ xs, d < 16 := fun d hd => dval_lt (ha d hd)
  have hb16 : ∀ d ∈ ys, d < 16 := fun d hd => dval_lt (hb d hd)
  obtain ⟨D1, i1, i2, i3, i4⟩ := stp_fold b 0 xs [] 0 ha16 (fun x hx => by cases hx) (by simp only [List.length_nil]; omega)
  have i3 : D1.length ≤ xs.length := by simpa using i3
  have hrun : runF base 0 (xs.map ch ++ (tl ++ mk :: Lib.itoa n)) ([], 0, false) = (xs.length, D1, 0, false) := by
    rw [runF_ds base 0 (tl ++ mk :: Lib.itoa n) ?_ xs ([], 0, false) ha, i1]
    · simp
    · intro c r hc
      rcases htl with ⟨rfl, _⟩ | rfl
      · rw [List.nil_append] at hc; injection hc with hc _; rw [← hc]; exact hmk
      · rw [List.cons_append] at hc; injection hc with hc _; rw [← hc]; exact h46
  have hdrop : (xs.map ch ++ (tl ++ mk :: Lib.itoa n)).drop xs.length = tl ++ mk :: Lib.itoa n := by
    rw [List.drop_append_of_le_length (by simp), List.drop_of_length_le (by simp), List.nil_append]
  have hlen : (xs.map ch ++ (tl ++ mk :: Lib.itoa n)).length ≤ 80000 := by
    rcases htl with ⟨rfl, _⟩ | rfl <;> simp <;> omega
  have hw := whole_itoa n n0 n1
  rw [scan_bl _ hlen]
  have hsc : ∃ D2 k, scA base (xs.map ch ++ (tl ++ mk :: Lib.itoa n)) = (k, (D2, -(ys.length : Int), false), mk :: Lib.itoa n) ∧ dv b D2 = nv b (xs ++ ys) ∧ D2.length ≤ xs.length + ys.length ∧ (∀ d ∈ D2, 0 ≤ d ∧ d < 16) := by
    unfold scA
    rw [hrun]
    simp only
    rw [hdrop]
    rcases htl with ⟨rfl, rfl⟩ | rfl
    · rw [List.nil_append]
      have e : ((mk :: Lib.itoa n).take 1 == [46]) = false := by
        rw [beq_eq_false_iff_ne]; intro h; simp at h; exact hmk2 h
      rw [e, cond_false]
      refine ⟨D1, 0, by simp, ?_, by simp; omega, i4⟩
      rw [List.append_nil]; exact i2
    · have e : ((46 :: ys.map ch ++ mk :: Lib.itoa n).take 1 == [46]) = true := by simp
      rw [e, cond_true, List.cons_append, List.drop_succ_cons, List.drop_zero]
      obtain ⟨D2, j1, j2, j3, j4⟩ := stp_fold b 1 ys D1 0 hb16 i4 (by omega)
      have hr : runF base 1 (ys.map ch ++ mk :: Lib.itoa n) (D1, 0, false) = (ys.length, D2, -(ys.length : Int), false) := by
        rw [runF_ds base 1 (mk :: Lib.itoa n) ?_ ys (D1, 0, false) hb, j1]
        · rw [Int.one_mul, Int.zero_sub]
        · intro c r hc; injection hc with hc _; rw [← hc]; exact hmk
      rw [hr]
      refine ⟨D2, ys.length, ?_, ?_, by omega, j4⟩
      · rw [List.drop_append_of_le_length (by simp), List.drop_of_length_le (by simp), List.nil_append]
      · rw [j2, i2]; unfold nv; rw [List.foldl_append]; rfl
  obtain ⟨D2, k, e, h2, h3, h4⟩ := hsc
  refine ⟨D2, ?_, h2, h3, h4⟩
  rw [e, hrun]
  refine cF ?_ (cT ?_ ?_)
  · cases hz : Nat.beq (xs.length + k) 0
    · rfl
    · have := Nat.eq_of_beq_eq_true hz; omega
  · simp
  · simp only [List.drop_succ_cons, List.drop_zero]
    refine bd hw ?_
    simp only
    rw [show eqS (bl []) ⟨#[]⟩ = true from eqS_bl [] []]; rfl
end Go.Proofs.YtcdhcihjcjpmkaaGreatDoor.Shw
/- PLAIN FACTS on chapter 13, part 8: any text read; a decimal number's text read. No statement is proved here. -/
namespace Go.Proofs.YtcdhcihjcjpmkaaGreatDoor.Shw
open Go Eng Fns Bw Dig Nt Num Slc
open Go.Proofs.YtcdhcihjcjpmkaaGreatDoor.Patp (negP_eq)
open Go.Proofs.YtcdhcihjcjpmkaaGreatDoor.Top (sg okP okF mn sz okF_nan okF_cls)
set_option linter.unusedVariables false
set_option linter.unusedSimpArgs false
/-- what follows the sign -/
noncomputable def inner (N : Nat) (r1 : Bool) (s : ByteArray) (m : Int) : Option (Int × Int × Option Int) :=
  cond (eqS s (⟨#[105, 110, 102]⟩ : ByteArray))
   (cond r1
    ((fn_pat_Neg N 9218868437227405312).bind fun r2 =>
     some (r2, 0, none))
    (some (9218868437227405312, 0, none)))
   (cond (eqS s (⟨#[110, 97, 110]⟩ : ByteArray))
    (some (9221120237041090560, 0, none))
    ((fn_strings_CutPrefix N s (⟨#[48, 120]⟩ : ByteArray)).bind fun r3 =>
     cond r3.2
      ((fn_scan N r3.1 16 (⟨#[112]⟩ : ByteArray) (eqI 16 16)).bind fun r4 =>
       cond (!(r4.2))
        (some (0, 0, some 3))
        ((fn_read_rounded N (r4.1.1, r4.1.2.1, r4.1.2.2.1, r4.1.2.2.2) 16 r1 m).bind fun r5 =>
         some (r5.1, r5.2.1, r5.2.2)))
      ((fn_scan N s 10 (⟨#[101]⟩ : ByteArray) (eqI 10 16)).bind fun r6 =>
       cond (!(r6.2))
        (some (0, 0, some 3))
        ((fn_read_rounded N (r6.1.1, r6.1.2.1, r6.1.2.2.1, r6.1.2.2.2) 10 r1 m).bind fun r7 =>
         some (r7.1, r7.2.1, r7.2.2)))))
theorem parse_unf (N : Nat) (x0 : ByteArray) (m : Int) : fn_read_Parse N x0 m = cond (ltI 65536 (x0.size : Int))
   (some (0, 0, some 2))
   ((fn_strings_HasPrefix N x0 (⟨#[45]⟩ : ByteArray)).bind fun r1 =>
    cond r1
     (cond (((leI 0 1) && (leI 1 (x0.size : Int))) && (leI (x0.size : Int) (x0.size : Int))) (inner N r1 (x0.extract ((1 : Int).toNat) ((x0.size : Int).toNat)) m) none)
     ((fn_strings_HasPrefix N x0 (⟨#[43]⟩ : ByteArray)).bind fun r8 =>
      cond r8
       (cond (((leI 0 1) && (leI 1 (x0.size : Int))) && (leI (x0.size : Int) (x0.size : Int))) (inner N r1 (x0.extract ((1 : Int).toNat) ((x0.size : Int).toNat)) m) none)
       (inner N r1 x0 m))) := rfl
theorem cut_eq (N : Nat) (s t : ByteArray) : fn_strings_CutPrefix N s t = some (cond (pre s t) (s.extract t.size s.size, true) (s, false)) := by
  have h1 := pre_eq N s t
  have h2 : fn_stringslite_HasPrefix N s t = some (pre s t) := by
    unfold fn_strings_HasPrefix at h1
    cases h : fn_stringslite_HasPrefix N s t with
    | none => rw [h] at h1; cases h1
    | some r => rw [h] at h1; exact h1
  unfold fn_strings_CutPrefix fn_stringslite_CutPrefix
  rw [h2, Option.bind_some]
  cases h : pre s t
  · rfl
  · have hle : Nat.ble t.size s.size = true := by
      unfold pre at h
      cases h3 : Nat.ble t.size s.size
      · rw [h3] at h; cases h
      · rfl
    rw [le_ble, le_ble, hle, show leI 0 (t.size : Int) = true from leI_t (by omega), show Nat.ble s.size s.size = true by rw [Nat.ble_eq]; exact Nat.le_refl _]
    rfl
theorem cut_0x (N : Nat) (l : List UInt8) : fn_strings_CutPrefix N (bl l) ⟨#[48, 120]⟩ = some (cond (l.take 2 == [48, 120]) (bl (l.drop 2), true) (bl l, false)) := by
  have h := cut_eq N (bl l) (bl [48, 120])
  rw [pre_bl, bl_size [48, 120], show [(48 : UInt8), 120].length = 2 from rfl, bl_drop] at h
  exact h
theorem neg_inf (N : Nat) : fn_pat_Neg N 9218868437227405312 = some 18442240474082181120 := by rw [negP_eq N _ (by decide) (by decide)]; rfl
theorem inner_tot (r1 : Bool) (l : List UInt8) (hl : l.length ≤ 1000) (m : Int) : ∃ q f h, inner 100000 r1 (bl l) m = some (q, f, h) ∧ (h = none → q = 9221120237041090560 ∨ okP q) := by
  unfold inner
  cases eqS (bl l) (⟨#[105, 110, 102]⟩ : ByteArray)
  · rw [cond_false]
    cases eqS (bl l) (⟨#[110, 97, 110]⟩ : ByteArray)
    · rw [cond_false, cut_0x, Option.bind_some]
      cases l.take 2 == [48, 120]
      · simp only [cond_false]
        obtain ⟨D, pl, pw, mo, is, hs, s1, s2, s3, s4, s5, s6⟩ := scan_tot l (by omega) 10 101 (eqI 10 16)
        rw [hs, Option.bind_some]
        cases is
        · exact ⟨0, 0, some 3, rfl, fun h => by cases h⟩
        · obtain ⟨q, F, hr, ho⟩ := rounded_total D s2 s1 pl pw mo (by omega) (by omega) (by omega) (by omega) 10 r1 m
          exact ⟨q, F, none, cF rfl (bd hr rfl), fun _ => .inr ho⟩
      · simp only [cond_true]
        obtain ⟨D, pl, pw, mo, is, hs, s1, s2, s3, s4, s5, s6⟩ := scan_tot (l.drop 2) (by rw [List.length_drop]; omega) 16 112 (eqI 16 16)
        rw [hs, Option.bind_some]
        cases is
        · exact ⟨0, 0, some 3, rfl, fun h => by cases h⟩
        · obtain ⟨q, F, hr, ho⟩ := rounded_total D s2 s1 pl pw mo (by omega) (by omega) (by omega) (by omega) 16 r1 m
          exact ⟨q, F, none, cF rfl (bd hr rfl), fun _ => .inr ho⟩
    · exact ⟨_, _, _, rfl, fun _ => .inl rfl⟩
  · rw [cond_true]
    cases r1
    · exact ⟨_, _, _, rfl, fun _ => .inr ⟨by decide, by decide, by decide⟩⟩
    · rw [cond_true, neg_inf, Option.bind_some]
      exact ⟨_, _, _, rfl, fun _ => .inr ⟨by decide, by decide, by decide⟩⟩
/-- any text's reading answers -/
theorem parse_tot (l : List UInt8) (hl : l.length ≤ 1000) (m : Int) : ∃ q f h, fn_read_Parse 100000 (bl l) m = some (q, f, h) ∧ (h = none → q = 9221120237041090560 ∨ okP q) := by
  rw [parse_unf, ltI_f (by rw [bl_size]; omega), cond_false, pre_eq, Option.bind_some, pre_eq, Option.bind_some]
  rcases l with _ | ⟨x, l⟩
  · rw [pre_nil, cond_false, pre_nil, cond_false]
    exact inner_tot false [] (by decide) m
  · have hc : (bl (x :: l)).extract ((1 : Int).toNat) (((bl (x :: l)).size : Int).toNat) = bl l := by
      rw [Int.toNat_natCast, show (1 : Int).toNat = 1 from rfl, bl_drop]; rfl
    have hl2 : l.length ≤ 1000 := by simp only [List.length_cons] at hl; omega
    rw [pre_cons, pre_cons, hc, cut_one]
    simp only [cond_true]
    cases h1 : x == 45
    · rw [cond_false]
      cases h2 : x == 43
      · exact inner_tot false (x :: l) hl m
      · exact inner_tot false l hl2 m
    · exact inner_tot true l hl2 m
theorem parse_plain (x : UInt8) (l : List UInt8) (h1 : x ≠ 45) (h2 : x ≠ 43) (hl : l.length ≤ 60000) (m : Int) : fn_read_Parse 100000 (bl (x :: l)) m = inner 100000 false (bl (x :: l)) m := by
  rw [parse_unf, ltI_f (by rw [bl_size]; simp only [List.length_cons]; omega), cond_false, pre_eq, Option.bind_some, pre_eq, Option.bind_some, pre_cons, pre_cons, show (x == 45) = false from beq_eq_false_iff_ne.2 h1, show (x == 43) = false from beq_eq_false_iff_ne.2 h2, cond_false, cond_false]
theorem parse_minus (l : List UInt8) (hl : l.length ≤ 60000) (m : Int) : fn_read_Parse 100000 (bl (45 :: l)) m = inner 100000 true (bl l) m := by
  have hc : (bl (45 :: l)).extract ((1 : Int).toNat) (((bl (45 :: l)).size : Int).toNat) = bl l := by
    rw [Int.toNat_natCast, show (1 : Int).toNat = 1 from rfl, bl_drop]; rfl
  rw [parse_unf, ltI_f (by rw [bl_size]; simp only [List.length_cons]; omega), cond_false, pre_eq, Option.bind_some, pre_cons, hc, cut_one]
  rfl
theorem parse_sign (mi : Bool) (x : UInt8) (l : List UInt8) (h1 : x ≠ 45) (h2 : x ≠ 43) (hl : l.length ≤ 50000) (m : Int) : fn_read_Parse 100000 (bl (cond mi [45] [] ++ x :: l)) m = inner 100000 mi (bl (x :: l)) m := by
  cases mi
  · exact parse_plain x l h1 h2 (by omega) m
  · exact parse_minus (x :: l) (by simp only [List.length_cons]; omega) m
theorem not_word (x : UInt8) (l : List UInt8) (a b c : UInt8) (h : x ≠ a) : eqS (bl (x :: l)) ⟨#[a, b, c]⟩ = false := by
  have h1 := eqS_bl (x :: l) [a, b, c]
  rw [show (x :: l == [a, b, c]) = false from by
    rw [beq_eq_false_iff_ne]; intro hh; injection hh with hh _; exact h hh] at h1
  exact h1
/-- a number's text, of base 10 -/
theorem inner_dec (mi : Bool) (x : UInt8) (l : List UInt8) (m : Int) (h1 : x ≠ 105) (h2 : x ≠ 110) (h3 : (x :: l).take 2 ≠ [48, 120]) (D : List Int) (pl pw : Int) (mo : Bool) (hs : fn_scan 100000 (bl (x :: l)) 10 ⟨#[101]⟩ false = some ((D, pl, pw, mo), true)) (R : Int × Int × Option Int) (hr : fn_read_rounded 100000 (D, pl, pw, mo) 10 mi m = some R) : inner 100000 mi (bl (x :: l)) m = some R := by
  unfold inner
  rw [not_word x l _ _ _ h1, not_word x l _ _ _ h2, cond_false, cond_false, cut_0x, show ((x :: l).take 2 == [48, 120]) = false from beq_eq_false_iff_ne.2 h3]
  exact bd rfl (cF rfl (bd hs (cF rfl (bd hr rfl))))
theorem inner_hex (mi : Bool) (l : List UInt8) (m : Int) (D : List Int) (pl pw : Int) (mo : Bool) (hs : fn_scan 100000 (bl l) 16 ⟨#[112]⟩ true = some ((D, pl, pw, mo), true)) (R : Int × Int × Option Int) (hr : fn_read_rounded 100000 (D, pl, pw, mo) 16 mi m = some R) : inner 100000 mi (bl (48 :: 120 :: l)) m = some R := by
  unfold inner
  rw [not_word 48 (120 :: l) _ _ _ (by decide), not_word 48 (120 :: l) _ _ _ (by decide), cond_false, cond_false, cut_0x, show ((48 :: 120 :: l).take 2 == [48, 120]) = true by simp]
  exact bd rfl (cT rfl (bd hs (cF rfl (bd hr rfl))))
/-! ### the digits of a number -/
def dg (w : Nat) : Nat → List Nat
  | 0 => []
  | k + 1 => w / 10 ^ k % 10 :: dg w k
theorem dg_len (w : Nat) : ∀ k, (dg w k).length = k
  | 0 => rfl
  | k + 1 => by rw [dg, List.length_cons, dg_len w k]
theorem dg_lt (w : Nat) : ∀ k, ∀ d ∈ dg w k, d < 10
  | 0, d, h => by cases h
  | k + 1, d, h => by
    rw [dg] at h
    rcases List.mem_cons.1 h with rfl | h
    · exact Nat.mod_lt _ (by decide)
    · exact dg_lt w k d h
theorem dg_ch (w : Nat) : ∀ k, (dd w k).map UInt8.ofNat = (dg w k).map ch
  | 0 => rfl
  | k + 1 => by
    have h : w / 10 ^ k % 10 < 10 := Nat.mod_lt _ (by decide)
    rw [dd, dg, List.map_cons, List.map_cons, dg_ch w k]
    congr 1
    unfold ch
    rw [if_pos h]
theorem dg_take (w j : Nat) : ∀ n, (dg w (n + j)).take n = dg (w / 10 ^ j) n
  | 0 => by rw [List.take_zero]; rfl
  | n + 1 => by
    rw [show n + 1 + j = n + j + 1 by omega, dg, List.take_succ_cons, dg_take w j n, dg, Nat.div_div_eq_div_mul, ← Nat.pow_add, Nat.add_comm j n]
theorem fold_acc (b : Nat) : ∀ (ds : List Nat) (a : Nat), ds.foldl (fun a d => a * b + d) a = a * b ^ ds.length + nv b ds
  | [], a => by simp [nv]
  | d :: ds, a => by
    have h1 := fold_acc b ds (a * b + d)
    have h2 := fold_acc b ds (0 * b + d)
    have h3 : nv b (d :: ds) = ds.foldl (fun a d => a * b + d) (0 * b + d) := rfl
    rw [List.foldl_cons, h1, h3, h2, List.length_cons, Nat.pow_succ, Nat.add_mul, Nat.zero_mul, Nat.zero_add, Nat.mul_assoc, Nat.mul_comm b, Nat.add_assoc]
theorem dg_nv (w : Nat) : ∀ k, nv 10 (dg w k) = w % 10 ^ k
  | 0 => by rw [Nat.pow_zero, Nat.mod_one]; rfl
  | k + 1 => by
    have h : nv 10 (dg w (k + 1)) = (dg w k).foldl (fun a d => a * 10 + d) (0 * 10 + w / 10 ^ k % 10) := rfl
    rw [h, fold_acc, dg_len, dg_nv w k, Nat.pow_succ, Nat.mod_mul, Nat.zero_mul, Nat.zero_add, Nat.mul_comm, Nat.add_comm]
theorem ds_cut (w n : Nat) (h1 : 1 ≤ n) (h2 : n ≤ dl 10 w) : (DS w).extract 0 n = bl ((dg (w / 10 ^ (dl 10 w - n)) n).map ch) := by
  have e : DS w = bl ((dg w (dl 10 w)).map ch) := by
    unfold DS
    rw [show max 1 (dl 10 w) = dl 10 w by omega, ← dg_ch]
    rfl
  rw [e, bl_cut, List.drop_zero, ← List.map_take]
  have h3 := dg_take w (dl 10 w - n) n
  rw [show n + (dl 10 w - n) = dl 10 w by omega] at h3
  rw [h3]
theorem text_bl (x : Nat) (xs : List Nat) (f : Int) (mi : Bool) : textL (bl ((x :: xs).map ch)) f mi = cond mi [45] [] ++ ([x].map ch ++ ((if xs = [] then [] else 46 :: xs.map ch) ++ 101 :: Lib.itoa f)) := by
  unfold textL
  rw [bl_cut, bl_drop, bl_data, bl_data, bl_size]
  rcases xs with _ | ⟨y, ys⟩
  · simp
    rfl
  · have h : Nat.blt 1 (ys.length + 1 + 1) = true := Nat.ble_eq_true_of_le (by omega)
    simp [h]
/-- Short's text, read by Even, is the pattern -/
theorem short_read {a : Int} (ha : okF a) (hz : 0 < sz a) : ∃ t G, fn_show_Short 100000 a = some t ∧ fn_read_Parse 100000 t 0 = some (a, G, none) := by
  obtain ⟨n, w, F, n1, n2, d1, d2, hw10, f1, f2, hs, hall⟩ := short_rounded ha hz
  rw [ds_cut w n n1 d1] at hs
  obtain ⟨w', hw'⟩ : ∃ w', w' = w / 10 ^ (dl 10 w - n) := ⟨_, rfl⟩
  rw [← hw'] at hs hall
  have hwlt : w' < 10 ^ n := by
    rw [hw', Nat.div_lt_iff_lt_mul (Nat.pow_pos (by decide)), ← Nat.pow_add, show n + (dl 10 w - n) = dl 10 w by omega]
    exact dl_lt (by decide) w
  have hnv := dg_nv w' n
  rw [Nat.mod_eq_of_lt hwlt] at hnv
  have hlen := dg_len w' n
  have hlt := dg_lt w' n
  generalize dg w' n = ds at *
  obtain ⟨x, xs, rfl⟩ : ∃ x xs, ds = x :: xs := by
    rcases ds with _ | ⟨x, xs⟩
    · simp at hlen; omega
    · exact ⟨x, xs, rfl⟩
  simp only [List.length_cons] at hlen
  have hpw : pw F n w = F + (dl 10 w : Nat) - n := by
    unfold pw; rw [show max 1 (dl 10 w) = dl 10 w by omega]
  have hx : x < 10 := hlt x (List.mem_cons_self ..)
  have hcx := ch_nat (d := x) (by omega)
  rw [if_pos hx] at hcx
  have ne : ∀ c : UInt8, (c.toNat < 48 ∨ 57 < c.toNat) → ch x ≠ c := fun c h hh => by rw [hh] at hcx; omega
  obtain ⟨D, e1, e2, e3, e4⟩ := scan_num 10 10 101 false [x] xs (if xs = [] then [] else 46 :: xs.map ch) (pw F n w)
    (fun d hd => ch_dec (by simp at hd; omega) 10) (fun d hd => ch_dec (hlt d (List.mem_cons_of_mem _ hd)) 10) (by simp) (by simp; omega)
    (by
      by_cases h : xs = []
      · left; exact ⟨if_pos h, h⟩
      · right; exact if_neg h) (by decide) (by decide) (by decide) (by omega) (by omega)
  obtain ⟨G, hG⟩ := hall D (-(xs.length : Int)) (pw F n w) e4 (by simp only [List.length_singleton] at e3; omega) (by rw [e2]; exact hnv) (by omega) (by omega) (by omega)
  refine ⟨bl (textL (bl ((x :: xs).map ch)) (pw F n w) (mn a)), G, ?_, ?_⟩
  · rw [hs]
    unfold fn_text
    refine cT ?_ rfl
    rw [bl_size, List.length_map, leI_t (by omega), leI_t (by omega), Nat.ble_eq_true_of_le (by simp), Nat.ble_eq_true_of_le (by simp; omega)]; rfl
  · have hit : (Lib.itoa (pw F n w)).length ≤ 9 := itoa_len _ (by omega) (by omega)
    rw [text_bl]
    show fn_read_Parse 100000 (bl (cond (mn a) [45] [] ++ ch x :: ((if xs = [] then [] else 46 :: xs.map ch) ++ 101 :: Lib.itoa (pw F n w)))) 0 = _
    rw [parse_sign (mn a) (ch x) _ (ne 45 (by decide)) (ne 43 (by decide)) (by by_cases h : xs = [] <;> simp [h] <;> omega)]
    refine inner_dec (mn a) (ch x) _ 0 (ne 105 (by decide)) (ne 110 (by decide)) ?_ D _ _ false e1 _ hG
    by_cases h : xs = []
    · rw [if_pos h]; intro hh; simp at hh
    · rw [if_neg h]; intro hh; simp at hh
end Go.Proofs.YtcdhcihjcjpmkaaGreatDoor.Shw
/- PLAIN FACTS on chapter 14, of base 16: a pattern's digits, trimmed; what show.Hex answers. No statement is proved here. -/
namespace Go.Proofs.YtcdhcihjcjpmkaaGreatDoor.Shw
open Go Eng Fns Bw Dig Nt Num Slc
open Go.Proofs.YtcdhcihjcjpmkaaGreatDoor.Patp
open Go.Proofs.YtcdhcihjcjpmkaaGreatDoor.Top (sg okP okF mn sz okF_nan okF_cls)
set_option linter.unusedVariables false
set_option linter.unusedSimpArgs false
def hexd (d : Nat) : Nat := if d < 10 then 48 + d else 87 + d
/-- the lowest k digits of a number, the highest first -/
def hd (p : Nat) : Nat → List Nat
  | 0 => []
  | k + 1 => hexd (p / 16 ^ k % 16) :: hd p k
theorem hd_len (p : Nat) : ∀ k, (hd p k).length = k
  | 0 => rfl
  | k + 1 => by rw [hd, List.length_cons, hd_len p k]
theorem hd_get (p : Nat) : ∀ (k j : Nat), j < k → (hd p k)[j]? = some (hexd (p / 16 ^ (k - 1 - j) % 16))
  | 0, j, h => by omega
  | k + 1, 0, h => by simp [hd]
  | k + 1, j + 1, h => by
    rw [hd, List.getElem?_cons_succ, hd_get p k j (by omega)]
    congr 5; omega
theorem str_at : ∀ d : Fin 16, sAt str8 (d.1 : Int) = (hexd d.1 : Int) := by decide +kernel
theorem str_size : (str8.size : Int) = 36 := by decide +kernel
theorem cut_st (v : Vec 65) (i : Nat) (x : Int) (h : i < 65) : Vec.cut (Vec.st v (i : Int) x) i 65 = x :: Vec.cut v (i + 1) 65 := by
  unfold Vec.cut Vec.st
  have hv := v.2
  simp only [Int.toNat_natCast]
  have e : (v.1.set i x).drop i = x :: v.1.drop (i + 1) := by
    rw [List.drop_set, if_neg (by omega), Nat.sub_self, List.drop_eq_getElem_cons (by omega)]
    rfl
  rw [e, show 65 - i = 64 - i + 1 by omega, List.take_succ_cons, show 65 - (i + 1) = 64 - i by omega]
theorem fmt_loop (N p : Nat) (hp : p < 18446744073709551616) (s4 : ByteArray) (l9 : List Int) : ∀ (r k f : Nat) (v : Vec 65), k + r = 15 → p / 16 ^ k < 16 ^ (r + 1) → r + 1 < f → Vec.cut v (65 - k) 65 = (hd p k).map (fun n : Nat => (n : Int)) →
    ∃ k', k' ≤ 15 ∧ p / 16 ^ k' < 16 ∧ l120_0 N f [] ((p / 16 ^ k : Nat) : Int) false false s4 ((65 - k : Nat) : Int) 4 16 15 l9 v = some (l9, bs (hd p (k' + 1))) := by
  have last : ∀ (k f : Nat) (v : Vec 65), k ≤ 15 → p / 16 ^ k < 16 → 0 < f → Vec.cut v (65 - k) 65 = (hd p k).map (fun n : Nat => (n : Int)) →
      l120_0 N f [] ((p / 16 ^ k : Nat) : Int) false false s4 ((65 - k : Nat) : Int) 4 16 15 l9 v = some (l9, bs (hd p (k + 1))) := by
    intro k f v hk hlt hf hv
    obtain ⟨f, rfl⟩ : ∃ n', f = n' + 1 := ⟨f - 1, by omega⟩
    obtain ⟨u, hu⟩ : ∃ u, u = p / 16 ^ k := ⟨_, rfl⟩
    have hhd : hd p (k + 1) = hexd (u % 16) :: hd p k := by rw [hd, hu]
    rw [← hu] at hlt ⊢
    show s120_0 N _ _ _ _ _ _ _ _ _ _ _ _ = _
    unfold s120_0
    have e0 : subI .i64 ((65 - k : Nat) : Int) 1 = ((64 - k : Nat) : Int) := by rw [subI_i (by omega) (by omega)]; omega
    have e1 := str_at ⟨u, hlt⟩
    simp only at e1
    have e2 : bstr (Vec.cut (Vec.st v ((64 - k : Nat) : Int) (hexd u : Int)) (64 - k) 65) = bs (hd p (k + 1)) := by
      rw [cut_st v (64 - k) _ (by omega), show 64 - k + 1 = 65 - k by omega, hv, hhd, Nat.mod_eq_of_lt hlt, ← bstr_eq]
      rfl
    rw [leI_f (by omega), cond_false, e0, leI_t (by omega), cond_true, str_size, ltI_t (by omega), cond_true, leI_t (by omega), cond_true, ltI_t (by omega), cond_true, cond_false, cond_false, leI_t (by omega), leI_t (by omega)]
    simp only [Int.toNat_natCast]
    rw [show (true && true && true && true) = true from rfl, cond_true, show (Nat.ble (64 - k) 65 && Nat.ble 65 65) = true by simp; omega, cond_true, e1, e2]
  intro r
  induction r with
  | zero =>
    intro k f v hk hlt hf hv
    exact ⟨k, by omega, by simpa using hlt, last k f v (by omega) (by simpa using hlt) (by omega) hv⟩
  | succ r ih =>
    intro k f v hk hlt hf hv
    by_cases h16 : p / 16 ^ k < 16
    · exact ⟨k, by omega, h16, last k f v (by omega) h16 (by omega) hv⟩
    obtain ⟨f, rfl⟩ : ∃ n', f = n' + 1 := ⟨f - 1, by omega⟩
    have hd16 : p / 16 ^ k % 16 < 16 := Nat.mod_lt _ (by decide)
    have hdl : p / 16 ^ k ≤ p := Nat.div_le_self _ _
    have e0 : subI .i64 ((65 - k : Nat) : Int) 1 = ((64 - k : Nat) : Int) := by rw [subI_i (by omega) (by omega)]; omega
    have e1 := str_at ⟨p / 16 ^ k % 16, hd16⟩
    simp only at e1
    have e2 : andI .u64 ((p / 16 ^ k : Nat) : Int) 15 = ((p / 16 ^ k % 16 : Nat) : Int) := by
      rw [show (15 : Int) = ((2 ^ 4 - 1 : Nat) : Int) from rfl, andI_n (by omega) (by decide), Nat.and_two_pow_sub_one_eq_mod]
    have e3 : shrI .u64 ((p / 16 ^ k : Nat) : Int) 4 = ((p / 16 ^ (k + 1) : Nat) : Int) := by
      rw [Nat.pow_succ, ← Nat.div_div_eq_div_mul]
      exact shrN (k := .u64) (b := 4) (by decide)
    have hv2 : Vec.cut (Vec.st v ((64 - k : Nat) : Int) (hexd (p / 16 ^ k % 16) : Int)) (65 - (k + 1)) 65 = (hd p (k + 1)).map (fun n : Nat => (n : Int)) := by
      rw [show 65 - (k + 1) = 64 - k by omega, cut_st v (64 - k) _ (by omega), show 64 - k + 1 = 65 - k by omega, hv]
      rfl
    have hlt2 : p / 16 ^ (k + 1) < 16 ^ (r + 1) := by
      rw [Nat.pow_succ, ← Nat.div_div_eq_div_mul, Nat.div_lt_iff_lt_mul (by decide), ← Nat.pow_succ]
      exact hlt
    obtain ⟨k', h1, h2, h3⟩ := ih (k + 1) f _ (by omega) hlt2 (by omega) hv2
    refine ⟨k', h1, h2, ?_⟩
    have z1 : ¬ ((p / 16 ^ k : Nat) : Int) < 16 := by
      intro h; exact h16 (by exact_mod_cast h)
    have z2 : (16 : Int) ≤ ((p / 16 ^ k : Nat) : Int) := by
      exact_mod_cast Nat.le_of_not_lt h16
    have z3 : (0 : Int) ≤ ((p / 16 ^ k % 16 : Nat) : Int) := Int.natCast_nonneg _
    have z4 : ((p / 16 ^ k % 16 : Nat) : Int) < 36 := by exact_mod_cast Nat.lt_of_lt_of_le hd16 (by decide)
    show s120_0 N (l120_0 N f) _ _ _ _ _ _ _ _ _ _ _ = _
    unfold s120_0
    rw [leI_t z2, cond_true, e2, e0, leI_t z3, cond_true, str_size, ltI_t z4, cond_true, leI_t (by omega), cond_true, ltI_t (by omega), cond_true, ltI_f (by omega), cond_false, e3, e1]
    rw [show 65 - (k + 1) = 64 - k by omega] at h3
    exact h3

theorem fmt_eq (N p : Nat) (hp : p < 18446744073709551616) (hN : 20 < N) : ∃ k, k ≤ 15 ∧ p / 16 ^ k < 16 ∧ fn_strconv_FormatUint_54 N (p : Int) 16 = some (bs (hd p (k + 1))) := by
  obtain ⟨k, h1, h2, h3⟩ := fmt_loop N p hp (⟨#[]⟩ : ByteArray) [] 15 0 N (Vec.zero 65) rfl (by rw [Nat.pow_zero, Nat.div_one]; exact hp) (by omega) rfl
  rw [Nat.pow_zero, Nat.div_one] at h3
  refine ⟨k, h1, h2, ?_⟩
  have hb : fn_strconv_formatBits N [] (p : Int) 16 false false = some ([], bs (hd p (k + 1))) := h3
  have hf : fn_strconv_FormatUint N (p : Int) 16 = some (bs (hd p (k + 1))) := by
    unfold fn_strconv_FormatUint
    exact cF rfl (bd hb rfl)
  unfold fn_strconv_FormatUint_54
  exact bd hf rfl
theorem pad_loop (N p : Nat) : ∀ (r k f : Nat), k + r = 16 → r < f → p / 16 ^ k = 0 → l21_0 N f (bs (hd p k)) = some (bs (hd p 16)) := by
  intro r
  induction r with
  | zero =>
    intro k f hk hf hz
    obtain ⟨f, rfl⟩ : ∃ n', f = n' + 1 := ⟨f - 1, by omega⟩
    show s21_0 N _ _ = _
    unfold s21_0
    have : k = 16 := by omega
    subst this
    rw [bs_size, hd_len, ltI_f (by omega), cond_false]
  | succ r ih =>
    intro k f hk hf hz
    obtain ⟨f, rfl⟩ : ∃ n', f = n' + 1 := ⟨f - 1, by omega⟩
    show s21_0 N (l21_0 N f) _ = _
    unfold s21_0
    have e : (⟨#[48]⟩ : ByteArray) ++ bs (hd p k) = bs (hd p (k + 1)) := by
      rw [hd, hz]
      exact bs_cons 48 _
    have hz2 : p / 16 ^ (k + 1) = 0 := by rw [Nat.pow_succ, ← Nat.div_div_eq_div_mul, hz]
    rw [bs_size, hd_len, ltI_t (by omega), cond_true, show fitS ((⟨#[48]⟩ : ByteArray).size + k) = true from fitS_iff.2 (by show 1 + k ≤ _; omega), cond_true, e]
    exact ih (k + 1) f (by omega) (by omega) hz2
theorem hex_eq (N p : Nat) (hp : p < 18446744073709551616) (hN : 20 < N) : fn_pat_Hex N (p : Int) = some (bs (hd p 16)) := by
  obtain ⟨k, h1, h2, h3⟩ := fmt_eq N p hp hN
  have hz : p / 16 ^ (k + 1) = 0 := by rw [Nat.pow_succ, ← Nat.div_div_eq_div_mul]; exact Nat.div_eq_of_lt h2
  unfold fn_pat_Hex
  exact bd h3 (pad_loop N p (15 - k) (k + 1) N (by omega) (by omega) hz)
/-! ### the digits as a list -/
def hg (p : Nat) : Nat → List Nat
  | 0 => []
  | k + 1 => p / 16 ^ k % 16 :: hg p k
theorem hg_len (p : Nat) : ∀ k, (hg p k).length = k
  | 0 => rfl
  | k + 1 => by rw [hg, List.length_cons, hg_len p k]
theorem hg_lt (p : Nat) : ∀ k, ∀ d ∈ hg p k, d < 16
  | 0, d, h => by cases h
  | k + 1, d, h => by
    rw [hg] at h
    rcases List.mem_cons.1 h with rfl | h
    · exact Nat.mod_lt _ (by decide)
    · exact hg_lt p k d h
theorem hg_ch (p : Nat) : ∀ k, (hd p k).map UInt8.ofNat = (hg p k).map ch
  | 0 => rfl
  | k + 1 => by
    rw [hd, hg, List.map_cons, List.map_cons, hg_ch p k]
    rfl
theorem hg_nv (p : Nat) : ∀ k, nv 16 (hg p k) = p % 16 ^ k
  | 0 => by rw [Nat.pow_zero, Nat.mod_one]; rfl
  | k + 1 => by
    have h : nv 16 (hg p (k + 1)) = (hg p k).foldl (fun a d => a * 16 + d) (0 * 16 + p / 16 ^ k % 16) := rfl
    rw [h, fold_acc, hg_len, hg_nv p k, Nat.pow_succ, Nat.mod_mul, Nat.zero_mul, Nat.zero_add, Nat.mul_comm, Nat.add_comm]
theorem hex_bl (p : Nat) (hp : p < 18446744073709551616) : fn_pat_Hex 100000 (p : Int) = some (bl ((hg p 16).map ch)) := by
  rw [hex_eq 100000 p hp (by decide), ← hg_ch]; rfl
/-! ### noughts trimmed -/
theorem trim_loop : ∀ (n f : Nat) (ds : List Nat), ds.length = n → n < f → n ≤ 1000 → (∀ d ∈ ds, d < 16) → ∃ es t, l50_0 100000 f (bl (ds.map ch)) 48 = some (bl (es.map ch)) ∧ ds = es ++ List.replicate t 0
  | n, 0, ds, _, h, _, _ => absurd h (Nat.not_lt_zero _)
  | n, f + 1, ds, hn, hf, h1, hd => by
    rcases List.eq_nil_or_concat ds with rfl | ⟨es, d, rfl⟩
    · refine ⟨[], 0, ?_, rfl⟩
      show s50_0 100000 _ _ _ = _
      unfold s50_0
      exact cF (ltI_f (by rw [bl_size]; simp)) rfl
    · rw [List.concat_eq_append] at *
      have hlen : ((bl ((es ++ [d]).map ch)).size : Int) = (es.length + 1 : Nat) := by rw [bl_size, List.length_map, List.length_append]; rfl
      have hs1 : subI .i64 ((es.length + 1 : Nat) : Int) 1 = (es.length : Int) := predI es.length (by simp at hn; omega)
      have hat : sAt (bl ((es ++ [d]).map ch)) (es.length : Int) = (((ch d).toNat : Nat) : Int) := by
        rw [sAt_bl _ es.length (by simp)]
        congr 2
        simp
      have hd16 : d < 16 := hd d (by simp)
      show ∃ es' t, s50_0 100000 (l50_0 100000 f) _ _ = _ ∧ _
      by_cases h0 : d = 0
      · subst h0
        obtain ⟨es', t, i1, i2⟩ := trim_loop es.length f es rfl (by simp at hn; omega) (by simp at hn; omega) (fun x hx => hd x (by simp [hx]))
        refine ⟨es', t + 1, ?_, ?_⟩
        · unfold s50_0
          rw [hlen, hs1, hat]
          refine cT (ltI_t (by omega)) (cT (leI_t (by omega)) (cT (ltI_t (by omega)) (cT rfl ?_)))
          rw [leI_t (show (0 : Int) ≤ (es.length : Int) by omega), leI_t (show (es.length : Int) ≤ ((es.length + 1 : Nat) : Int) by omega), Int.toNat_natCast, show ((0 : Int).toNat) = 0 from rfl, bl_cut, List.drop_zero, ← List.map_take, List.take_left]
          exact i1
        · rw [i2, List.append_assoc]
          congr 1
          rw [List.replicate_succ']
      · refine ⟨es ++ [d], 0, ?_, by simp⟩
        unfold s50_0
        rw [hlen, hs1, hat]
        have hne : ¬ (((ch d).toNat : Nat) : Int) = 48 := by
          rw [ch_nat hd16]; split <;> omega
        exact cT (ltI_t (by omega)) (cT (leI_t (by omega)) (cT (ltI_t (by omega)) (cF (eqI_f hne) rfl)))
theorem trim_R (ds : List Nat) (hl : ds.length ≤ 1000) (hd : ∀ d ∈ ds, d < 16) : ∃ es t, fn_strings_TrimRight 100000 (bl (ds.map ch)) ⟨#[48]⟩ = some (bl (es.map ch)) ∧ ds = es ++ List.replicate t 0 := by
  obtain ⟨es, t, h1, h2⟩ := trim_loop ds.length 100000 ds rfl (by omega) hl hd
  have hb : fn_strings_trimRightByte 100000 (bl (ds.map ch)) 48 = some (bl (es.map ch)) := h1
  unfold fn_strings_TrimRight
  rcases ds with _ | ⟨d, ds⟩
  · exact ⟨[], 0, cT (eqS_bl [] []) rfl, rfl⟩
  · refine ⟨es, t, ?_, h2⟩
    have e1 : eqS (bl ((d :: ds).map ch)) ⟨#[]⟩ = false := by
      have h := eqS_bl ((d :: ds).map ch) []
      exact h
    have e2 : eqS (⟨#[48]⟩ : ByteArray) ⟨#[]⟩ = false := eqS_bl [48] []
    have e3 : sAt (⟨#[48]⟩ : ByteArray) 0 = 48 := by decide +kernel
    rw [e3]
    exact cF e1 (cF e2 (cT rfl (cT rfl (cT rfl (cT rfl (bd hb rfl))))))
/-! ### a pattern's text -/
/-- the text after the sign -/
noncomputable def hexT (N : Nat) (pf lead : ByteArray) (first x0 : Int) : Option ByteArray :=
  (fn_pat_Hex N x0).bind fun r3 =>
   cond (((leI 0 3) && (leI 3 (r3.size : Int))) && (leI (r3.size : Int) (r3.size : Int)))
    ((fn_strings_TrimRight N (r3.extract ((3 : Int).toNat) ((r3.size : Int).toNat)) (⟨#[48]⟩ : ByteArray)).bind fun r4 =>
     cond (!(eqS r4 (⟨#[]⟩ : ByteArray)))
      (cond (fitS ((⟨#[46]⟩ : ByteArray).size + r4.size))
       (cond (fitS ((pf ++ lead).size + ((⟨#[46]⟩ : ByteArray) ++ r4).size))
        (cond (fitS (((pf ++ lead) ++ ((⟨#[46]⟩ : ByteArray) ++ r4)).size + (⟨#[112]⟩ : ByteArray).size))
         ((fn_itoa N first).bind fun r5 =>
          cond (fitS ((((pf ++ lead) ++ ((⟨#[46]⟩ : ByteArray) ++ r4)) ++ (⟨#[112]⟩ : ByteArray)).size + r5.size))
           (some ((((pf ++ lead) ++ ((⟨#[46]⟩ : ByteArray) ++ r4)) ++ (⟨#[112]⟩ : ByteArray)) ++ r5))
           (none))
         (none))
        (none))
       (none))
      (cond (fitS ((pf ++ lead).size + r4.size))
       (cond (fitS (((pf ++ lead) ++ r4).size + (⟨#[112]⟩ : ByteArray).size))
        ((fn_itoa N first).bind fun r6 =>
         cond (fitS ((((pf ++ lead) ++ r4) ++ (⟨#[112]⟩ : ByteArray)).size + r6.size))
          (some ((((pf ++ lead) ++ r4) ++ (⟨#[112]⟩ : ByteArray)) ++ r6))
          (none))
        (none))
       (none)))
    (none)
theorem hexT_eq (pf : List UInt8) (hpf : pf.length ≤ 10) (lead : UInt8) (first : Int) (f0 : -100000 ≤ first) (f1 : first ≤ 100000) (p : Nat) (hp : p < 18446744073709551616) : ∃ es t, hg p 13 = es ++ List.replicate t 0 ∧ hexT 100000 (bl pf) (bl [lead]) first (p : Int) = some (bl (pf ++ (lead :: ((if es = [] then [] else 46 :: es.map ch) ++ 112 :: Lib.itoa first)))) := by
  obtain ⟨es, t, h1, h2⟩ := trim_R (hg p 13) (by rw [hg_len]; decide) (hg_lt p 13)
  refine ⟨es, t, h2, ?_⟩
  have hes : es.length ≤ 13 := by
    have := congrArg List.length h2
    rw [hg_len, List.length_append] at this
    omega
  have hit : (Lib.itoa first).length ≤ 9 := itoa_len first (by omega) (by omega)
  have hito : fn_itoa 100000 first = some (bl (Lib.itoa first)) := by
    unfold fn_itoa
    refine cT ?_ rfl
    rw [leI_t (by omega), leI_t (by omega)]; rfl
  have hsz : ((bl ((hg p 16).map ch)).size : Int) = 16 := by rw [bl_size, List.length_map, hg_len]; rfl
  have hcut : (bl ((hg p 16).map ch)).extract ((3 : Int).toNat) ((16 : Int).toNat) = bl ((hg p 13).map ch) := by
    have h : (bl ((hg p 16).map ch)).extract 3 16 = bl (((((hg p 16).map ch)).take 16).drop 3) := bl_cut _ 3 16
    rw [List.take_of_length_le (by rw [List.length_map, hg_len]; decide), ← List.map_drop] at h
    exact h
  unfold hexT
  refine bd (hex_bl p hp) ?_
  rw [hsz, hcut]
  refine cT rfl (bd h1 ?_)
  rw [show (⟨#[46]⟩ : ByteArray) = bl [46] from rfl, show (⟨#[112]⟩ : ByteArray) = bl [112] from rfl, show (⟨#[]⟩ : ByteArray) = bl [] from rfl, eqS_bl]
  simp only [bl_app, bl_size, hito]
  by_cases he : es = []
  · subst he
    refine cF rfl (cT ?_ (cT ?_ (bd rfl (cT ?_ ?_))))
    · exact fitS_iff.2 (by simp [bl_size]; omega)
    · exact fitS_iff.2 (by simp [bl_size]; omega)
    · exact fitS_iff.2 (by simp [bl_size]; omega)
    · rw [bl_app]; refine congrArg some (congrArg bl ?_); simp
  · have hne : (es.map ch == []) = false := by
      rw [beq_eq_false_iff_ne]; intro h; exact he (List.map_eq_nil_iff.1 h)
    rw [hne]
    refine cT rfl (cT ?_ (cT ?_ (cT ?_ (bd rfl (cT ?_ ?_)))))
    · exact fitS_iff.2 (by simp [bl_size]; omega)
    · exact fitS_iff.2 (by simp [bl_size]; omega)
    · exact fitS_iff.2 (by simp [bl_size]; omega)
    · exact fitS_iff.2 (by simp [bl_size]; omega)
    · rw [if_neg he, bl_app]; refine congrArg some (congrArg bl ?_); simp
theorem hex_F {a : Int} (ha : okF a) (hz : 0 < sz a) : ∃ es t, hg a.toNat 13 = es ++ List.replicate t 0 ∧ fn_show_Hex 100000 a = some (bl (cond (mn a) [45] [] ++ (48 :: 120 :: ch (if eN a = 0 then 0 else 1) :: ((if es = [] then [] else 46 :: es.map ch) ++ 112 :: Lib.itoa (expR a + 52))))) := by
  obtain ⟨⟨h0, h1⟩, h2⟩ := ha
  have hne : eN a ≠ 2047 := by unfold eN; unfold sz at h2; omega
  have ha : okF a := ⟨⟨h0, h1⟩, h2⟩
  have hp : a = ((a.toNat : Nat) : Int) := by omega
  have he : -1074 ≤ expR a ∧ expR a ≤ 971 := by
    unfold expR; rw [if_neg hne]; split
    · omega
    · have : 0 ≤ eN a ∧ eN a < 2048 := by unfold eN; omega
      omega
  have hadd : addI .i64 (expR a) 52 = expR a + 52 := addI_i (by omega) (by omega)
  have main : ∀ (mi : Bool), mn a = mi → ∃ es t, hg a.toNat 13 = es ++ List.replicate t 0 ∧ fn_show_Hex 100000 a = some (bl (cond mi [45] [] ++ (48 :: 120 :: ch (if eN a = 0 then 0 else 1) :: ((if es = [] then [] else 46 :: es.map ch) ++ 112 :: Lib.itoa (expR a + 52))))) := by
    intro mi hmi
    have hmi' : decide (9223372036854775808 ≤ a) = mi := hmi
    have tk := takeP_eq 100000 a h0 h1
    rw [hmi'] at tk
    by_cases hE : eN a = 0
    · have hc1 : eqI (clsR a) 1 = true := by
        refine eqI_t ?_
        unfold clsR
        rw [if_neg hne, if_pos hE]
        have : 0 < fN a := by unfold sz at hz; unfold eN at hE; unfold fN; omega
        rw [if_pos this]
      have hx : expR a + 52 = -1022 := by unfold expR; rw [if_neg hne, if_pos hE]; rfl
      rw [if_pos hE, hx]
      cases mi
      · obtain ⟨es, t, i1, i2⟩ := hexT_eq [48, 120] (by decide) 48 (-1022) (by decide) (by decide) a.toNat (by omega)
        rw [← hp] at i2
        refine ⟨es, t, i1, ?_⟩
        unfold fn_show_Hex
        exact bd (special_F ha) (cF rfl (bd tk (cF rfl (cF (cls_zero ha hz) (cT hc1 i2)))))
      · obtain ⟨es, t, i1, i2⟩ := hexT_eq [45, 48, 120] (by decide) 48 (-1022) (by decide) (by decide) a.toNat (by omega)
        rw [← hp] at i2
        refine ⟨es, t, i1, ?_⟩
        unfold fn_show_Hex
        exact bd (special_F ha) (cF rfl (bd tk (cT rfl (cF (cls_zero ha hz) (cT hc1 i2)))))
    · have hc1 : eqI (clsR a) 1 = false := by
        refine eqI_f ?_
        unfold clsR
        rw [if_neg hne, if_neg hE]; decide
      rw [if_neg hE]
      cases mi
      · obtain ⟨es, t, i1, i2⟩ := hexT_eq [48, 120] (by decide) 49 (expR a + 52) (by omega) (by omega) a.toNat (by omega)
        rw [← hp, ← hadd] at i2
        refine ⟨es, t, i1, ?_⟩
        rw [← hadd]
        unfold fn_show_Hex
        exact bd (special_F ha) (cF rfl (bd tk (cF rfl (cF (cls_zero ha hz) (cF hc1 i2)))))
      · obtain ⟨es, t, i1, i2⟩ := hexT_eq [45, 48, 120] (by decide) 49 (expR a + 52) (by omega) (by omega) a.toNat (by omega)
        rw [← hp, ← hadd] at i2
        refine ⟨es, t, i1, ?_⟩
        rw [← hadd]
        unfold fn_show_Hex
        exact bd (special_F ha) (cF rfl (bd tk (cT rfl (cF (cls_zero ha hz) (cF hc1 i2)))))
  exact main _ rfl
end Go.Proofs.YtcdhcihjcjpmkaaGreatDoor.Shw
/- PLAIN FACTS on chapters 13 and 14: what Hex tells is read again by every mode, without flags; noughts, endless ones, and what is no number. No statement is proved here. -/
namespace Go.Proofs.YtcdhcihjcjpmkaaGreatDoor.Shw
open Go Eng Fns Bw Dig Nt Num Slc
open Go.Proofs.YtcdhcihjcjpmkaaGreatDoor.Wid (lenN lenN_le)
open Go.Proofs.YtcdhcihjcjpmkaaGreatDoor.Patp
open Go.Proofs.YtcdhcihjcjpmkaaGreatDoor.Top (sg okP okF mn sz okF_nan okF_cls P VN P_pos P_add sig_val VN_mono round_same round_zero)
set_option linter.unusedVariables false
set_option linter.unusedSimpArgs false
theorem rounded_same (D : List Int) (hD : ∀ d ∈ D, 0 ≤ d ∧ d < 16) (hl : D.length ≤ 800) (pl pw : Int) (h0 : -10000 ≤ pl) (h1 : pl ≤ 10000) (h2 : -10000 ≤ pw) (h3 : pw ≤ 10000) (hv : dv 16 D < 2 ^ 224) (hv0 : 0 < dv 16 D) (mi : Bool) (m : Int) (K : Nat) (hK : K = 100000) (b : Nat) (hb : b < 9218868437227405312) (hx : VN K b = dv 16 D * P K (4 * pl + pw)) :
    fn_read_rounded 100000 (D, pl, pw, false) 16 mi m = some (sg mi + (b : Int), 0, none) := by
  have hne : D.length ≠ 0 := by
    intro h
    rw [List.length_eq_zero_iff.1 h] at hv0
    have : dv 16 [] = 0 := rfl
    omega
  have hten : ∃ E s mo', fn_read_number_ten 100000 (D, pl, pw, false) = some ((false, E, W s, mo'), none) := by
    by_cases g1 : 400 < pl + pw + (D.length : Int)
    · exact ⟨_, _, _, ten_hi D pl pw false (by omega) (by omega) (by omega) (by omega) (by omega) g1⟩
    · by_cases g0 : pl + pw + (D.length : Int) < -400
      · exact ⟨_, _, _, ten_lo D pl pw false (by omega) (by omega) (by omega) (by omega) (by omega) g0⟩
      · obtain ⟨E, s, mo', e, _⟩ := ten_mid D hD hl pl pw false (by omega) (by omega) (by omega) (by omega) (by omega) (by omega)
        exact ⟨E, s, mo', e⟩
  obtain ⟨E, s, mo', e⟩ := hten
  obtain ⟨d, s6, mo6, e6, x1, x2, x3⟩ := sixteen_R D hD hl pl pw false (by omega) (by omega) (by omega) (by omega)
  obtain ⟨y1, y2, y3⟩ := x3 hv
  subst y1; subst y3
  obtain ⟨k, _, ek, hk, k0⟩ := enough_R false false (4 * pl + pw + ((0 : Nat) : Int)) s6 x2 (by omega) (by omega)
  have hk0 := k0 rfl
  subst hk0
  rw [Nat.pow_zero, Nat.mul_one, show 4 * pl + pw + ((0 : Nat) : Int) = 4 * pl + pw by omega, show 4 * pl + pw - ((0 : Nat) : Int) = 4 * pl + pw by omega] at ek
  rw [show 4 * pl + pw + ((0 : Nat) : Int) = 4 * pl + pw by omega] at e6
  have hlt : VN K b < P K 1024 := by rw [← VN_top]; exact VN_mono K (by omega) hb
  rw [hx, ← y2] at hlt
  have hT := len_top K (by omega) s6 (4 * pl + pw) (by omega) (by omega) hlt
  have hr := round_same 100000 (by decide) mi (4 * pl + pw) s6 m K (by omega) (by omega) (by omega) (by omega) (by omega) (by omega) hT b hb (by rw [hx, y2])
  unfold fn_read_rounded
  simp only
  exact cF (eqI_f (by omega)) (bd e (cT rfl (bd e6 (cF rfl (bd ek (bd hr rfl))))))
theorem fold_zero (b : Nat) : ∀ (t v : Nat), (List.replicate t 0).foldl (fun a d => a * b + d) v = v * b ^ t
  | 0, v => by simp
  | t + 1, v => by
    rw [List.replicate_succ, List.foldl_cons, fold_zero b t, Nat.pow_succ, Nat.add_zero, Nat.mul_assoc, Nat.mul_comm b]
theorem nv_zero (b t : Nat) (ds : List Nat) : nv b (ds ++ List.replicate t 0) = nv b ds * b ^ t := by
  unfold nv; rw [List.foldl_append, fold_zero]
theorem nv_cons (b x : Nat) (ds : List Nat) : nv b (x :: ds) = x * b ^ ds.length + nv b ds := by
  have h : nv b (x :: ds) = ds.foldl (fun a d => a * b + d) (0 * b + x) := rfl
  rw [h, fold_acc, Nat.zero_mul, Nat.zero_add]
/-- Hex's text is read as the pattern by every mode, without flags -/
theorem hex_read {a : Int} (ha : okF a) (hz : 0 < sz a) (m : Int) : ∃ t, fn_show_Hex 100000 a = some t ∧ fn_read_Parse 100000 t m = some (a, 0, none) := by
  obtain ⟨es, t, hes, hshow⟩ := hex_F ha hz
  refine ⟨_, hshow, ?_⟩
  obtain ⟨K, hK⟩ : ∃ K, K = 100000 := ⟨_, rfl⟩
  obtain ⟨sig, s1, s2, s3, e0, e1, _⟩ := sig_val K ha.1 ha.2
  have hne : eN a ≠ 2047 := by
    obtain ⟨⟨h0, h1⟩, h2⟩ := ha
    unfold eN; unfold sz at h2; omega
  obtain ⟨ld, hld⟩ : ∃ ld, ld = (if eN a = 0 then 0 else 1) := ⟨_, rfl⟩
  rw [← hld]
  have hld2 : ld < 2 := by rw [hld]; split <;> omega
  have hlen13 : es.length + t = 13 := by
    have := congrArg List.length hes
    rw [hg_len, List.length_append, List.length_replicate] at this
    omega
  have hes16 : ∀ d ∈ es, d < 16 := fun d hd => hg_lt a.toNat 13 d (by rw [hes]; exact List.mem_append_left _ hd)
  have hsig : nv 16 (ld :: es) * 16 ^ t = sig := by
    have h1 : nv 16 (ld :: es) * 16 ^ t = nv 16 (ld :: hg a.toNat 13) := by
      rw [hes, ← List.cons_append, nv_zero]
    rw [h1, nv_cons, hg_len, hg_nv]
    have hf : fN a = ((a.toNat % 16 ^ 13 : Nat) : Int) := by
      obtain ⟨⟨h0, h1⟩, h2⟩ := ha
      unfold fN
      have h3 : (16 : Nat) ^ 13 = 4503599627370496 := by decide
      rw [h3]
      omega
    unfold sigR at s1
    rw [if_neg hne] at s1
    rw [hld]
    generalize a.toNat % 16 ^ 13 = z at *
    rw [show (16 : Nat) ^ 13 = 4503599627370496 by decide]
    by_cases hE : eN a = 0
    · rw [if_pos hE] at s1 ⊢
      rw [Nat.zero_mul, Nat.zero_add]; omega
    · rw [if_neg hE] at s1 ⊢
      rw [Nat.one_mul, Nat.add_comm]; omega
  have hsigpos : 0 < sig := by
    rcases Nat.eq_zero_or_pos sig with h | h
    · rw [h, Nat.zero_mul] at s3
      have := VN_pos (K := K) (b := sz a) (by omega) hz
      omega
    · exact h
  have h46 : ∀ d ∈ es, dval (ch d).toNat 16 = some d := fun d hd => ch_hex (hes16 d hd)
  obtain ⟨D, d1, d2, d3, d4⟩ := scan_num 16 16 112 true [ld] es (if es = [] then [] else 46 :: es.map ch) (expR a + 52)
    (fun d hd => ch_hex (by simp at hd; omega)) h46 (by simp) (by simp; omega)
    (by
      by_cases h : es = []
      · left; exact ⟨if_pos h, h⟩
      · right; exact if_neg h) (by decide) (by decide) (by decide) (by omega) (by omega)
  rw [List.singleton_append] at d2
  have hv : dv 16 D ≤ sig := by
    rw [d2, ← hsig]
    exact Nat.le_mul_of_pos_right _ (Nat.pow_pos (by decide))
  have hv0 : 0 < dv 16 D := by
    rcases Nat.eq_zero_or_pos (dv 16 D) with h | h
    · rw [← d2, h, Nat.zero_mul] at hsig; omega
    · exact h
  have hval : VN K (sz a) = dv 16 D * P K (4 * -(es.length : Int) + (expR a + 52)) := by
    have h1 := P_add K (E := expR a) (4 * t) (by omega)
    rw [show 4 * -(es.length : Int) + (expR a + 52) = expR a + ((4 * t : Nat) : Int) by omega, h1, s3, ← hsig, d2, show (16 : Nat) ^ t = 2 ^ (4 * t) by rw [Nat.pow_mul]]
    ac_rfl
  have hr := rounded_same D d4 (by simp only [List.length_singleton] at d3; omega) (-(es.length : Int)) (expR a + 52) (by omega) (by omega) (by omega) (by omega) (by omega) hv0 (mn a) m K hK (sz a) ha.2 hval
  rw [sg_sz ha] at hr
  have hit : (Lib.itoa (expR a + 52)).length ≤ 9 := itoa_len _ (by omega) (by omega)
  rw [parse_sign (mn a) 48 _ (by decide) (by decide) (by by_cases h : es = [] <;> simp [h] <;> omega)]
  exact inner_hex (mn a) _ m D _ _ false d1 _ hr
/-! ### noughts -/
theorem sg_zero {a : Int} (ha : okF a) (hz : sz a = 0) : a = sg (mn a) := by
  have := sg_sz ha
  rw [hz] at this
  omega
theorem zero_cls {a : Int} (ha : okF a) (hz : sz a = 0) : eqI (clsR a) 0 = true := by
  obtain ⟨⟨h0, h1⟩, h2⟩ := ha
  unfold sz at hz
  have h3 : eN a = 0 := by unfold eN; omega
  have h4 : fN a = 0 := by unfold fN; omega
  unfold clsR
  rw [if_neg (by omega), if_pos h3, if_neg (by omega)]; rfl
theorem rounded_nil (base : Int) (mi : Bool) (m : Int) : fn_read_rounded 100000 ([], 0, 0, false) base mi m = some (sg mi, 0, none) := by
  unfold fn_read_rounded
  have h : fn_rnd_Round 100000 (mi, 0, Vec.zero 4, false) m = some (sg mi, 0) := by
    rw [W_zero]; exact round_zero 100000 mi 0 m
  exact cT rfl (bd h rfl)
theorem itoa_zero : Lib.itoa 0 = [48] := by
  unfold Lib.itoa
  rw [if_neg (by decide), Lib.decDigits, dif_pos (by decide)]; rfl
theorem nought_ten : fn_scan 100000 (bl (48 :: [101, 48])) 10 ⟨#[101]⟩ false = some (([], 0, 0, false), true) := by
  have h := scan_bl [48, 101, 48] (by decide) 10 101 false
  have hw := whole_itoa 0 (by decide) (by decide)
  rw [itoa_zero] at hw
  refine h.trans (cF rfl (cT rfl ?_))
  refine bd hw ?_
  simp only
  rw [show eqS (bl []) ⟨#[]⟩ = true from eqS_bl [] []]; rfl
theorem nought_six : fn_scan 100000 (bl [48, 112, 48]) 16 ⟨#[112]⟩ true = some (([], 0, 0, false), true) := by
  have h := scan_bl [48, 112, 48] (by decide) 16 112 true
  have hw := whole_itoa 0 (by decide) (by decide)
  rw [itoa_zero] at hw
  refine h.trans (cF rfl (cT rfl ?_))
  refine bd hw ?_
  simp only
  rw [show eqS (bl []) ⟨#[]⟩ = true from eqS_bl [] []]; rfl
theorem short_zero {a : Int} (ha : okF a) (hz : sz a = 0) : ∃ t G, fn_show_Short 100000 a = some t ∧ fn_read_Parse 100000 t 0 = some (a, G, none) := by
  have htx : textL ⟨#[48]⟩ 0 (mn a) = cond (mn a) [45] [] ++ 48 :: [101, 48] := by
    unfold textL
    rw [itoa_zero]
    rfl
  refine ⟨bl (cond (mn a) [45] [] ++ 48 :: [101, 48]), 0, ?_, ?_⟩
  · unfold fn_show_Short t6
    refine bd (special_F ha) (cF rfl (bd (takeP_eq 100000 a ha.1.1 ha.1.2) (cT (zero_cls ha hz) ?_)))
    refine bd (v := bl (cond (mn a) [45] [] ++ 48 :: [101, 48])) ?_ rfl
    show fn_text 100000 ⟨#[48]⟩ 0 (mn a) = _
    unfold fn_text
    refine cT rfl ?_
    rw [htx]; rfl
  · rw [parse_sign (mn a) 48 _ (by decide) (by decide) (by decide)]
    have h := inner_dec (mn a) 48 [101, 48] 0 (by decide) (by decide) (by decide) [] 0 0 false nought_ten _ (rounded_nil 10 (mn a) 0)
    rw [← sg_zero ha hz] at h
    exact h
theorem hex_zero {a : Int} (ha : okF a) (hz : sz a = 0) (m : Int) : ∃ t, fn_show_Hex 100000 a = some t ∧ fn_read_Parse 100000 t m = some (a, 0, none) := by
  refine ⟨bl (cond (mn a) [45] [] ++ 48 :: [120, 48, 112, 48]), ?_, ?_⟩
  · unfold fn_show_Hex
    refine bd (special_F ha) (cF rfl (bd (takeP_eq 100000 a ha.1.1 ha.1.2) ?_))
    have h : decide (9223372036854775808 ≤ a) = mn a := rfl
    simp only
    rw [h]
    cases mn a
    · exact cF rfl (cT (zero_cls ha hz) rfl)
    · exact cT rfl (cT (zero_cls ha hz) rfl)
  · rw [parse_sign (mn a) 48 _ (by decide) (by decide) (by decide)]
    have h := inner_hex (mn a) [48, 112, 48] m [] 0 0 false nought_six _ (rounded_nil 16 (mn a) m)
    rw [← sg_zero ha hz] at h
    exact h
end Go.Proofs.YtcdhcihjcjpmkaaGreatDoor.Shw
