/- PLAIN FACTS on chapter 15: the law's own numbers of four words, the program's product of fractions. No statement is proved here. -/
import Derived.Test.YtoconobigciggaaRn3
import Derived.Test.YtoconobigciggaaWide
namespace Go.Proofs.Ytoconobigciggaa.Fixp
open Go Go.RowKit Go.Proofs.Ytoconobigciggaa.Eng Go.Proofs.Ytoconobigciggaa.Fns Go.Proofs.Ytoconobigciggaa.Bw Go.Proofs.Ytoconobigciggaa.Dig Go.Proofs.Ytoconobigciggaa.Rn Go.Proofs.Ytoconobigciggaa.Wid
set_option linter.unusedVariables false
set_option linter.unusedSimpArgs false
theorem of_loop (N x : Nat) (hN : 300 ≤ N) (hx : x < 2 ^ 256) : ∀ (r i f : Nat), i + r = 4 → r < f → l9_0 N f (i : Int) (W x) (T 4294967296 (2 * i) x) = some (X x) := by
  intro r
  induction r with
  | zero =>
    intro i f hi hf
    obtain ⟨f, rfl⟩ : ∃ n', f = n' + 1 := ⟨f - 1, by omega⟩
    show s9_0 N _ _ _ _ = _
    unfold s9_0
    rw [ltI_f (by omega), cond_false, from_eq N _ x (by omega) (by omega), Option.bind_some, show i = 4 by omega, Nat.mod_eq_of_lt]
    simpa using hx
  | succ r ih =>
    intro i f hi hf
    obtain ⟨f, rfl⟩ : ∃ n', f = n' + 1 := ⟨f - 1, by omega⟩
    show s9_0 N (l9_0 N f) _ _ _ = _
    unfold s9_0
    rw [ltI_t (by omega), cond_true, leI_t (by omega), cond_true, cond_true, cond_true, cond_true, T_len, fit_t (by simp; omega), cond_true, succI i (by omega), rd_W (by omega)]
    have e1 : cvI .u32 (remI .u64 ((x / 2 ^ (64 * i) % 2 ^ 64 : Nat) : Int) 4294967296) = ((x / 4294967296 ^ (2 * i) % 4294967296 : Nat) : Int) := by
      rw [show remI .u64 ((x / 2 ^ (64 * i) % 2 ^ 64 : Nat) : Int) 4294967296 = ((x / 2 ^ (64 * i) % 2 ^ 64 % 4294967296 : Nat) : Int) from rfl, cvN (by simp only [lim]; omega)]
      rw [show 4294967296 ^ (2 * i) = 2 ^ (64 * i) by rw [show 4294967296 = 2 ^ 32 from rfl, ← Nat.pow_mul]; congr 1; omega]
      congr 1; omega
    have e2 : cvI .u32 (quoI .u64 ((x / 2 ^ (64 * i) % 2 ^ 64 : Nat) : Int) 4294967296) = ((x / 4294967296 ^ (2 * i + 1) % 4294967296 : Nat) : Int) := by
      have : quoI .u64 ((x / 2 ^ (64 * i) % 2 ^ 64 : Nat) : Int) 4294967296 = ((x / 2 ^ (64 * i) % 2 ^ 64 / 4294967296 : Nat) : Int) := quoN (by simp only [lim]; omega)
      rw [this, cvN (by simp only [lim]; omega), show 4294967296 ^ (2 * i + 1) = 4294967296 ^ (2 * i) * 4294967296 from Nat.pow_succ .., ← Nat.div_div_eq_div_mul]
      rw [show 4294967296 ^ (2 * i) = 2 ^ (64 * i) by rw [show 4294967296 = 2 ^ 32 from rfl, ← Nat.pow_mul]; congr 1; omega]
      congr 1; omega
    have e3 : T 4294967296 (2 * i) x ++ [((x / 4294967296 ^ (2 * i) % 4294967296 : Nat) : Int), ((x / 4294967296 ^ (2 * i + 1) % 4294967296 : Nat) : Int)] = T 4294967296 (2 * (i + 1)) x := by
      rw [show 2 * (i + 1) = 2 * i + 1 + 1 by omega, T_succ, T_succ, List.append_assoc]; rfl
    rw [e1, e2, e3]
    exact ih (i + 1) f (by omega) (by omega)
theorem of_eq (N x : Nat) (hN : 300 ≤ N) (hx : x < 2 ^ 256) : fn_tillerlaw15_of N (W x) = some (X x) := of_loop N x hN hx 4 0 N (by omega) (by omega)
theorem dlX {n k : Nat} (h : n < 2 ^ (16 * k)) : dl 65536 n ≤ k := dl_le b16 (by rw [Nat.pow_mul] at h; exact h)
theorem fixMul_eq (N x y : Nat) (hN : 300 ≤ N) (hx : x < 2 ^ 256) (hy : y < 2 ^ 256) : fn_fix_Mul N (W x) (W y) = some (W (x * y / 2 ^ 248 % 2 ^ 256), decide (2 ^ 248 ≤ x * y / 2 ^ 256)) := by
  unfold fn_fix_Mul
  have hp : x * y < 2 ^ 256 * 2 ^ 256 := Nat.mul_lt_mul'' hx hy
  have hl : x * y % 2 ^ 256 < 2 ^ 256 := Nat.mod_lt _ (by decide)
  have ht : x * y / 2 ^ 256 < 2 ^ 256 := Nat.div_lt_of_lt_mul hp
  have hl2 : x * y % 2 ^ 256 / 2 ^ 248 < 2 ^ 256 := Nat.lt_of_le_of_lt (Nat.div_le_self _ _) hl
  rw [Wid.mul_eq N hN x y hx hy, Option.bind_some]
  simp only
  rw [Wid.shr_eq N hN _ hl 248, Option.bind_some, Wid.shl_eq N hN _ 8, Option.bind_some]
  simp only
  have e1 : shrZ (x * y % 2 ^ 256) 248 = x * y % 2 ^ 256 / 2 ^ 248 := rfl
  have e2 : shlZ (x * y / 2 ^ 256) 8 = x * y / 2 ^ 256 * 2 ^ 8 % 2 ^ 256 := rfl
  rw [e1, e2, Wid.add_eq N hN _ _ (Nat.mod_lt _ (by decide)) hl2, Option.bind_some, Wid.len_eq N hN _ ht, Option.bind_some]
  obtain ⟨l1, l2⟩ := lenN_spec (x * y / 2 ^ 256)
  have e3 : (x * y / 2 ^ 256 * 2 ^ 8 % 2 ^ 256 + x * y % 2 ^ 256 / 2 ^ 248) % 2 ^ 256 = x * y / 2 ^ 248 % 2 ^ 256 := by
    clear hp ht hl hl2 e1 e2 l1 l2
    generalize x * y = z
    omega
  have e4 : ltI 248 (lenN (x * y / 2 ^ 256) : Int) = decide (2 ^ 248 ≤ x * y / 2 ^ 256) := by
    generalize x * y / 2 ^ 256 = t at *
    rw [ltI_eq, decide_eq_decide]
    by_cases h : 248 < lenN t
    · have h3 : 2 ^ 248 ≤ 2 ^ (lenN t - 1) := Nat.pow_le_pow_right (by decide) (by omega)
      have h4 : 2 ^ (lenN t - 1) ≤ t := l2.resolve_left (by omega)
      exact ⟨fun _ => Nat.le_trans h3 h4, fun _ => by omega⟩
    · have h3 : 2 ^ lenN t ≤ 2 ^ 248 := Nat.pow_le_pow_right (by decide) (by omega)
      exact ⟨fun h5 => absurd h5 (by omega), fun h5 => absurd (Nat.lt_of_lt_of_le l1 h3) (Nat.not_lt.2 h5)⟩
  rw [e3, e4]
end Go.Proofs.Ytoconobigciggaa.Fixp
