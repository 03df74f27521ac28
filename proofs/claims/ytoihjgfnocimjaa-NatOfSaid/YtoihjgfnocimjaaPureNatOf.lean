/- PROVED HERE: NatOf's pure statement, over the functions that eng2.py printed: a small number has its bits; twice itself is it moved up by one; less itself nothing. No condition beyond the argument's kind. -/
import Derived.Test.YtoihjgfnocimjaaNat2
import Derived.Test.YtoihjgfnocimjaaFnNatOf
namespace Go.Proofs.Ytoihjgfnocimjaa
open Go Eng Fns Bw Dig Nt
open Rn (Y b32)
set_option linter.unusedSimpArgs false
theorem sure_eq : fn_tillerlaw02_sure 100000 = some true := by kernel_rfl
theorem bits_loop (N : Nat) (v0 v1 : List Int) (v2 : Option Int) (v3 : List Int) (v4 : Option Int) (v5 : List Int) (v6 : Option Int) (v7 : List Int) (v8 : Option Int) (r : Option Bool) (K : Nat) (hK : K < 4611686018427387904)
    (h : ∀ f, 0 < f → l3_0 N f v0 v1 v2 v3 v4 v5 v6 v7 v8 (K : Int) 0 = r) :
    ∀ (x f c : Nat), x < 18446744073709551616 → c + dl 2 x = K → dl 2 x < f → l3_0 N f v0 v1 v2 v3 v4 v5 v6 v7 v8 (c : Int) (x : Int) = r := by
  intro x
  induction x using Nat.strongRecOn with
  | ind x ih =>
    intro f c hx hc hf
    by_cases h0 : x = 0
    · subst h0
      rw [dl_zero] at hc hf
      have : c = K := by omega
      subst this
      exact h f hf
    · obtain ⟨f, rfl⟩ : ∃ n', f = n' + 1 := ⟨f - 1, by omega⟩
      show s3_0 N (l3_0 N f) _ _ _ _ _ _ _ _ _ _ _ = _
      unfold s3_0
      have hd := dl_pos b2 (Nat.pos_of_ne_zero h0)
      have e : quoI .u64 (x : Int) 2 = ((x / 2 : Nat) : Int) := quoN (by simp only [lim]; omega)
      rw [ltI_t (by omega), cond_true, succI c (by omega), e]
      exact ih (x / 2) (by omega) f (c + 1) (by omega) (by omega) (by omega)
theorem pure_NatOf : ∀ (a0 : Int), okN .u64 a0 → ∃ N, fn_tillerlaw02_NatOf N a0 = some true := by
  intro a ha
  have ha := u64_in ha
  obtain ⟨n, rfl⟩ := Int.eq_ofNat_of_zero_le ha.1
  have hn : n < 18446744073709551616 := by omega
  refine ⟨100000, ?_⟩
  have d1 : dl 4294967296 n ≤ 2 := dl_le b32 (by omega)
  have d2 : dl 4294967296 (n + n) ≤ 3 := dl_le b32 (by omega)
  have h2 : n * 2 ^ 1 = n + n := by omega
  have d3 : dl 2 n ≤ 64 := dl_le b2 hn
  unfold fn_tillerlaw02_NatOf t3
  have hs := shl_eq 100000 n 1 (by omega) (by omega) (by omega)
  rw [h2, if_neg (show ¬ 262144 < 1 by omega), bnd32, if_pos (show dl 4294967296 (n + n) ≤ 8192 by omega)] at hs
  have hs2 : fn_nat_Shl 100000 (Y n) 1 = some (Y (n + n), none) := by
    rw [show (1 : Int) = ((1 : Nat) : Int) from rfl, hs]
    by_cases h0 : n = 0
    · subst h0; rw [if_pos rfl, Y, D_nil]
    · rw [if_neg h0]
  rw [of_eq 100000 n (by omega) hn, Option.bind_some, add_eq 100000 n n (by omega) (by omega) (by omega) (by omega), Option.bind_some, bnd32, if_pos (show dl 4294967296 (n + n) ≤ 8192 by omega), hs2, Option.bind_some,
    sub_eq 100000 (n + n) n (by omega) (by omega) (by omega) (by omega), Option.bind_some, if_neg (show ¬ n + n < n by omega), sub_eq 100000 n n (by omega) (by omega) (by omega) (by omega), Option.bind_some, if_neg (show ¬ n < n by omega),
    Nat.add_sub_cancel, Nat.sub_self]
  refine bits_loop 100000 _ _ _ _ _ _ _ _ _ _ (dl 2 n) (by omega) (fun f hf => ?_) n 100000 0 hn (by omega) (by omega)
  obtain ⟨f, rfl⟩ : ∃ n', f = n' + 1 := ⟨f - 1, by omega⟩
  show s3_0 100000 _ _ _ _ _ _ _ _ _ _ _ _ = _
  unfold s3_0
  rw [ltI_f (by omega), cond_false]
  simp only [isNoneI, cond_true]
  rw [len_eq 100000 n (by omega), Option.bind_some, eqI_t rfl, cond_true, words_Y 100000 _ _ (by omega) (by omega), Option.bind_some, decide_eq_true rfl, cond_true, words_Y 100000 _ _ (by omega) (by omega), Option.bind_some, decide_eq_true rfl, cond_true,
    D_len, dl_zero, eqI_t (by omega), cond_true, is_Y 100000 n (by omega), Option.bind_some, cond_true, sure_eq]
  rfl
end Go.Proofs.Ytoihjgfnocimjaa
