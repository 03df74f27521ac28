/- PROVED HERE: NatQuotients' pure statement, over the functions that eng2.py printed: the quotient and the rest of any two numbers. No condition beyond the arguments' kinds. -/
import Derived.Test.YtoihjgfnocimjaaNat6
import Derived.Test.YtoihjgfnocimjaaNat3
import Derived.Test.YtoihjgfnocimjaaRn5
import Derived.Test.YtoihjgfnocimjaaFnNatQuotients
namespace Go.Proofs.Ytoihjgfnocimjaa
open Go Eng Fns Bw Dig Nt Slc
open Rn (X Y b32 b16 cmpZ)
set_option linter.unusedSimpArgs false
theorem sure_eq : fn_tillerlaw02_sure 100000 = some true := by kernel_rfl
theorem bnd {α β : Type} {x : Option α} {a : α} {f : α → Option β} {r : Option β} (h : x = some a) (h2 : f a = r) : x.bind f = r := by rw [h, Option.bind_some]; exact h2
theorem cnT {β : Type} {b : Bool} {x y r : β} (h : b = true) (h2 : x = r) : cond b x y = r := by rw [h]; exact h2
theorem cnF {β : Type} {b : Bool} {x y r : β} (h : b = false) (h2 : y = r) : cond b x y = r := by rw [h]; exact h2
theorem main_ok (m n : Nat) (hn : 0 < n) (hm : dl 4294967296 m ≤ 20) (hnn : dl 4294967296 n ≤ 20) : fn_tillerlaw02_NatQuotients 100000 (Y m) (Y n) = some true := by
  have m1 := dl_16_le m
  have n1 := dl_16_le n
  have hn1 : 0 < dl 4294967296 n := ((dl_spec b32 n).2 hn).2
  have hdq : dl 4294967296 (m / n) ≤ 20 := dl_le b32 (Nat.lt_of_lt_of_le (Nat.lt_of_le_of_lt (Nat.div_le_self m n) (dl_lt b32 m)) (Nat.pow_le_pow_right (by decide) hm))
  have hdr : dl 4294967296 (m % n) ≤ 20 := dl_le b32 (Nat.lt_of_lt_of_le (Nat.lt_of_le_of_lt (Nat.mod_le m n) (dl_lt b32 m)) (Nat.pow_le_pow_right (by decide) hm))
  have q1 := dl_16_le (m / n)
  have r1 := dl_16_le (m % n)
  have k1 := divmod_eq 100000 m n hn (by omega) (by omega) (by omega) (by omega)
  have k2 := Rn.from_Y 100000 m (by omega) (by omega)
  have k3 := Rn.from_Y 100000 n (by omega) (by omega)
  have k4 := Rn.parts_eq 100000 m n hn (by omega) (by omega) (by omega) (by omega)
  have k5 := Words_eq 100000 (m / n) (by omega) (by omega)
  have k6 := Words_eq 100000 (m % n) (by omega) (by omega)
  have k7 := words_Y 100000 (m / n) (m / n) (by omega) (by omega)
  have k8 := words_Y 100000 (m % n) (m % n) (by omega) (by omega)
  rw [decide_eq_true rfl] at k7 k8
  have l1 : ltI 20 ((Y m).length : Int) = false := by rw [D_len]; exact ltI_f (by omega)
  have l2 : ltI 20 ((Y n).length : Int) = false := by rw [D_len]; exact ltI_f (by omega)
  have l3 : eqI ((Y n).length : Int) 0 = false := by rw [D_len]; exact eqI_f (by omega)
  have i1 := is_Y 100000 m (by omega)
  have i2 := is_Y 100000 n (by omega)
  unfold fn_tillerlaw02_NatQuotients
  exact cnF l1 (cnF l2 (bnd i1 (cnF rfl (bnd i2 (cnF rfl (cnF l3 (bnd k1 (bnd k2 (bnd k3 (bnd k4 (cnT rfl (bnd k5 (bnd k7 (cnT rfl (bnd k6 (bnd k8 (cnT rfl (bnd sure_eq rfl))))))))))))))))))
theorem pure_NatQuotients : ∀ (a0 a1 : List Int), okL .u32 a0 ∧ a0.length ≤ maxLen → okL .u32 a1 ∧ a1.length ≤ maxLen → ∃ N, fn_tillerlaw02_NatQuotients N a0 a1 = some true := by
  intro a b ⟨ha, hal⟩ ⟨hb, hbl⟩
  refine ⟨100000, ?_⟩
  unfold maxLen at hal hbl
  by_cases h1 : 20 < a.length
  · exact cnT (ltI_t (by omega)) (bnd sure_eq rfl)
  by_cases h2 : 20 < b.length
  · exact cnF (ltI_f (by omega)) (cnT (ltI_t (by omega)) (bnd sure_eq rfl))
  rcases nat_cases a ha with ⟨m, hm, hml, rfl⟩ | hbad
  rotate_left
  · exact cnF (ltI_f (by omega)) (cnF (ltI_f (by omega)) (bnd (is_bad 100000 a hbad (by omega)) (cnT rfl (bnd sure_eq rfl))))
  rcases nat_cases b hb with ⟨n, hn, hnl, rfl⟩ | hbad
  rotate_left
  · exact cnF (ltI_f (by omega)) (cnF (ltI_f (by omega)) (bnd (is_Y 100000 m hm) (cnF rfl (bnd (is_bad 100000 b hbad (by omega)) (cnT rfl (bnd sure_eq rfl))))))
  rw [D_len] at h1 h2
  by_cases h0 : n = 0
  · subst h0
    have l3 : eqI ((Y 0).length : Int) 0 = true := by rw [D_len, dl_zero]; rfl
    have l1 : ltI 20 ((Y m).length : Int) = false := by rw [D_len]; exact ltI_f (by omega)
    have l2 : ltI 20 ((Y 0).length : Int) = false := by rw [D_len]; exact ltI_f (by omega)
    exact cnF l1 (cnF l2 (bnd (is_Y 100000 m hm) (cnF rfl (bnd (is_Y 100000 0 hn) (cnF rfl (cnT l3 (bnd sure_eq rfl)))))))
  · exact main_ok m n (by omega) (by omega) (by omega)
end Go.Proofs.Ytoihjgfnocimjaa
