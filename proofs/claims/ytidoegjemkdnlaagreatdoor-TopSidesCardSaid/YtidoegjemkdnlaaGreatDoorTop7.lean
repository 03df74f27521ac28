/- PLAIN FACTS on chapter 10: which of two numbers is less. No statement is proved here. -/
import Derived.Test.YtidoegjemkdnlaaGreatDoorTop6
import Derived.Test.YtidoegjemkdnlaaGreatDoorFnTopSides
namespace Go.Proofs.YtidoegjemkdnlaaGreatDoor.Top
open Go Go.RowKit Go.Proofs.YtidoegjemkdnlaaGreatDoor.Eng Go.Proofs.YtidoegjemkdnlaaGreatDoor.Fns Go.Proofs.YtidoegjemkdnlaaGreatDoor.Bw Go.Proofs.YtidoegjemkdnlaaGreatDoor.Wid Go.Proofs.YtidoegjemkdnlaaGreatDoor.Patp
set_option linter.unusedVariables false
set_option linter.unusedSimpArgs false
theorem bnd {α β : Type} {o : Option α} {v : α} {K : α → Option β} {w : Option β} (h : o = some v) (hk : K v = w) : (o.bind K) = w := by rw [h]; exact hk
theorem cnT {α : Type} {b : Bool} {x y w : α} (h : b = true) (hx : x = w) : cond b x y = w := by rw [h]; exact hx
theorem cnF {α : Type} {b : Bool} {x y w : α} (h : b = false) (hy : y = w) : cond b x y = w := by rw [h]; exact hy
/-- a number's place -/
def keyZ (p : Int) : Int := if p < 9223372036854775808 then p else -(p % 9223372036854775808) - 1
theorem key_eq (N : Nat) {p : Int} (hp : U p) : fn_order_key N p = some (keyZ p) := by
  obtain ⟨h0, h1⟩ := hp
  have hs : andI .u64 p 9223372036854775808 = if p < 9223372036854775808 then 0 else 9223372036854775808 := and_sign p h0 h1
  unfold fn_order_key keyZ
  rw [hs]
  by_cases h : p < 9223372036854775808
  · rw [if_pos h, if_pos h]
    refine cnF rfl ?_
    rw [cvI_i (by omega) (by omega)]
  · rw [if_neg h, if_neg h]
    refine cnT rfl (bnd (abs_eq N p h0 h1) ?_)
    have e1 : subI .i64 0 (p % 9223372036854775808) = -(p % 9223372036854775808) := by rw [subI_i (by omega) (by omega), Int.zero_sub]
    rw [cvI_i (by omega) (by omega), e1, subI_i (by omega) (by omega)]
theorem nan_ok {p : Int} (hp : okP p) : nanB p = false := by unfold nanB; rw [decide_eq_false]; have := hp.2.2; omega
theorem okP.u {p : Int} (hp : okP p) : U p := ⟨hp.1, hp.2.1⟩
theorem compare_eq (N : Nat) {p q : Int} (hp : okP p) (hq : okP q) : fn_order_Compare N p q = some (if (p % 9223372036854775808 = 0 ∧ q % 9223372036854775808 = 0) ∨ p = q then 0 else if keyZ p < keyZ q then -1 else 1, 0) := by
  unfold fn_order_Compare
  refine bnd (nan_eq N p hp.1 hp.2.1) (cnF (nan_ok hp) (bnd (nan_eq N q hq.1 hq.2.1) (cnF (nan_ok hq) (bnd (abs_eq N p hp.1 hp.2.1) (bnd (abs_eq N q hq.1 hq.2.1) ?_)))))
  have hz : orI .u64 (p % 9223372036854775808) (q % 9223372036854775808) = 0 ↔ p % 9223372036854775808 = 0 ∧ q % 9223372036854775808 = 0 := or_zero _ _ (by omega) (by omega) (by omega) (by omega)
  by_cases h1 : p % 9223372036854775808 = 0 ∧ q % 9223372036854775808 = 0
  · rw [if_pos (.inl h1)]
    exact cnT (eqI_t (hz.2 h1)) rfl
  · refine cnF (eqI_f (fun h => h1 (hz.1 h))) ?_
    by_cases h2 : p = q
    · rw [if_pos (.inr h2)]
      exact cnT (eqI_t h2) rfl
    · rw [if_neg (by rintro (h | h); exact h1 h; exact h2 h)]
      refine cnF (eqI_f h2) (bnd (key_eq N hp.u) (bnd (key_eq N hq.u) ?_))
      by_cases h3 : keyZ p < keyZ q
      · rw [if_pos h3]; exact cnT (ltI_t h3) rfl
      · rw [if_neg h3]; exact cnF (ltI_f h3) rfl
end Go.Proofs.YtidoegjemkdnlaaGreatDoor.Top
