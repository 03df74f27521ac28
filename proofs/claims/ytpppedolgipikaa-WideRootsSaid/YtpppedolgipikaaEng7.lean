/- THE ENGINE, part 7: calls; what an operation looks at; operations that may change places. No statement is proved here. -/
import Derived.Test.YtpppedolgipikaaEng6
namespace Go.Proofs.Ytpppedolgipikaa.Eng
open Go Go.RowKit
set_option linter.unusedVariables false
set_option linter.unusedSimpArgs false

section ops
variable {P : Program} {T : Tb} {L : Nat → Prop} {w0 : World} {β : Nat → Option Nat} {st : St} {a : Act} {w : World}
theorem args_none (h : SR L w0 β st a w) : ∀ (xs : List Operand), anyNone (xs.map fun x => argOf st.heap (st.ev x)) = false → L2 (CR (fun _ => False) w) (xs.map fun x => argOf st.heap (st.ev x)) (xs.map a.eval)
  | [], _ => trivial
  | x :: xs, hn => by
    simp only [List.map_cons, anyNone, Bool.or_eq_false_iff] at hn
    refine ⟨arg_none h (h.ev x) (fun e => ?_), args_none h xs hn.2⟩
    rw [e] at hn; simp [isNone] at hn
theorem args_plain (h : SR L w0 β st a w) : ∀ (xs : List Operand), anyNone (xs.map fun x => argOf st.heap (st.ev x)) = false → anyBor (xs.map st.ev) = false → L2 (CR (protB L β) w) (xs.map fun x => argOf st.heap (st.ev x)) (xs.map a.eval)
  | [], _, _ => trivial
  | x :: xs, hn, hb => by
    simp only [List.map_cons, anyNone, anyBor, Bool.or_eq_false_iff] at hn hb
    refine ⟨arg_plain h (h.ev x) (fun e => ?_) hb.1, args_plain h xs hn.2 hb.2⟩
    rw [e] at hn; simp [isNone] at hn

/-- an operation of any kind -/
theorem op_sound (hT : TOK P T) (h : SR L w0 β st a w) {o : Oper} {out : Out} (hr : Res P T o st.ev st.heap out)
    {next : Act → World → Prop} {Q : Exit → Act → World → Prop} (hn : ∀ β' a' w', SR L w0 β' (apply o st out) a' w' → next a' w') : o.wp P a w next Q := by
  obtain ⟨dst, op, type, pos, after, guard⟩ := o
  cases op
  case call c =>
    obtain ⟨callee, args, argTypes⟩ := c
    cases callee
    case value f =>
      cases f
      case func f =>
        obtain ⟨av, rfl, hinv, hnone, htold⟩ := hr
        simp only at hinv hnone htold
        have hrun : (execOp a.eval ⟨dst, .call ⟨.value (.func f), args, argTypes⟩, type, pos, after, guard⟩).run P w = (callFunc f (args.toList.map a.eval).toArray).run P w := by
          have : args.map a.eval = (args.toList.map a.eval).toArray := Array.toList_inj.1 (by simp)
          simp [execOp, resolve, Deferred.ofValue, Act.eval, invoke, this]
        unfold Oper.wp
        rw [hrun]
        by_cases hb : anyBor (args.toList.map st.ev) = false
        · refine hinv _ w (protB L β) ?_ (args_plain h _ hnone hb) _ a next Q fun v w' hbw htr => hn β _ _ ?_
          · rintro g (hL | ⟨b, hb⟩)
            · have := h.low g hL; have := h.below.size; omega
            · exact h.lt hb
          · exact (h.turn hbw).put dst htr.vr
        · refine hinv _ w (fun _ => False) (fun g h => h.elim) (args_none h _ hnone) _ a next Q fun v w' hbw htr => hn β _ _ ?_
          have hno : noLi av = true := by
            rw [Bool.not_eq_false] at hb
            rw [hb] at htold
            exact (by simpa using htold : told av = true ∧ noLi av = true).2
          exact (h.turn hbw).put dst (TR.free (pr' := protB L β) hno htr).vr
      all_goals exact hr.elim
    case invoke => exact hr.elim
    case builtin b => exact res_sound hT h hr hn
  all_goals exact res_sound hT h hr hn
end ops

section bind
variable {P : Program} {T : Tb} {R : Type} {G : FuncId → List AV → (AV → Option R) → Option R}
/-- the callees' contracts are right -/
def GOK (P : Program) (G : FuncId → List AV → (AV → Option R) → Option R) : Prop :=
  ∀ f args K r, G f args K = some r → ∃ av, K av = some r ∧ Inv P f args av

theorem res_bind (o : Oper) (ρ : Operand → AV) (h : List (Option OB)) (K : Out → Option R) (hc : ∀ c f, o.op = .call c → c.callee ≠ .value (.func f)) :
    res T G o ρ h K = (res (R := Out) T (fun _ _ _ => Option.none) o ρ h some).bind K := by
  obtain ⟨dst, op, type, pos, after, guard⟩ := o
  cases op <;> simp only [res]
  case binOp op xt x y yt =>
    cases errNil (T xt) y
    · simp only [cond_false]
      rw [bop_bind, bop_bind T op xt (ρ x) (ρ y) (fun r => some (Out.val r)), Option.bind_assoc]
      rfl
    · simp only [cond_true]
      rw [ebop_bind, ebop_bind op (ρ x) (fun r => some (Out.val r)), Option.bind_assoc]
      rfl
  case call c =>
    obtain ⟨callee, args, argTypes⟩ := c
    cases callee
    case value f =>
      cases f
      case func f => exact absurd rfl (hc _ f rfl)
      all_goals rfl
    case invoke => rfl
    case builtin b =>
      cases b <;> first
        | rfl
        | (simp only [res]; (repeat' split) <;> first | rfl | (exfalso; simp_all; done))
  case pick c x y => split <;> first | rfl | (rename_i t _; cases t <;> rfl)
  case slice t x lo hi mx => split <;> first | rfl | (generalize (_ && _) = bb; cases bb <;> rfl)
  case sliceToArrayPointer t x => split <;> first | rfl | (generalize Nat.ble _ _ = bb; cases bb <;> rfl)
  case fieldAddr t x f => split <;> first | rfl | (generalize Nat.blt _ _ = bb; cases bb <;> rfl)
  case field t x f => split <;> first | rfl | (generalize (_ && _) = bb; cases bb <;> rfl)
  case extract x j => split <;> first | rfl | (generalize (_ && _) = bb; cases bb <;> rfl)
  case indexAddr t x i => split <;> first | rfl | (generalize leI _ _ = bb; generalize ltI _ _ = cc; cases bb <;> cases cc <;> rfl)
  case index t x i => split <;> first | rfl | (generalize leI _ _ = bb; generalize ltI _ _ = cc; cases bb <;> cases cc <;> rfl) | (generalize Nat.beq _ _ = dd; generalize leI _ _ = bb; generalize ltI _ _ = cc; cases dd <;> cases bb <;> cases cc <;> rfl)
  case alloc t => (repeat' split) <;> first | rfl | (generalize Nat.blt _ _ = bb; cases bb <;> rfl)
  case box t x => (repeat' split) <;> first | rfl | (generalize Nat.blt _ _ = bb; cases bb <;> rfl)
  case load t x => (repeat' split) <;> first | rfl | (generalize (_ && _) = bb; cases bb <;> rfl)
  case store t x y => (repeat' split) <;> first | rfl | (generalize (_ && _) = bb; cases bb <;> rfl)
  case unOp => (repeat' split) <;> rfl
  case convert => (repeat' split) <;> rfl
  case build => (repeat' split) <;> rfl
  case makeInterface => (repeat' split) <;> rfl
  all_goals rfl

theorem res_told (hG : GOK P G) {o : Oper} {ρ : Operand → AV} {h : List (Option OB)} {K : Out → Option R} {r : R} (hr : res T G o ρ h K = some r) : ∃ out, Res P T o ρ h out ∧ K out = some r := by
  have other : (∀ c f, o.op = .call c → c.callee ≠ .value (.func f)) → (∀ out, res (R := Out) T (fun _ _ _ => Option.none) o ρ h some = some out → Res P T o ρ h out) → ∃ out, Res P T o ρ h out ∧ K out = some r := by
    intro hc hR
    rw [res_bind o ρ h K hc] at hr
    obtain ⟨out, h1, h2⟩ := Option.bind_eq_some_iff.1 hr
    exact ⟨out, hR out h1, h2⟩
  obtain ⟨dst, op, type, pos, after, guard⟩ := o
  cases op
  case call c =>
    obtain ⟨callee, args, argTypes⟩ := c
    cases callee
    case value f =>
      cases f
      case func f =>
        simp only [res] at hr
        obtain ⟨hn, hr2⟩ := cond_none hr
        obtain ⟨av, h1, h2⟩ := hG _ _ _ _ hr2
        obtain ⟨h3, h4⟩ := cond_some h1
        exact ⟨.val av, ⟨av, rfl, h2, hn, h3⟩, h4⟩
      all_goals simp [res] at hr
    case invoke => simp [res] at hr
    case builtin b => exact other (fun c f hc => by cases hc; simp) (fun out h => h)
  all_goals exact other (fun c f hc => by cases hc) (fun out h => h)
end bind
end Go.Proofs.Ytpppedolgipikaa.Eng
