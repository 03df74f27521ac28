/- THE ENGINE, part 11: code, loops, whole functions. No statement is proved here. -/
import Derived.Test.YtpppedolgipikaaEng10
namespace Go.Proofs.Ytpppedolgipikaa.Eng
open Go Go.RowKit
set_option linter.unusedVariables false
set_option linter.unusedSimpArgs false

def Ex.out : Ex → Exit
  | .normal => .normal
  | .exit id => .exit id
  | .ret => .ret
def codeOK (rt : List (Nat × Nat)) : Code → Bool
  | .region _ ops draw => !draw || drawOK rt ops
  | .seq x y => codeOK rt x && codeOK rt y
  | .cond _ x y => codeOK rt x && codeOK rt y
  | .block _ c => codeOK rt c
  | .loop c => codeOK rt c
  | _ => true

/-- how code runs, over the evaluator's states -/
inductive Runs (P : Program) (T : Tb) (live : List (Nat × List Nat)) : Code → St → Ex → St → Prop
  | skip (st : St) : Runs P T live .skip st .normal st
  | label (l : Nat) (st : St) : Runs P T live (.label l) st .normal st
  | exit (id : Nat) (st : St) : Runs P T live (.exit id) st (.exit id) st
  | ret (st : St) : Runs P T live .ret st .ret st
  | region (id : Nat) (ops : Array Oper) (draw : Bool) (st st' : St) (h : RunI P T ops (List.range ops.size) st st') : Runs P T live (.region id ops draw) st .normal st'
  | seq (x y : Code) (st s : St) (e : Ex) (st' : St) (h1 : Runs P T live x st .normal s) (h2 : Runs P T live y s e st') : Runs P T live (.seq x y) st e st'
  | seqOut (x y : Code) (st : St) (e : Ex) (st' : St) (h1 : Runs P T live x st e st') (he : e ≠ .normal) : Runs P T live (.seq x y) st e st'
  | condT (c : Operand) (x y : Code) (st : St) (e : Ex) (st' : St) (hc : st.ev c = .v (.bool true)) (h : Runs P T live x st e st') : Runs P T live (.cond c x y) st e st'
  | condF (c : Operand) (x y : Code) (st : St) (e : Ex) (st' : St) (hc : st.ev c = .v (.bool false)) (h : Runs P T live y st e st') : Runs P T live (.cond c x y) st e st'
  | blockIn (id : Nat) (c : Code) (st st' : St) (h : Runs P T live c st (.exit id) st') : Runs P T live (.block id c) st .normal st'
  | block (id : Nat) (c : Code) (st : St) (e : Ex) (st' : St) (h : Runs P T live c st e st') (he : e ≠ .exit id) : Runs P T live (.block id c) st e st'
  | again (c : Code) (st s : St) (e : Ex) (st' : St) (h1 : Runs P T live c (st.clear (liveOf live c)) .normal s) (h2 : Runs P T live (.loop c) s e st') : Runs P T live (.loop c) st e st'
  | leave (c : Code) (st : St) (e : Ex) (st' : St) (h : Runs P T live c (st.clear (liveOf live c)) e st') (he : e ≠ .normal) : Runs P T live (.loop c) st e st'

section told
variable {P : Program} {T : Tb} {R : Type} {G : FuncId → List AV → (AV → Option R) → Option R} {N : Nat} {live : List (Nat × List Nat)}
theorem loop_told {c : Code} (ih : ∀ (st : St) (K : Ex → St → Option R) (r : R), exec T G N live c st K = some r → ∃ e st', Runs P T live c st e st' ∧ K e st' = some r) :
    ∀ (n : Nat) (st : St) (K : Ex → St → Option R) (r : R), loopN (liveOf live c) (exec T G N live c) n (st.clear (liveOf live c)) K = some r → ∃ e st', Runs P T live (.loop c) st e st' ∧ K e st' = some r
  | 0, _, _, _, h => by simp [loopN] at h
  | n + 1, st, K, r, h => by
    simp only [loopN] at h
    obtain ⟨e, s, h1, h2⟩ := ih _ _ r h
    cases e with
    | normal =>
      obtain ⟨e', s', h3, h4⟩ := loop_told ih n s K r h2
      exact ⟨e', s', .again c st s e' s' h1 h3, h4⟩
    | exit id => exact ⟨_, s, .leave c st _ s h1 (by simp), h2⟩
    | ret => exact ⟨_, s, .leave c st _ s h1 (by simp), h2⟩
theorem exec_told (hG : GOK P G) : ∀ (c : Code) (st : St) (K : Ex → St → Option R) (r : R), exec T G N live c st K = some r → ∃ e st', Runs P T live c st e st' ∧ K e st' = some r := by
  intro c
  induction c with
  | skip => intro st K r h; exact ⟨_, _, .skip st, h⟩
  | label l => intro st K r h; exact ⟨_, _, .label l st, h⟩
  | exit id => intro st K r h; exact ⟨_, _, .exit id st, h⟩
  | ret => intro st K r h; exact ⟨_, _, .ret st, h⟩
  | region id ops draw =>
    intro st K r h
    obtain ⟨st', h1, h2⟩ := execOps_told (P := P) (ops := ops) hG ops.toList st _ r 0 ops.size (fun i _ => by simp) (by simp) h
    exact ⟨_, st', .region id ops draw st st' (by rw [List.range_eq_range']; exact h1), h2⟩
  | seq x y ihx ihy =>
    intro st K r h
    simp only [exec] at h
    obtain ⟨e, s, h1, h2⟩ := ihx _ _ r h
    cases e with
    | normal => obtain ⟨e', s', h3, h4⟩ := ihy _ _ r h2; exact ⟨e', s', .seq x y st s e' s' h1 h3, h4⟩
    | exit id => exact ⟨_, s, .seqOut x y st _ s h1 (by simp), h2⟩
    | ret => exact ⟨_, s, .seqOut x y st _ s h1 (by simp), h2⟩
  | cond c x y ihx ihy =>
    intro st K r h
    simp only [exec] at h
    cases hc : st.ev c <;> rw [hc] at h <;> (try simp only [reduceCtorEq] at h)
    rename_i v
    cases v <;> (try simp only [reduceCtorEq] at h)
    rename_i b
    cases b
    · obtain ⟨e, s, h1, h2⟩ := ihy _ _ r h
      exact ⟨e, s, .condF c x y st e s hc h1, h2⟩
    · obtain ⟨e, s, h1, h2⟩ := ihx _ _ r h
      exact ⟨e, s, .condT c x y st e s hc h1, h2⟩
  | block id c ih =>
    intro st K r h
    simp only [exec] at h
    obtain ⟨e, s, h1, h2⟩ := ih _ _ r h
    cases e with
    | normal => exact ⟨_, s, .block id c st _ s h1 (by simp), h2⟩
    | exit j =>
      by_cases hj : j = id
      · subst hj
        simp only [blockK, Nat.beq_refl, cond_true] at h2
        exact ⟨_, s, .blockIn j c st s h1, h2⟩
      · have : Nat.beq j id = false := by
          cases hb : Nat.beq j id with
          | false => rfl
          | true => exact absurd (nbeq.1 hb) hj
        simp only [blockK, this, cond_false] at h2
        exact ⟨_, s, .block id c st _ s h1 (by simpa using hj), h2⟩
    | ret => exact ⟨_, s, .block id c st _ s h1 (by simp), h2⟩
  | loop c ih =>
    intro st K r h
    exact loop_told ih N st K r h
  | rangeFunc f ps x y _ _ => intro st K r h; simp [exec] at h
  | scope c _ => intro st K r h; simp [exec] at h
  | goto l => intro st K r h; simp [exec] at h
  | refuse w => intro st K r h; simp [exec] at h
end told

section clear
theorem getS_clear (live : List Nat) : ∀ (l : List AV) (o t : Nat), getS (clearS live o l) t = if memN live (o + t) = true then (match refOf (getS l t) with | some b => cond (memN live b) (getS l t) .none | Option.none => getS l t) else .none
  | [], o, t => by simp [clearS, getS, refOf]
  | x :: r, o, 0 => by
    simp only [clearS, getS, Nat.add_zero]
    cases memN live o
    · simp
    · simp only [cond_true, if_true]
      cases refOf x <;> rfl
  | x :: r, o, t + 1 => by
    simp only [clearS, getS]
    rw [getS_clear live r (o + 1) t, show o + 1 + t = o + (t + 1) by omega]
theorem getH_clear (live : List Nat) : ∀ (l : List (Option OB)) (o t : Nat), getH (clearH live o l) t = if memN live (o + t) = true then getH l t else Option.none
  | [], o, t => by simp [clearH, getH]
  | x :: r, o, 0 => by
    simp only [clearH, getH, Nat.add_zero]
    cases memN live o <;> simp
  | x :: r, o, t + 1 => by
    simp only [clearH, getH]
    rw [getH_clear live r (o + 1) t, show o + 1 + t = o + (t + 1) by omega]
theorem clearS_length (live : List Nat) : ∀ (l : List AV) (o : Nat), (clearS live o l).length = l.length
  | [], _ => rfl
  | _ :: r, o => by simp [clearS, clearS_length live r]

variable {L : Nat → Prop} {w0 : World} {β β' : Nat → Option Nat} {st : St} {a : Act} {w : World}
theorem VR.shrink {x : AV} {y : Value} (hβ : ∀ b, refOf x = some b → β' b = β b) (hs : ∀ g, protB L β' g → protB L β g) (h : VR L β w x y) : VR L β' w x y := by
  have hk : Keeps (protB L β) w w := fun _ _ _ => rfl
  cases x with
  | none => trivial
  | ptr b off => obtain ⟨g, hg, rfl⟩ := h; exact ⟨g, (hβ b rfl).trans hg, rfl⟩
  | pidx b n i => obtain ⟨g, hg, rfl, hn⟩ := h; exact ⟨g, (hβ b rfl).trans hg, rfl, hn⟩
  | bor b lo hi => obtain ⟨g, c, hg, rfl, hc⟩ := h; exact ⟨g, c, (hβ b rfl).trans hg, rfl, hc⟩
  | lidx k xs i => obtain ⟨a, rfl, hc, hp⟩ := h; exact ⟨a, rfl, hc, fun h => hp (hs _ h)⟩
  | tup ps => exact TR.mono (x := .tup ps) hk (fun g _ => hs g) h
  | arr k n x => exact h
  | agg ps => exact CR.mono (x := .agg ps) hk (fun g _ => hs g) h
  | v x => exact h
  | er t e => exact h
  | li k xs => exact LiR.mono hk (fun g _ => hs g) h
  | own b => exact h
  | fresh k xs => exact h
theorem SR.clear (h : SR L w0 β st a w) (live : List Nat) : ∃ β', SR L w0 β' (st.clear live) a w := by
  let β' : Nat → Option Nat := fun b => if memN live b = true then β b else Option.none
  have hs : ∀ g, protB L β' g → protB L β g := by
    rintro g (hL | ⟨b, hb⟩)
    · exact .inl hL
    · refine .inr ⟨b, ?_⟩
      have : (if memN live b = true then β b else Option.none) = some g := hb
      split at this
      · exact this
      · cases this
  have hb1 : ∀ b g, β' b = some g → memN live b = true ∧ β b = some g := by
    intro b g hb
    have : (if memN live b = true then β b else Option.none) = some g := hb
    split at this
    · exact ⟨by assumption, this⟩
    · cases this
  have hk : Keeps (protB L β) w w := fun _ _ _ => rfl
  refine ⟨β', h.defers, by rw [h.size]; exact (clearS_length live _ _).symm, h.below, h.low, fun b b' g h1 h2 => h.inj b b' g (hb1 _ _ h1).2 (hb1 _ _ h2).2, fun b g h1 => h.new b g (hb1 _ _ h1).2, ?_, ?_, ?_⟩
  · intro b g hb
    obtain ⟨h1, h2⟩ := hb1 b g hb
    obtain ⟨ob, h3, h4⟩ := h.heap b g h2
    refine ⟨ob, ?_, OR.mono hk (fun g _ => hs g) rfl h4⟩
    show getH (clearH live 0 st.heap) b = _
    rw [getH_clear, Nat.zero_add, if_pos h1]; exact h3
  · intro b ob hb
    have hb' : getH (clearH live 0 st.heap) b = some ob := hb
    rw [getH_clear, Nat.zero_add] at hb'
    split at hb'
    · rename_i hm
      obtain ⟨g, hg⟩ := h.back b ob hb'
      exact ⟨g, by show (if memN live b = true then β b else Option.none) = _; rw [if_pos hm]; exact hg⟩
    · cases hb'
  · intro t
    show VR L β' w (getS (clearS live 0 st.slots) t) _
    rw [getS_clear, Nat.zero_add]
    split
    · have hv := h.slots t
      cases hr : refOf (getS st.slots t) with
      | none => exact VR.shrink (fun b hb => by rw [hr] at hb; cases hb) hs hv
      | some b =>
        simp only
        cases hm : memN live b with
        | false => trivial
        | true =>
          refine VR.shrink (x := getS st.slots t) (fun b' hb => ?_) hs hv
          rw [hr] at hb; injection hb with hb; subst hb
          show (if memN live b = true then β b else Option.none) = _
          rw [if_pos hm]
    · trivial
end clear

section sound
variable {P : Program} {T : Tb} {L : Nat → Prop} {w0 : World} {live : List (Nat × List Nat)}
def LoopGoal (P : Program) (c : Code) (Q : Exit → Act → World → Prop) (a : Act) (w : World) : Prop :=
  ∀ (b : Frame) (k : List Item) (cs : List Frame), ∃ e a' w', Q e a' w' ∧ Arrives P (lone (b.at a (.code c :: .inLoop c :: k)) cs w) b k cs e a' w'
def Goal (P : Program) (Q : Exit → Act → World → Prop) (a : Act) (w : World) : Code → Prop
  | .loop c => LoopGoal P c Q a w
  | c => c.wp P Q a w
theorem Goal.wp {c : Code} {Q : Exit → Act → World → Prop} {a : Act} {w : World} (h : Goal P Q a w c) : c.wp P Q a w := by
  cases c
  case loop c =>
    intro b k cs
    obtain ⟨e, a', w', h1, h2⟩ := h b k cs
    exact ⟨e, a', w', h1, .of_steps (.one step_loop) h2⟩
  all_goals exact h
theorem code_sound (hT : TOK P T) (hm : P.follows .mixedOrders = true) {c : Code} {st : St} {e : Ex} {st' : St} (hr : Runs P T live c st e st') :
    codeOK T.rt c = true → ∀ (β : Nat → Option Nat) (a : Act) (w : World) (Q : Exit → Act → World → Prop), SR L w0 β st a w → (∀ β' a' w', SR L w0 β' st' a' w' → Q e.out a' w') → Goal P Q a w c := by
  induction hr with
  | skip st => intro _ β a w Q h hQ; exact wp_skip (hQ β a w h)
  | label l st => intro _ β a w Q h hQ; exact wp_label (hQ β a w h)
  | exit id st => intro _ β a w Q h hQ; exact wp_exit (hQ β a w h)
  | ret st => intro _ β a w Q h hQ; exact wp_ret (hQ β a w h)
  | region id ops draw st st' hrun =>
    intro hok β a w Q h hQ
    cases draw with
    | false => exact wp_region (run_sound hT _ β st st' a w h hrun hQ)
    | true =>
      have hd : drawOK T.rt ops = true := by simpa [codeOK] using hok
      have h' : SR L w0 β st a { w with drawn := w.drawn + 1 } := h.turn ⟨rfl, rfl, rfl, Nat.le_refl _, fun _ _ => rfl⟩
      have hl : left ops (Array.replicate ops.size false) = List.range ops.size := by
        unfold left
        rw [List.filter_eq_self]
        intro i hi
        simp at hi
        simp [Array.getD_eq_getD_getElem?, hi]
      refine wp_region_any hm (any_sound hT hd ops.size _ β st st' a _ (by simp) ?_ (by rw [hl]; simp) h' (by rw [hl]; exact hrun) hQ)
      intro i o ho hli
      have hi : i < ops.size := (Array.getElem?_eq_some_iff.1 ho).1
      simp [Array.getD_eq_getD_getElem?, hi] at hli
  | seq x y st s e st' h1 h2 ih1 ih2 =>
    intro hok β a w Q h hQ
    simp only [codeOK, Bool.and_eq_true] at hok
    exact wp_seq (ih1 hok.1 β a w _ h fun β' a' w' h' => (ih2 hok.2 β' a' w' Q h' hQ).wp).wp
  | seqOut x y st e st' h1 he ih =>
    intro hok β a w Q h hQ
    simp only [codeOK, Bool.and_eq_true] at hok
    refine wp_seq (ih hok.1 β a w _ h fun β' a' w' h' => ?_).wp
    cases e with
    | normal => exact absurd rfl he
    | exit id => exact hQ β' a' w' h'
    | ret => exact hQ β' a' w' h'
  | condT c x y st e st' hc hx ih =>
    intro hok β a w Q h hQ
    simp only [codeOK, Bool.and_eq_true] at hok
    have := h.ev c
    rw [hc] at this
    exact wp_cond_true this (ih hok.1 β a w Q h hQ).wp
  | condF c x y st e st' hc hx ih =>
    intro hok β a w Q h hQ
    simp only [codeOK, Bool.and_eq_true] at hok
    have := h.ev c
    rw [hc] at this
    exact wp_cond_false this (ih hok.2 β a w Q h hQ).wp
  | blockIn id c st st' h1 ih =>
    intro hok β a w Q h hQ
    refine wp_block (ih hok β a w _ h fun β' a' w' h' => ?_).wp
    show (if id = id then _ else _)
    rw [if_pos rfl]; exact hQ β' a' w' h'
  | block id c st e st' h1 he ih =>
    intro hok β a w Q h hQ
    refine wp_block (ih hok β a w _ h fun β' a' w' h' => ?_).wp
    cases e with
    | normal => exact hQ β' a' w' h'
    | exit j =>
      show (if j = id then _ else _)
      rw [if_neg (fun e => he (by rw [e]))]; exact hQ β' a' w' h'
    | ret => exact hQ β' a' w' h'
  | again c st s e st' h1 h2 ih1 ih2 =>
    intro hok β a w Q h hQ
    obtain ⟨β1, hc⟩ := h.clear (liveOf live c)
    intro b k cs
    obtain ⟨e1, a1, w1, hq, harr⟩ := (ih1 hok β1 a w (Exit.then (fun a' w' => LoopGoal P c Q a' w') Q) hc (fun β' a' w' h' => ih2 hok β' a' w' Q h' hQ)).wp b (.inLoop c :: k) cs
    cases e1 with
    | normal =>
      obtain ⟨e2, a2, w2, hq2, harr2⟩ := hq b k cs
      exact ⟨e2, a2, w2, hq2, .of_steps (Steps.trans harr (.one step_inLoop)) harr2⟩
    | exit id => exact ⟨_, a1, w1, hq, .pass (x := .inLoop c) rfl (fun _ _ => .inl (by simp)) harr⟩
    | goto l => exact ⟨_, a1, w1, hq, .pass (x := .inLoop c) rfl (fun _ _ => .inl (by simp)) harr⟩
    | ret => exact ⟨_, a1, w1, hq, .pass (x := .inLoop c) rfl (fun _ _ => .inl (by simp)) harr⟩
    | panic ch => exact ⟨_, a1, w1, hq, .pass (x := .inLoop c) rfl (fun _ _ => .inl (by simp)) harr⟩
    | outgrown => exact ⟨_, a1, w1, hq, .pass (x := .inLoop c) rfl (fun _ _ => .inl (by simp)) harr⟩
  | leave c st e st' h1 he ih =>
    intro hok β a w Q h hQ
    obtain ⟨β1, hc⟩ := h.clear (liveOf live c)
    intro b k cs
    obtain ⟨e1, a1, w1, hq, harr⟩ := (ih hok β1 a w (fun x a' w' => x ≠ .normal ∧ Q x a' w') hc (fun β' a' w' h' => ⟨by cases e <;> simp_all [Ex.out], hQ β' a' w' h'⟩)).wp b (.inLoop c :: k) cs
    exact ⟨e1, a1, w1, hq.2, .pass (x := .inLoop c) rfl (fun _ _ => .inl hq.1) harr⟩

/-! whole functions -/
theorem VR.told {β : Nat → Option Nat} {w : World} {x : AV} {v : Value} (hx : cellC x = true) (h : VR L β w x v) : CR L w x v := by
  have hk : Keeps (protB L β) w w := fun _ _ _ => rfl
  have hs : ∀ g, g < w.heap.size → L g → protB L β g := fun g _ h => .inl h
  cases x <;> simp only [cellC, Bool.false_eq_true] at hx
  case arr k n x => exact h
  case agg ps => exact CR.mono (x := .agg ps) hk hs h
  case v x => exact h
  case er t e => exact h
  case li k xs => exact LiR.mono hk hs h
theorem CR.tr {w : World} {x : AV} {v : Value} (h : CR L w x v) : TR L w x v := by
  cases x <;> first | exact h | exact h.elim

theorem resOne_sound (hT : TOK P T) {β : Nat → Option Nat} {st : St} {a : Act} {w : World} (h : SR L w0 β st a w) {r : ResultVar} {x : AV} (hr : resOne T st r = some x) :
    ∃ v, ((match r with | .tmp t => pure (a.tmps.getD t undef) | .cell p t => do loadVar t (← asAddr (a.tmps.getD p undef))) : Sem Value).run P w = .ok v w ∧ VR L β w x v := by
  cases r with
  | tmp t => simp only [resOne, Option.some.injEq] at hr; subst hr; exact ⟨_, rfl, h.slots t⟩
  | cell p t =>
    simp only [resOne] at hr
    have hs := h.slots p
    cases hp : getS st.slots p <;> rw [hp] at hr hs <;> (try simp only [reduceCtorEq] at hr)
    rename_i b off
    obtain ⟨g, hg, hv⟩ := hs
    cases hob : getH st.heap b <;> rw [hob] at hr <;> simp only [reduceCtorEq] at hr
    rename_i ob
    obtain ⟨ob2, hob2, ho⟩ := h.heap b g hg
    rw [hob] at hob2; injection hob2 with hob2; subst hob2
    obtain ⟨v, h1, h2⟩ := run_whole (hT t) ho hr
    exact ⟨v, by simp only [hv, asAddr, pure_bind]; exact h1, h2⟩
theorem resAll_sound (hT : TOK P T) {β : Nat → Option Nat} {st : St} {a : Act} {w : World} (h : SR L w0 β st a w) : ∀ (rs : List ResultVar) (xs : List AV), resAll T st rs = some xs →
    ∃ vs : List Value, (rs.mapM fun r => (match r with | .tmp t => pure (a.tmps.getD t undef) | .cell p t => do loadVar t (← asAddr (a.tmps.getD p undef)) : Sem Value)).run P w = .ok vs w ∧ L2 (VR L β w) xs vs
  | [], xs, hr => by simp only [resAll, Option.some.injEq] at hr; subst hr; exact ⟨[], rfl, trivial⟩
  | r :: rs, xs, hr => by
    simp only [resAll] at hr
    cases h1 : resOne T st r <;> rw [h1] at hr <;> (try simp only [reduceCtorEq] at hr)
    cases h2 : resAll T st rs <;> rw [h2] at hr <;> (try simp only [reduceCtorEq, Option.some.injEq] at hr)
    subst hr
    obtain ⟨v, h3, h4⟩ := resOne_sound hT h h1
    obtain ⟨vs, h5, h6⟩ := resAll_sound hT h rs _ h2
    refine ⟨v :: vs, ?_, h4, h6⟩
    rw [List.mapM_cons, Sem.run_bind, h3, Result.andThen_ok, Sem.run_bind, h5, Result.andThen_ok, Sem.run_pure]
theorem allC_sound {β : Nat → Option Nat} {w : World} : ∀ (xs : List AV) (vs : List Value), allC xs = true → L2 (VR L β w) xs vs → L2 (CR L w) xs vs
  | [], [], _, _ => trivial
  | x :: xs, v :: vs, h, ⟨h1, h2⟩ => by
    simp only [allC, Bool.and_eq_true] at h
    exact ⟨h1.told h.1, allC_sound xs vs h.2 h2⟩
  | [], _ :: _, _, h => h.elim
  | _ :: _, [], _, h => h.elim

theorem results_eq (fn : Func) (tmps : Array Value) (w : World) (vs : List Value) (h : (fn.results.toList.mapM fun r => (match r with | .tmp t => pure (tmps.getD t undef) | .cell p t => do loadVar t (← asAddr (tmps.getD p undef)) : Sem Value)).run P w = .ok vs w) :
    (results fn tmps).run P w = .ok (if h : vs.length = 1 then vs[0] else .tuple vs.toArray) w := by
  unfold results
  rw [Sem.run_bind, Array.mapM_eq_mapM_toList, Sem.run_map]
  erw [h]
  simp only [Result.andThen_ok, Sem.run_pure]
  congr 1

/-- how a function's results may be told -/
def resTell : List AV → AV
  | [x] => x
  | xs => .tup xs
theorem finish_told {R : Type} {T : Tb} {rs : List ResultVar} {K : AV → Option R} {st : St} {r : R} (h : finish T rs K st = some r) :
    ∃ xs, resAll T st rs = some xs ∧ allC xs = true ∧ K (resTell xs) = some r := by
  unfold finish at h
  cases hx : resAll T st rs with
  | none => rw [hx] at h; cases h
  | some xs =>
    rw [hx] at h
    rcases xs with _ | ⟨x, _ | ⟨y, xs⟩⟩
    · obtain ⟨h1, h2⟩ := cond_some h; exact ⟨[], rfl, h1, h2⟩
    · obtain ⟨h1, h2⟩ := cond_some h; exact ⟨[x], rfl, by simp [allC, h1], h2⟩
    · obtain ⟨h1, h2⟩ := cond_some h; exact ⟨x :: y :: xs, rfl, h1, h2⟩

theorem noneS_get : ∀ (n t : Nat), getS (noneS n) t = .none
  | 0, _ => rfl
  | n + 1, 0 => rfl
  | n + 1, t + 1 => noneS_get n t
theorem noneH_get : ∀ (n t : Nat), getH (noneH n) t = Option.none
  | 0, _ => rfl
  | n + 1, 0 => rfl
  | n + 1, t + 1 => noneH_get n t
theorem noneS_length : ∀ n, (noneS n).length = n
  | 0 => rfl
  | n + 1 => by simp [noneS, noneS_length n]
theorem getS_append : ∀ (l r : List AV) (t : Nat), getS (l ++ r) t = if t < l.length then getS l t else getS r (t - l.length)
  | [], r, t => by simp
  | x :: l, r, 0 => by simp [getS]
  | x :: l, r, t + 1 => by simp only [List.cons_append, getS, List.length_cons]; rw [getS_append l r t, show t + 1 - (l.length + 1) = t - l.length by omega]; simp
theorem L2.getV {β : Nat → Option Nat} {w : World} : ∀ {ps : List AV} {cs : List Value}, L2 (CR (protB L β) w) ps cs → ∀ n (hn : n < cs.length), VR L β w (getS ps n) cs[n]
  | p :: ps, c :: cs, ⟨h1, h2⟩, 0, _ => h1.vr
  | p :: ps, c :: cs, ⟨h1, h2⟩, n + 1, hn => L2.getV h2 n (by simpa using hn)
  | [], _ :: _, h, _, _ => h.elim

/-- A FUNCTION: what the evaluator says of its code, its call does. -/
theorem fn_sound {R : Type} {G : FuncId → List AV → (AV → Option R) → Option R} {N : Nat} (hT : TOK P T) (hm : P.follows .mixedOrders = true) (hG : GOK P G) {f : FuncId} {fn : Func} {code : Code}
    (hf : P.funcs[f]? = some fn) (hb : fn.body = some code) (hn : (fn.name == "runtime.NumGoroutine") = false) (hok : codeOK T.rt code = true) {args : List AV} {K : AV → Option R} {r : R}
    (h : run T G N live code fn.results.toList fn.ntmps args K = some r) : ∃ av, K av = some r ∧ Inv P f args av := by
  obtain ⟨e, st', hruns, hk⟩ := exec_told (P := P) hG code _ _ r h
  have hfin : (e = .normal ∨ e = .ret) ∧ finish T fn.results.toList K st' = some r := by
    cases e with
    | normal => exact ⟨.inl rfl, hk⟩
    | ret => exact ⟨.inr rfl, hk⟩
    | exit id => simp [retK] at hk
  obtain ⟨xs, hx1, hx2, hx3⟩ := finish_told hfin.2
  refine ⟨resTell xs, hx3, ?_⟩
  intro vals w L hL hargs o a next Q hnext
  have hcf : (callFunc f vals.toArray).run P w = .ok (.enter f vals.toArray) w := by
    have hn' : ¬ fn.name = "runtime.NumGoroutine" := by simpa using hn
    simp [callFunc, hf, hn', hb]
  rw [hcf, Oper.upon_enter]
  refine calls_of_wp hf hb ?_
  have hlen := hargs.length
  have hsr : SR L w (fun _ => Option.none) ⟨args ++ noneS (fn.ntmps - args.length), noneH fn.ntmps⟩ { tmps := vals.toArray ++ Array.replicate (fn.ntmps - vals.toArray.size) undef, defers := [] } w := by
    have hk : Keeps (fun g => L g) w w := fun _ _ _ => rfl
    have hargs' : L2 (CR (protB L fun _ => Option.none) w) args vals := hargs.imp fun x y h => CR.mono hk (fun g _ hg => by rcases hg with hg | ⟨b, hb⟩; exact hg; cases hb) h
    refine ⟨rfl, by simp [noneS_length, hlen], Below.refl _ w, hL, (fun _ _ _ h => by cases h), (fun _ _ h => by cases h), (fun _ _ h => by cases h), (fun b ob h => by simp [noneH_get] at h), fun t => ?_⟩
    simp only
    rw [getS_append]
    split
    · rename_i ht
      have ht' : t < vals.length := by omega
      have := hargs'.getV t ht'
      have e : (vals.toArray ++ Array.replicate (fn.ntmps - vals.toArray.size) undef).getD t undef = vals[t] := by
        rw [Array.getD_eq_getD_getElem?, Array.getElem?_append_left (by simpa using ht')]; simp [ht']
      rw [e]; exact this
    · rw [noneS_get]; trivial
  refine (code_sound hT hm hruns hok _ _ w _ hsr fun β' a' w' h' => ?_).wp
  obtain ⟨vs, h1, h2⟩ := resAll_sound hT h' _ xs hx1
  have h3 := allC_sound xs vs hx2 h2
  have hres := results_eq fn a'.tmps w' vs h1
  have hpost : bodyPost P fn (fun
      | .returned v, w'' => next (a.put o.dst v) w''
      | .panicked chain, w'' => Q (.panic chain) a w''
      | .outgrown, _ => LetsOut Q) .normal a' w' := by
    refine ⟨h'.defers, _, hres, ?_⟩
    refine hnext _ w' h'.below ?_
    rcases xs with _ | ⟨x, _ | ⟨y, xs⟩⟩
    · rcases vs with _ | ⟨v, vs⟩
      · exact ⟨[], by simp, trivial⟩
      · exact h3.elim
    · rcases vs with _ | ⟨v, _ | ⟨v2, vs⟩⟩
      · exact h3.elim
      · exact h3.1.tr
      · exact h3.2.elim
    · rcases vs with _ | ⟨v, _ | ⟨v2, vs⟩⟩
      · exact h3.elim
      · exact h3.2.elim
      · refine ⟨v :: v2 :: vs, by simp, h3⟩
  rcases hfin.1 with rfl | rfl
  · exact hpost
  · exact hpost
end sound
end Go.Proofs.Ytpppedolgipikaa.Eng
