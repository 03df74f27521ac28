/- THE ENGINE, part 9: steps of a region may change places. No statement is proved here. -/
import Derived.Test.YtcdhcihjcjpmkaaGreatDoorEng8
namespace Go.Proofs.YtcdhcihjcjpmkaaGreatDoor.Eng
open Go Go.RowKit
set_option linter.unusedVariables false
set_option linter.unusedSimpArgs false

section forms
variable {P : Program} {T : Tb}
theorem Res.congr {o : Oper} {ρ ρ' : Operand → AV} {h h' : List (Option OB)} {out : Out} (hρ : ∀ x ∈ o.op.operands, ρ x = ρ' x) (hh : Same T o ρ h h') (hr : Res P T o ρ h out) : Res P T o ρ' h' out := by
  have other : res (R := Out) T (fun _ _ _ => Option.none) o ρ h some = some out → res (R := Out) T (fun _ _ _ => Option.none) o ρ' h' some = some out := fun e => by rw [← res_congr some hρ hh]; exact e
  obtain ⟨dst, op, type, pos, after, guard⟩ := o
  cases op
  case call c =>
    obtain ⟨callee, args, argTypes⟩ := c
    cases callee
    case value f =>
      cases f
      case func f =>
        simp only [Res] at hr ⊢
        cases hwr : T.wr f with
        | some F =>
          simp only [hwr] at hr ⊢
          rcases hh with hh | ⟨h4, _, _⟩
          · simp [mc, hwr] at hh
          · have hargs : ∀ x ∈ args.toList, ρ x = ρ' x := fun x hx => hρ x (by simp [Op.operands, Call.operands]; right; simpa using hx)
            have hl : ∀ z ∈ args.toList.map ρ, ∀ b, refOf z = some b → getH h b = getH h' b := fun z hz b hb => by
              obtain ⟨x, hx, rfl⟩ := List.mem_map.1 hz
              exact h4 x (by simp [Op.operands, Call.operands]; right; simpa using hx) b hb
            obtain ⟨b, zs, k, e, ys, r, rest, h1, hob, hbor, hnone, hF, htold, hli, hout⟩ := hr
            rw [h1] at hl
            have e4 : rest.map (argOf h) = rest.map (argOf h') := List.map_congr_left fun x hx => argOf_congr (hl x (by simp [hx]))
            rw [e4] at hnone hF
            exact ⟨b, zs, k, e, ys, r, rest, by rw [← List.map_congr_left hargs]; exact h1, by rw [← hl (.own b) (by simp) b rfl]; exact hob, hbor, hnone, hF, htold, hli, hout⟩
        | none =>
        simp only [hwr] at hr ⊢
        obtain ⟨av, h1, h2, h3, h5⟩ := hr
        rcases hh with hh | ⟨h4, _, _⟩
        · simp only [mc, hwr] at hh
          cases hk : killsB T.kl dst <;> simp [hk] at hh
        · have hargs : ∀ x ∈ args.toList, ρ x = ρ' x := fun x hx => hρ x (by simp [Op.operands, Call.operands]; right; simpa using hx)
          have e1 : args.toList.map (fun x => argOf h (ρ x)) = args.toList.map (fun x => argOf h' (ρ' x)) := List.map_congr_left fun x hx => by
            rw [argOf_congr (h4 x (by simp [Op.operands, Call.operands]; right; simpa using hx)), hargs x hx]
          have e2 : args.toList.map ρ = args.toList.map ρ' := List.map_congr_left hargs
          rw [e1] at h1 h2
          rw [e2] at h5
          exact ⟨av, h1, h2, h3, h5⟩
      all_goals exact hr
    case invoke => exact hr
    case builtin b => exact other hr
  all_goals exact other hr

/-- a block is made -/
def Mk : Out → OB → Prop
  | .mk ob, ob' => ob' = ob
  | .row [] k e xs, ob' => ob' = .row k e xs
  | _, _ => False
theorem isFree_spec {h : List (Option OB)} {d : Option Nat} (hf : isFree h d = true) : ∃ j, d = some j ∧ getH h j = Option.none ∧ j < h.length := by
  cases d with
  | none => cases hf
  | some d =>
    simp only [isFree] at hf
    cases hd : getH h d <;> rw [hd] at hf <;> (try simp only [Bool.false_eq_true] at hf)
    exact ⟨d, rfl, hd, nblt.1 hf⟩
/-- what an operation may do, by its kind -/
theorem Res.form {o : Oper} {ρ : Operand → AV} {h : List (Option OB)} {out : Out} (hr : Res P T o ρ h out) :
    (∃ v, out = .val v ∧ (∀ b, refOf v = some b → ∃ x ∈ o.op.operands, refOf (ρ x) = some b)) ∨
    (∃ d ob, Mk out ob ∧ mc T o = 2 ∧ o.dst = some d ∧ getH h d = Option.none ∧ d < h.length) ∨
    (∃ b ob, out = .store b ob ∧ mc T o = 3 ∧ o.dst = Option.none ∧ ∃ x ∈ o.op.operands, refOf (ρ x) = some b) ∨
    (mc T o = 4 ∧ ((∃ d ks k e xs, out = .row ks k e xs ∧ o.dst = some d ∧ getH h d = Option.none ∧ d < h.length) ∨ (∃ ks v, out = .kval ks v ∧ refOf v = Option.none) ∨ ∃ b ob v, out = .upd b ob v ∧ refOf v = Option.none ∧ getH h b ≠ Option.none)) := by
  have nr : ∀ {x : AV} {b : Nat}, noRef x = true → refOf x = some b → False := by
    intro x b h1 h2; simp [noRef, h2] at h1
  have plain : ∀ {v : AV}, out = .val v → refOf v = Option.none → (∃ v, out = .val v ∧ (∀ b, refOf v = some b → ∃ x ∈ o.op.operands, refOf (ρ x) = some b)) := by
    intro v h1 h3
    exact ⟨v, h1, fun b hb => by rw [h3] at hb; cases hb⟩
  obtain ⟨dst, op, type, pos, after, guard⟩ := o
  cases op <;> simp only [Res, res, reduceCtorEq] at hr
  case move x => injection hr with hr; exact .inl ⟨_, hr.symm, fun b hb => ⟨x, by simp [Op.operands], hb⟩⟩
  case assign x => injection hr with hr; exact .inl ⟨_, hr.symm, fun b hb => ⟨x, by simp [Op.operands], hb⟩⟩
  case pick c x y =>
    split at hr
    · rename_i t _
      cases t
      · injection hr with hr; exact .inl ⟨_, hr.symm, fun b hb => ⟨y, by simp [Op.operands], hb⟩⟩
      · injection hr with hr; exact .inl ⟨_, hr.symm, fun b hb => ⟨x, by simp [Op.operands], hb⟩⟩
    · cases hr
  case alloc t =>
    (repeat' split at hr) <;> (try cases hr)
    rename_i d _ hd _ ob _
    obtain ⟨hl, hr2⟩ := cond_some hr
    injection hr2 with hr2
    subst hr2; exact .inr (.inl ⟨d, ob, rfl, rfl, rfl, hd, nblt.1 hl⟩)
  case range xt x =>
    (repeat' split at hr) <;> (try cases hr)
    rename_i d _ _ _ _ hd _ _
    obtain ⟨hl, hr2⟩ := cond_some hr
    injection hr2 with hr2
    subst hr2; exact .inr (.inl ⟨d, _, rfl, rfl, rfl, hd, nblt.1 hl⟩)
  case next x isS =>
    (repeat' split at hr) <;> (try cases hr)
    rename_i b hx _ s p hob
    cases hlt : Nat.blt p s.size <;> rw [hlt] at hr <;> simp only [cond_true, cond_false, Option.some.injEq] at hr
    · exact .inl (plain hr.symm rfl)
    · exact .inr (.inr (.inr ⟨rfl, .inr (.inr ⟨b, _, _, hr.symm, rfl, by rw [hob]; simp⟩)⟩))
  case box t x =>
    (repeat' split at hr) <;> (try cases hr)
    rename_i d _ hd _ ob _
    obtain ⟨hl, hr2⟩ := cond_some hr
    injection hr2 with hr2
    subst hr2; exact .inr (.inl ⟨d, ob, rfl, rfl, rfl, hd, nblt.1 hl⟩)
  case build t ps =>
    (repeat' split at hr) <;> (try cases hr)
    all_goals exact .inl (plain rfl rfl)
  case load t x =>
    (repeat' split at hr) <;> (try cases hr)
    · obtain ⟨hn, hr2⟩ := cond_some hr
      injection hr2 with hr2
      exact .inl ⟨_, hr2.symm, fun b hb => (nr (Bool.and_eq_true_iff.1 hn).1 hb).elim⟩
    · obtain ⟨hn, hr2⟩ := cond_some hr
      injection hr2 with hr2
      exact .inl (plain hr2.symm rfl)
    · exact .inl (plain rfl rfl)
    · obtain ⟨hn, hr2⟩ := cond_some hr
      injection hr2 with hr2
      exact .inl (plain hr2.symm rfl)
  case store t x y =>
    (repeat' split at hr) <;> (try cases hr)
    · obtain ⟨hn, hr2⟩ := cond_some hr
      injection hr2 with hr2
      have hx := ‹ρ x = AV.ptr _ _›
      exact .inr (.inr (.inl ⟨_, _, hr2.symm, rfl, rfl, x, by simp [Op.operands], by rw [hx]; rfl⟩))
    · obtain ⟨hn, hr2⟩ := cond_some hr
      injection hr2 with hr2
      have hx := ‹ρ x = AV.pidx _ _ _›
      exact .inr (.inr (.inl ⟨_, _, hr2.symm, rfl, rfl, x, by simp [Op.operands], by rw [hx]; rfl⟩))
    · obtain ⟨hn, hr2⟩ := cond_some hr
      injection hr2 with hr2
      have hx := ‹ρ x = AV.ridx _ _›
      exact .inr (.inr (.inl ⟨_, _, hr2.symm, rfl, rfl, x, by simp [Op.operands], by rw [hx]; rfl⟩))
  case buildSlice t n ps =>
    (repeat' split at hr) <;> (try cases hr)
    obtain ⟨hl, hr2⟩ := cond_some hr
    injection hr2 with hr2
    rw [Bool.and_eq_true] at hl
    subst hr2
    exact .inr (.inl ⟨_, _, rfl, rfl, rfl, by assumption, nblt.1 hl.1⟩)
  case makeSlice t l c =>
    (repeat' split at hr) <;> (try cases hr)
    obtain ⟨hl, hr1⟩ := cond_some hr
    obtain ⟨_, hr2⟩ := cond_some hr1
    obtain ⟨_, hr3⟩ := cond_some hr2
    injection hr3 with hr3
    rw [Bool.and_eq_true] at hl
    subst hr3
    exact .inr (.inl ⟨_, _, rfl, rfl, rfl, by assumption, nblt.1 hl.1⟩)
  case binOp op xt x y yt =>
    cases he : errNil (T xt) y <;> rw [he] at hr
    · simp only [cond_false] at hr
      rw [bop_bind] at hr
      obtain ⟨r, hb, hr2⟩ := Option.bind_eq_some_iff.1 hr
      injection hr2 with hr2
      refine .inl (plain hr2.symm ?_)
      exact bop_ref hb
    · simp only [cond_true] at hr
      rw [ebop_bind] at hr
      obtain ⟨r, hb, hr2⟩ := Option.bind_eq_some_iff.1 hr
      injection hr2 with hr2
      refine .inl (plain hr2.symm ?_)
      exact ebop_ref hb
  case unOp op t x =>
    (repeat' split at hr) <;> (try cases hr)
    all_goals exact .inl (plain rfl rfl)
  case convert s d x =>
    split at hr
    · obtain ⟨_, hr2⟩ := cond_some hr
      rw [bytesK_bind] at hr2
      obtain ⟨xs, _, hr3⟩ := Option.bind_eq_some_iff.1 hr2
      injection hr3 with hr3
      exact .inl (plain hr3.symm rfl)
    · split at hr
      · obtain ⟨_, hr2⟩ := cond_some hr
        injection hr2 with hr2
        exact .inl (plain hr2.symm rfl)
      · cases hr
    · (repeat' split at hr) <;> (try cases hr)
      all_goals exact .inl (plain rfl rfl)
  case slice t x lo hi mx =>
    (repeat' split at hr) <;> (try cases hr)
    · obtain ⟨hn, hr2⟩ := cond_some hr
      injection hr2 with hr2
      have hx := ‹ρ x = AV.ptr _ _›
      exact .inl ⟨_, hr2.symm, fun b hb => ⟨x, by simp [Op.operands], by rw [hx]; exact hb⟩⟩
    · obtain ⟨hn, hr2⟩ := cond_some hr
      injection hr2 with hr2
      exact .inl (plain hr2.symm rfl)
    · obtain ⟨hn, hr2⟩ := cond_some hr
      injection hr2 with hr2
      exact .inl (plain hr2.symm rfl)
    · rename_i hrk
      obtain ⟨hf, hr2⟩ := cond_some hr
      obtain ⟨_, hr3⟩ := cond_some hr2
      injection hr3 with hr3
      have hk : killsB T.kl dst = true := by
        cases hk : killsB T.kl dst with
        | true => rfl
        | false => rw [hk] at hrk; cases hrk
      obtain ⟨d, rfl, hd1, hd2⟩ := isFree_spec hf
      exact .inr (.inr (.inr ⟨by simp [mc, hk], .inl ⟨d, _, _, _, _, hr3.symm, rfl, hd1, hd2⟩⟩))
  case sliceToArrayPointer t x =>
    (repeat' split at hr) <;> (try cases hr)
    obtain ⟨hn, hr2⟩ := cond_some hr
    injection hr2 with hr2
    have hx := ‹ρ x = AV.bor _ _ _›
    exact .inl ⟨_, hr2.symm, fun b hb => ⟨x, by simp [Op.operands], by rw [hx]; exact hb⟩⟩
  case field t x f =>
    (repeat' split at hr) <;> (try cases hr)
    all_goals
      obtain ⟨hn, hr2⟩ := cond_some hr
      injection hr2 with hr2
      simp only [Bool.and_eq_true] at hn
      exact .inl ⟨_, hr2.symm, fun b hb => (nr hn.2 hb).elim⟩
  case fieldAddr t x f =>
    (repeat' split at hr) <;> (try cases hr)
    all_goals
      rename_i hx
      obtain ⟨hn, hr2⟩ := cond_some hr
      injection hr2 with hr2
      exact .inl ⟨_, hr2.symm, fun b hb => ⟨x, by simp [Op.operands], by rw [hx]; exact hb⟩⟩
  case indexAddr t x i =>
    (repeat' split at hr) <;> (try cases hr)
    · have hx := ‹ρ x = AV.ptr _ _›
      obtain ⟨h1, hr2⟩ := cond_some hr
      obtain ⟨h2, hr3⟩ := cond_some hr2
      injection hr3 with hr3
      exact .inl ⟨_, hr3.symm, fun b hb => ⟨x, by simp [Op.operands], by rw [hx]; exact hb⟩⟩
    · obtain ⟨h1, hr2⟩ := cond_some hr
      obtain ⟨h2, hr3⟩ := cond_some hr2
      injection hr3 with hr3
      exact .inl (plain hr3.symm rfl)
    · have hx := ‹ρ x = AV.own _›
      obtain ⟨h1, hr2⟩ := cond_some hr
      obtain ⟨h2, hr3⟩ := cond_some hr2
      injection hr3 with hr3
      exact .inl ⟨_, hr3.symm, fun b hb => ⟨x, by simp [Op.operands], by rw [hx]; exact hb⟩⟩
  case index t x i =>
    (repeat' split at hr) <;> (try cases hr)
    · obtain ⟨h0, hr1⟩ := cond_some hr
      obtain ⟨h1, hr2⟩ := cond_some hr1
      obtain ⟨h2, hr3⟩ := cond_some hr2
      injection hr3 with hr3
      exact .inl (plain hr3.symm rfl)
    · obtain ⟨h1, hr2⟩ := cond_some hr
      obtain ⟨h2, hr3⟩ := cond_some hr2
      injection hr3 with hr3
      exact .inl (plain hr3.symm rfl)
  case extract x j =>
    (repeat' split at hr) <;> (try cases hr)
    obtain ⟨hn, hr2⟩ := cond_some hr
    injection hr2 with hr2
    simp only [Bool.and_eq_true] at hn
    exact .inl ⟨_, hr2.symm, fun b hb => (nr hn.2 hb).elim⟩
  case makeInterface t x =>
    (repeat' split at hr) <;> (try cases hr)
    exact .inl (plain rfl rfl)
  case call c =>
    obtain ⟨callee, args, argTypes⟩ := c
    cases callee
    case value f =>
      cases f
      case func f =>
        cases hwr : T.wr f with
        | some F =>
          simp only [hwr] at hr
          obtain ⟨b, zs, k, e, ys, r, rest, _, hob, _, _, _, htold, _, hout⟩ := hr
          exact .inr (.inr (.inr ⟨by simp [mc, hwr], .inr (.inr ⟨b, _, r, hout, by cases r <;> first | rfl | simp [told] at htold, by rw [hob]; simp⟩)⟩))
        | none =>
        simp only [hwr] at hr
        obtain ⟨av, _, _, h4, h5⟩ := hr
        have hnr : refOf av = Option.none := by cases av <;> first | rfl | simp [told] at h4
        rcases h5 with ⟨_, h6, _⟩ | ⟨hk, h6, _⟩
        · exact .inl (plain h6 hnr)
        · exact .inr (.inr (.inr ⟨by have hk' : killsB T.kl dst = true := hk; simp [mc, hk', hwr], .inr (.inl ⟨_, _, h6, hnr⟩)⟩))
      all_goals exact hr.elim
    case invoke => exact hr.elim
    case builtin b =>
      cases b
      case append =>
        simp only at hr
        (repeat' split at hr) <;> (try cases hr)
        · obtain ⟨hl, hr1⟩ := cond_some hr
          obtain ⟨_, hr2⟩ := cond_some hr1
          injection hr2 with hr2
          simp only [Bool.and_eq_true, nblt] at hl
          exact .inr (.inr (.inr ⟨rfl, .inl ⟨_, _, _, _, _, hr2.symm, rfl, by assumption, hl.2⟩⟩))
        · obtain ⟨hl, hr1⟩ := cond_some hr
          obtain ⟨_, hr2⟩ := cond_some hr1
          injection hr2 with hr2
          simp only [Bool.and_eq_true, nblt] at hl
          exact .inr (.inr (.inr ⟨rfl, .inl ⟨_, _, _, _, _, hr2.symm, rfl, by assumption, hl.2⟩⟩))
      case copy =>
        simp only at hr
        (repeat' split at hr) <;> (try cases hr)
        obtain ⟨_, hr1⟩ := cond_some hr
        injection hr1 with hr1
        refine .inr (.inr (.inr ⟨rfl, .inr (.inr ⟨_, _, _, hr1.symm, rfl, ?_⟩)⟩))
        rename_i hrx hrow _ _ _ _
        intro hnone
        unfold rowFor at hrow
        split at hrow
        · rw [hrx] at hrow
          simp only [baseOf, hnone, reduceCtorEq] at hrow
        · cases hrow
      all_goals
        simp only at hr
        (repeat' split at hr) <;> (try cases hr)
        all_goals first | exact .inl (plain rfl rfl) | (exfalso; simp_all; done)
where
  ibop_ref {op : BinOp} {k : IntKind} {a b : Int} {r : AV} (h : ibop op k a b some = some r) : refOf r = Option.none := by
    cases op <;> simp only [ibop, Option.some.injEq, reduceCtorEq] at h
    case quo => obtain ⟨_, h⟩ := cond_none h; injection h with h; subst h; rfl
    case rem => obtain ⟨_, h⟩ := cond_none h; injection h with h; subst h; rfl
    all_goals (subst h; rfl)
  bop_ref {op : BinOp} {xt : TypeId} {x y r : AV} (h : bop T op xt x y some = some r) : refOf r = Option.none := by
    unfold bop at h
    split at h
    · split at h
      · obtain ⟨_, h⟩ := cond_none h; injection h with h; subst h; rfl
      · obtain ⟨_, h⟩ := cond_none h; injection h with h; subst h; rfl
      · obtain ⟨_, h⟩ := cond_some h; exact ibop_ref h
    · split at h
      · split at h <;> (try cases h) <;> rfl
      · cases h
    · split at h <;> (try cases h) <;> first | rfl | (obtain ⟨_, h⟩ := cond_some h; injection h with h; subst h; rfl)
    · split at h
      · obtain ⟨_, h⟩ := cond_some h
        split at h <;> (try cases h) <;> rfl
      · cases h
    · split at h
      · obtain ⟨_, h'⟩ := cond_some h
        clear h
        split at h' <;> (try cases h') <;> rfl
      · cases h
    · cases h
  ebop_ref {op : BinOp} {x r : AV} (h : ebop op x some = some r) : refOf r = Option.none := by
    unfold ebop at h
    split at h
    · split at h <;> (try cases h) <;> rfl
    · split at h <;> (try cases h) <;> rfl
    · cases h

end forms

/-- is an operation wanted? -/
def aw (ops : List Oper) (o : Oper) (slots : List AV) : Option Bool :=
  match o.guard with
  | Option.none => some true
  | some (j, want) => match (ops[j]?).bind (·.dst) with
    | Option.none => Option.none
    | some d => match getS slots d with
      | .v (.bool b) => some (b == want)
      | .tup [] => some false
      | _ => Option.none

section steps
variable {P : Program} {T : Tb} {ops : Array Oper}
def Does (P : Program) (T : Tb) (ops : Array Oper) (o : Oper) (st : St) (out : Out) : Prop :=
  (aw ops.toList o st.slots = some true ∧ Res P T o st.ev st.heap out) ∨ (aw ops.toList o st.slots = some false ∧ out = .val (.tup []))
def Step1 (P : Program) (T : Tb) (ops : Array Oper) (o : Oper) (st st' : St) : Prop := ∃ out, Does P T ops o st out ∧ st' = apply o st out
def RunI (P : Program) (T : Tb) (ops : Array Oper) : List Nat → St → St → Prop
  | [], st, st' => st' = st
  | i :: l, st, st' => ∃ o s1, ops[i]? = some o ∧ Step1 P T ops o st s1 ∧ RunI P T ops l s1 st'

def WF (st : St) : Prop := ∀ t b, refOf (getS st.slots t) = some b → getH st.heap b ≠ Option.none

theorem ev_tmp (st : St) (x : Operand) (b : Nat) (h : refOf (st.ev x) = some b) : ∃ t, x = .tmp t ∧ refOf (getS st.slots t) = some b := by
  cases x with
  | tmp t => exact ⟨t, rfl, h⟩
  | const c => simp [St.ev, refOf] at h
  | global g => simp [St.ev, refOf] at h
  | func f => simp [St.ev, refOf] at h

/-- the forms of what is done -/
theorem Does.form {o : Oper} {st : St} {out : Out} (hd : Does P T ops o st out) :
    (∃ v, out = .val v ∧ (∀ b, refOf v = some b → ∃ t, refOf (getS st.slots t) = some b)) ∨
    (∃ d ob, Mk out ob ∧ mc T o = 2 ∧ o.dst = some d ∧ getH st.heap d = Option.none ∧ d < st.heap.length) ∨
    (∃ b ob, out = .store b ob ∧ mc T o = 3 ∧ o.dst = Option.none ∧ ∃ t, refOf (getS st.slots t) = some b) ∨
    (mc T o = 4 ∧ ((∃ d ks k e xs, out = .row ks k e xs ∧ o.dst = some d ∧ getH st.heap d = Option.none ∧ d < st.heap.length) ∨ (∃ ks v, out = .kval ks v ∧ refOf v = Option.none) ∨ ∃ b ob v, out = .upd b ob v ∧ refOf v = Option.none ∧ getH st.heap b ≠ Option.none)) := by
  rcases hd with ⟨_, hr⟩ | ⟨_, rfl⟩
  · rcases hr.form with ⟨v, h1, h2⟩ | h | ⟨b, ob, h1, h2, h3, x, _, h5⟩ | h
    · exact .inl ⟨v, h1, fun b hb => let ⟨x, _, hx⟩ := h2 b hb; let ⟨t, _, ht⟩ := ev_tmp st x b hx; ⟨t, ht⟩⟩
    · exact .inr (.inl h)
    · obtain ⟨t, _, ht⟩ := ev_tmp st x b h5
      exact .inr (.inr (.inl ⟨b, ob, h1, h2, h3, t, ht⟩))
    · exact .inr (.inr (.inr h))
  · exact .inl ⟨.tup [], rfl, fun b hb => by simp [refOf] at hb⟩

theorem getS_set (l : List AV) (n m : Nat) (x : AV) : getS (setS l n x) m = if n = m ∧ n < l.length then x else getS l m := by
  by_cases h : n = m
  · subst h
    by_cases hl : n < l.length
    · rw [if_pos ⟨rfl, hl⟩, getS_set_same _ _ _ hl]
    · rw [if_neg (fun h => hl h.2), setS_big l n x (by omega)]
  · rw [if_neg (fun e => h e.1), getS_set_ne _ _ _ _ h]
where
  setS_big : ∀ (l : List AV) (n : Nat) (x : AV), l.length ≤ n → setS l n x = l
    | [], _, _, _ => rfl
    | _ :: r, 0, _, h => by simp at h
    | _ :: r, n + 1, x, h => by simp only [setS]; rw [setS_big r n x (by simpa using h)]

theorem killH_some : ∀ (ks : List Nat) (h : List (Option OB)) (b : Nat), getH h b ≠ Option.none → getH (killH h ks) b ≠ Option.none
  | [], _, _, h => h
  | k :: r, h, b, hb => by
    refine killH_some r _ b ?_
    by_cases e : k = b
    · subst e
      cases h2 : getH h k with
      | none => exact absurd h2 hb
      | some ob => rw [getH_set_same _ _ _ (getH_lt _ _ _ h2)]; simp
    · rw [getH_set_ne _ _ _ _ e]; exact hb
/-- what a step does to a new block's slot and memory -/
theorem Mk.apply {out : Out} {ob : OB} (h : Mk out ob) {o : Oper} {d : Nat} (hd : o.dst = some d) (st : St) : ∃ x, refOf x = some d ∧ apply o st out = ⟨setS st.slots d x, setH st.heap d (some ob)⟩ := by
  cases out with
  | mk ob' => cases h; exact ⟨.ptr d 0, rfl, by simp only [Eng.apply, hd]⟩
  | row ks k e xs =>
    cases ks with
    | nil => cases h; exact ⟨.own d, rfl, by simp only [Eng.apply, hd, killH]⟩
    | cons _ _ => exact h.elim
  | _ => exact h.elim
theorem WF.step {o : Oper} {st st' : St} (hw : WF st) (hs : Step1 P T ops o st st') : WF st' := by
  obtain ⟨out, hd, rfl⟩ := hs
  rcases hd.form with ⟨v, rfl, hv⟩ | ⟨d, ob, hmk, _, hdst, hnone, hlen⟩ | ⟨b, ob, rfl, _, hdst, t0, ht0⟩ | ⟨_, ⟨d, ks, k, e, xs, rfl, hdst, hnone, hlen⟩ | ⟨ks, v, rfl, hv⟩ | ⟨b0, ob, v, rfl, hv, hb0⟩⟩
  · intro t b hb
    show getH (st.put o.dst v).heap b ≠ _
    have e : (st.put o.dst v).heap = st.heap := by unfold St.put; split <;> rfl
    rw [e]
    cases hdst : o.dst with
    | none =>
      have hb' : refOf (getS (st.put o.dst v).slots t) = some b := hb
      rw [hdst] at hb'
      exact hw t b hb'
    | some d =>
      have hb' : refOf (getS (st.put o.dst v).slots t) = some b := hb
      rw [hdst] at hb'
      simp only [St.put, getS_set] at hb'
      split at hb'
      · obtain ⟨t2, ht2⟩ := hv b hb'; exact hw t2 b ht2
      · exact hw t b hb'
  · intro t b hb
    obtain ⟨x, hx, he⟩ := hmk.apply hdst st
    rw [he] at hb ⊢
    simp only at hb ⊢
    by_cases hbd : b = d
    · rw [hbd, getH_set_same _ _ _ hlen]; simp
    · rw [getH_set_ne _ _ _ _ (Ne.symm hbd)]
      rw [getS_set] at hb
      split at hb
      · rw [hx] at hb; injection hb with hb; exact absurd hb.symm hbd
      · exact hw t b hb
  · intro t b' hb
    simp only [apply] at hb ⊢
    by_cases hbd : b' = b
    · rw [hbd]
      have h1 := hw t0 b ht0
      cases h2 : getH st.heap b with
      | none => exact absurd h2 h1
      | some ob2 => rw [getH_set_same _ _ _ (getH_lt _ _ _ h2)]; simp
    · rw [getH_set_ne _ _ _ _ (Ne.symm hbd)]; exact hw t b' hb
  · intro t b hb
    simp only [apply, hdst] at hb ⊢
    by_cases hbd : b = d
    · rw [hbd, getH_set_same _ _ _ (by rw [getH_killH.lenK]; exact hlen)]; simp
    · rw [getH_set_ne _ _ _ _ (Ne.symm hbd)]
      rw [getS_set] at hb
      split at hb
      · simp [refOf] at hb; exact absurd hb.symm hbd
      · exact killH_some _ _ _ (hw t b hb)
  · intro t b hb
    simp only [apply] at hb ⊢
    refine killH_some _ _ _ ?_
    cases hdst : o.dst with
    | none => rw [hdst] at hb; exact hw t b hb
    | some d =>
      rw [hdst] at hb
      simp only [St.put, getS_set] at hb
      split at hb
      · rw [hv] at hb; cases hb
      · exact hw t b hb
  · intro t b hb
    have hb2 : refOf (getS st.slots t) = some b := by
      simp only [apply] at hb
      cases hdst : o.dst with
      | none => rw [hdst] at hb; exact hb
      | some d =>
        rw [hdst] at hb
        simp only [St.put, getS_set] at hb
        split at hb
        · rw [hv] at hb; cases hb
        · exact hb
    simp only [apply]
    by_cases hbd : b = b0
    · rw [hbd]
      cases h2 : getH st.heap b0 with
      | none => exact absurd h2 hb0
      | some ob2 => rw [getH_set_same _ _ _ (getH_lt _ _ _ h2)]; simp
    · rw [getH_set_ne _ _ _ _ (Ne.symm hbd)]; exact hw t b hb2

/-- the slot of an operation's address -/
def adr : Op → Option Nat
  | .load _ (.tmp s) => some s
  | .store _ (.tmp s) _ => some s
  | _ => Option.none
/-- two operations that touch two blocks -/
def farApart (rt : List (Nat × Nat)) (x y : Op) : Bool :=
  match adr x, adr y with
  | some s, some t => !(Nat.beq (lookB rt s) (lookB rt t))
  | _, _ => false
/-- two operations that may change places -/
def indep (T : Tb) (ops : Array Oper) (x y : Oper) : Bool :=
  Oper.apart ops x y && (Nat.beq (mc T x) 0 || Nat.beq (mc T y) 0 || (Nat.ble (mc T x) 2 && Nat.ble (mc T y) 2) || farApart T.rt x.op y.op)
theorem far_spec {rt : List (Nat × Nat)} {x y : Op} (h : farApart rt x y = true) : ∃ s t, adr x = some s ∧ adr y = some t ∧ lookB rt s ≠ lookB rt t := by
  unfold farApart at h
  cases hx : adr x <;> cases hy : adr y <;> rw [hx, hy] at h <;> simp only [Bool.false_eq_true, Bool.not_eq_true'] at h
  exact ⟨_, _, rfl, rfl, fun e => by rw [nbeq.2 e] at h; cases h⟩
/-- an operation with an address leads to its block alone -/
theorem Res.adr_ref {o : Oper} {ρ : Operand → AV} {h : List (Option OB)} {out : Out} (hr : Res P T o ρ h out) {s : Nat} (ha : adr o.op = some s) : ∀ x ∈ o.op.operands, ∀ b, refOf (ρ x) = some b → b = lookB T.rt s := by
  have nr : ∀ {x : AV} {b : Nat}, noRef x = true → refOf x = some b → False := by
    intro x b h1 h2; simp [noRef, h2] at h1
  obtain ⟨dst, op, type, pos, after, guard⟩ := o
  cases op <;> simp only [adr, reduceCtorEq] at ha
  case load t x =>
    cases x <;> simp only [reduceCtorEq, Option.some.injEq] at ha
    subst ha
    intro y hy b hb
    simp only [Op.operands, List.mem_toArray, List.mem_cons, List.not_mem_nil, or_false] at hy
    subst hy
    simp only [Res, res] at hr
    (repeat' split at hr) <;> (try cases hr)
    · have hx := ‹ρ _ = AV.ptr _ _›
      obtain ⟨hn, _⟩ := cond_some hr
      simp only [rootOK, Bool.and_eq_true, nbeq] at hn
      rw [hx] at hb; injection hb with hb; rw [← hb]; exact hn.2.symm
    · have hx := ‹ρ _ = AV.pidx _ _ _›
      obtain ⟨hn, _⟩ := cond_some hr
      simp only [rootOK, Bool.and_eq_true, nbeq] at hn
      rw [hx] at hb; injection hb with hb; rw [← hb]; exact hn.2.symm
    · have hx := ‹ρ _ = AV.lidx _ _ _›
      rw [hx] at hb; simp [refOf] at hb
    · have hx := ‹ρ _ = AV.ridx _ _›
      obtain ⟨hn, _⟩ := cond_some hr
      simp only [rootOK, nbeq] at hn
      rw [hx] at hb; injection hb with hb; rw [← hb]; exact hn.symm
  case store t x z =>
    cases x <;> simp only [reduceCtorEq, Option.some.injEq] at ha
    subst ha
    intro y hy b hb
    simp only [Op.operands, List.mem_toArray, List.mem_cons, List.not_mem_nil, or_false] at hy
    simp only [Res, res] at hr
    (repeat' split at hr) <;> (try cases hr)
    · have hx := ‹ρ (.tmp _) = AV.ptr _ _›
      obtain ⟨hn, _⟩ := cond_some hr
      simp only [rootOK, Bool.and_eq_true, nbeq] at hn
      rcases hy with rfl | rfl
      · rw [hx] at hb; injection hb with hb; rw [← hb]; exact hn.2.symm
      · exact (nr hn.1 hb).elim
    · have hx := ‹ρ (.tmp _) = AV.pidx _ _ _›
      have hz := ‹ρ z = AV.v _›
      obtain ⟨hn, _⟩ := cond_some hr
      simp only [rootOK, Bool.and_eq_true, nbeq] at hn
      rcases hy with rfl | rfl
      · rw [hx] at hb; injection hb with hb; rw [← hb]; exact hn.2.symm
      · rw [hz] at hb; simp [refOf] at hb
    · have hx := ‹ρ (.tmp _) = AV.ridx _ _›
      have hz := ‹ρ z = AV.v _›
      obtain ⟨hn, _⟩ := cond_some hr
      simp only [rootOK, Bool.and_eq_true, nbeq] at hn
      rcases hy with rfl | rfl
      · rw [hx] at hb; injection hb with hb; rw [← hb]; exact hn.2.symm
      · rw [hz] at hb; simp [refOf] at hb
theorem Res.adr_store {o : Oper} {ρ : Operand → AV} {h : List (Option OB)} {b : Nat} {ob : OB} (hr : Res P T o ρ h (.store b ob)) {s : Nat} (ha : adr o.op = some s) : b = lookB T.rt s := by
  rcases hr.form with ⟨v, h1, _⟩ | ⟨d, ob', h1, _⟩ | ⟨b', ob', h1, _, _, x, hx, hb⟩ | ⟨_, ⟨_, _, _, _, _, h1, _⟩ | ⟨_, _, h1, _⟩ | ⟨_, _, _, h1, _⟩⟩
  · cases h1
  · exact h1.elim
  · injection h1 with h1 h2
    subst h1
    exact hr.adr_ref ha x hx _ hb
  · cases h1
  · cases h1
  · cases h1

theorem looks_op {o : Oper} {t : Tmp} (h : .tmp t ∈ o.op.operands) : t ∈ o.looksAt ops := by
  unfold Oper.looksAt
  exact List.mem_append_left _ (List.mem_filterMap.2 ⟨.tmp t, by simpa using h, rfl⟩)
theorem ev_same {o : Oper} {st st' : St} (h : ∀ t ∈ o.looksAt ops, getS st.slots t = getS st'.slots t) : ∀ x ∈ o.op.operands, st.ev x = st'.ev x := by
  intro x hx
  cases x with
  | tmp t => exact h t (looks_op hx)
  | const c => rfl
  | global g => rfl
  | func f => rfl
theorem aw_same {o : Oper} {s s' : List AV} (h : ∀ t ∈ o.looksAt ops, getS s t = getS s' t) : aw ops.toList o s = aw ops.toList o s' := by
  unfold aw
  cases hg : o.guard with
  | none => rfl
  | some p =>
    obtain ⟨j, want⟩ := p
    simp only
    cases hd : (ops.toList[j]?).bind (·.dst) with
    | none => rfl
    | some d =>
      simp only
      rw [h d (by unfold Oper.looksAt; rw [hg]; simp only; rw [← Array.getElem?_toList, hd]; simp)]
theorem Does.same {o : Oper} {st st' : St} {out : Out} (h : ∀ t ∈ o.looksAt ops, getS st.slots t = getS st'.slots t)
    (hh : Res P T o st.ev st.heap out → mc T o = 0 ∨ ((∀ x ∈ o.op.operands, ∀ b, refOf (st.ev x) = some b → getH st.heap b = getH st'.heap b) ∧ (∀ d, o.dst = some d → (getH st.heap d = Option.none ↔ getH st'.heap d = Option.none)) ∧ st.heap.length = st'.heap.length))
    (hd : Does P T ops o st out) : Does P T ops o st' out := by
  rcases hd with ⟨h1, h2⟩ | ⟨h1, h2⟩
  · exact .inl ⟨by rw [← aw_same h]; exact h1, Res.congr (ev_same h) (hh h2) h2⟩
  · exact .inr ⟨by rw [← aw_same h]; exact h1, h2⟩

/-- a step's slots and memory, apart -/
def sl' (o : Oper) (slots : List AV) : Out → List AV
  | .val x => match o.dst with
    | some d => setS slots d x
    | Option.none => slots
  | .mk _ => match o.dst with
    | some d => setS slots d (.ptr d 0)
    | Option.none => slots
  | .store _ _ => slots
  | .row _ _ _ _ => match o.dst with
    | some d => setS slots d (.own d)
    | Option.none => slots
  | .kval _ x | .upd _ _ x => match o.dst with
    | some d => setS slots d x
    | Option.none => slots
def hp' (o : Oper) (heap : List (Option OB)) : Out → List (Option OB)
  | .val _ => heap
  | .mk ob => match o.dst with
    | some d => setH heap d (some ob)
    | Option.none => heap
  | .store b ob => setH heap b (some ob)
  | .row ks k e xs => match o.dst with
    | some d => setH (killH heap ks) d (some (.row k e xs))
    | Option.none => heap
  | .kval ks _ => killH heap ks
  | .upd b ob _ => setH heap b (some ob)
theorem Mk.hp {out : Out} {ob : OB} (h : Mk out ob) {o : Oper} {d : Nat} (hd : o.dst = some d) (heap : List (Option OB)) : hp' o heap out = setH heap d (some ob) := by
  cases out with
  | mk ob' => cases h; simp only [hp', hd]
  | row ks k e xs =>
    cases ks with
    | nil => cases h; simp only [hp', hd, killH]
    | cons _ _ => exact h.elim
  | _ => exact h.elim
theorem apply_eq (o : Oper) (st : St) (out : Out) : apply o st out = ⟨sl' o st.slots out, hp' o st.heap out⟩ := by
  cases hd : o.dst <;> cases out <;> simp only [apply, St.put, sl', hp', hd]
theorem sl'_ne {o : Oper} {slots : List AV} {out : Out} {t : Nat} (h : o.dst ≠ some t) : getS (sl' o slots out) t = getS slots t := by
  cases out <;> simp only [sl'] <;> first
    | rfl
    | (split
       · rename_i d hd; exact getS_set_ne _ _ _ _ (fun e => h (by rw [hd, e]))
       · rfl)
theorem sl'_comm {x y : Oper} {slots : List AV} {ox oy : Out} (h : ∀ d, x.dst = some d → y.dst ≠ some d) : sl' y (sl' x slots ox) oy = sl' x (sl' y slots oy) ox := by
  cases hx : x.dst <;> cases hy : y.dst <;> cases ox <;> cases oy <;> simp only [sl', hx, hy]
  all_goals exact setS_comm _ _ _ _ _ (fun e => h _ hx (by rw [hy, e]))

theorem wf_ne {st : St} (hw : WF st) {x : Operand} {b d : Nat} (hb : refOf (st.ev x) = some b) (hd : getH st.heap d = Option.none) : d ≠ b := by
  obtain ⟨t, _, ht⟩ := ev_tmp st x b hb
  exact fun e => hw t b ht (by rw [← e]; exact hd)
theorem Does.store_at {o : Oper} {st : St} {b : Nat} {ob : OB} (hd : Does P T ops o st (.store b ob)) {s : Nat} (ha : adr o.op = some s) : b = lookB T.rt s := by
  rcases hd with ⟨_, hr⟩ | ⟨_, h⟩
  · exact hr.adr_store ha
  · cases h

theorem mc_adr {o : Oper} {s : Nat} (h : adr o.op = some s) : mc T o ≠ 4 := by
  obtain ⟨dst, op, type, pos, after, guard⟩ := o
  cases op <;> simp only [adr, reduceCtorEq] at h <;> simp [mc]
theorem mc_adr2 {o : Oper} {s : Nat} (h : adr o.op = some s) : mc T o ≠ 2 := by
  obtain ⟨dst, op, type, pos, after, guard⟩ := o
  cases op <;> simp only [adr, reduceCtorEq] at h <;> simp [mc]
theorem swap {x y : Oper} {st s1 s2 : St} (hi : indep T ops x y = true) (hw : WF st) (h1 : Step1 P T ops x st s1) (h2 : Step1 P T ops y s1 s2) :
    ∃ s1', Step1 P T ops y st s1' ∧ Step1 P T ops x s1' s2 := by
  obtain ⟨ox, hx, rfl⟩ := h1
  obtain ⟨oy, hy, rfl⟩ := h2
  simp only [indep, Bool.and_eq_true, Bool.or_eq_true, nbeq] at hi
  obtain ⟨hap, hm⟩ := hi
  obtain ⟨a1, a2, a3⟩ := Oper.apart_spec hap
  rw [apply_eq] at hy
  -- y looks at what x has not written, and x at what y will not write
  have ly : ∀ t ∈ y.looksAt ops, getS (sl' x st.slots ox) t = getS st.slots t := fun t ht => sl'_ne fun e => a1 t e ht
  have lx : ∀ t ∈ x.looksAt ops, getS (sl' y st.slots oy) t = getS st.slots t := fun t ht => sl'_ne fun e => a3 t e ht
  have evy : ∀ z ∈ y.op.operands, (⟨sl' x st.slots ox, hp' x st.heap ox⟩ : St).ev z = st.ev z := ev_same (ops := ops) (st := ⟨sl' x st.slots ox, hp' x st.heap ox⟩) (st' := st) ly
  have hy0 : Does P T ops y st oy := by
    refine Does.same (st := ⟨sl' x st.slots ox, hp' x st.heap ox⟩) (st' := st) ly (fun hry => ?_) hy
    rcases hx.form with ⟨v, rfl, _⟩ | ⟨d, ob, hmk, _, hdst, hnone, hlen⟩ | ⟨b, ob, rfl, hmx, hdst, _⟩ | ⟨hmx, _⟩
    · exact .inr ⟨fun _ _ _ _ => rfl, fun _ _ => Iff.rfl, rfl⟩
    · refine .inr ⟨fun z hz b hb => ?_, fun d' hd' => ?_, by simp only [hmk.hp hdst]; simp⟩
      · rw [evy z hz] at hb
        simp only [hmk.hp hdst]
        exact getH_set_ne _ _ _ _ (wf_ne hw hb hnone)
      · simp only [hmk.hp hdst]
        rw [getH_set_ne _ _ _ _ (fun e => a2 d hdst (by rw [hd', e]))]
    rotate_left
    · rcases hm with ((hm | hm) | hm) | hm
      · omega
      · exact .inl hm
      · have := Nat.le_of_ble_eq_true hm.1; omega
      · obtain ⟨s, t, hs, _⟩ := far_spec hm
        exact absurd hmx (mc_adr hs)
    · rcases hm with ((hm | hm) | hm) | hm
      · omega
      · exact .inl hm
      · have := Nat.le_of_ble_eq_true hm.1; omega
      · obtain ⟨s, t, hs, ht, hne⟩ := far_spec hm
        have hbs := hx.store_at hs
        refine .inr ⟨fun z hz b' hb => ?_, fun d' hd' => ?_, by simp [hp']⟩
        · have := hry.adr_ref ht z hz b' hb
          simp only [hp']
          exact getH_set_ne _ _ _ _ (fun e => hne (by rw [← hbs, ← this, e]))
        · simp only [hp']
          by_cases hbd : b = d'
          · rcases hx with ⟨_, hrx⟩ | ⟨_, hrx⟩
            · rcases hrx.form with ⟨v, e, _⟩ | ⟨d, ob', e, _⟩ | ⟨b2, ob2, e, _, _, z, hz, hzb⟩ | ⟨h4, _⟩
              · cases e
              · exact e.elim
              rotate_left
              · omega
              · injection e with e1 e2
                subst e1
                obtain ⟨tt, _, htt⟩ := ev_tmp st z _ hzb
                have h0 := hw tt _ htt
                cases h2 : getH st.heap b with
                | none => exact absurd h2 h0
                | some ob3 => subst hbd; rw [getH_set_same _ _ _ (getH_lt _ _ _ h2), h2]; simp
            · cases hrx
          · rw [getH_set_ne _ _ _ _ hbd]
  refine ⟨apply y st oy, ⟨oy, hy0, rfl⟩, ox, ?_, ?_⟩
  · rw [apply_eq]
    refine Does.same (st := st) (fun t ht => (lx t ht).symm) (fun hrx => ?_) hx
    rcases hy0.form with ⟨v, rfl, _⟩ | ⟨d, ob, hmk, _, hdst, hnone, hlen⟩ | ⟨b, ob, rfl, hmy, hdst, t0, ht0⟩ | ⟨hmy, _⟩
    · exact .inr ⟨fun _ _ _ _ => rfl, fun _ _ => Iff.rfl, rfl⟩
    · refine .inr ⟨fun z hz b hb => ?_, fun d' hd' => ?_, by simp only [hmk.hp hdst]; simp⟩
      · simp only [hmk.hp hdst]
        exact (getH_set_ne _ _ _ _ (wf_ne hw hb hnone)).symm
      · simp only [hmk.hp hdst]
        rw [getH_set_ne _ _ _ _ (fun e => a2 d' hd' (by rw [hdst, e]))]
    rotate_left
    · rcases hm with ((hm | hm) | hm) | hm
      · exact .inl hm
      · omega
      · have := Nat.le_of_ble_eq_true hm.2; omega
      · obtain ⟨s, t, _, ht, _⟩ := far_spec hm
        exact absurd hmy (mc_adr ht)
    · rcases hm with ((hm | hm) | hm) | hm
      · exact .inl hm
      · omega
      · have := Nat.le_of_ble_eq_true hm.2; omega
      · obtain ⟨s, t, hs, ht, hne⟩ := far_spec hm
        have hbt := hy0.store_at ht
        refine .inr ⟨fun z hz b' hb => ?_, fun d' hd' => ?_, by simp [hp']⟩
        · have := hrx.adr_ref hs z hz b' hb
          simp only [hp']
          exact (getH_set_ne _ _ _ _ (fun e => hne (by rw [← hbt, ← this, e]))).symm
        · simp only [hp']
          by_cases hbd : b = d'
          · have h0 := hw t0 _ ht0
            cases h2 : getH st.heap b with
            | none => exact absurd h2 h0
            | some ob3 => subst hbd; rw [getH_set_same _ _ _ (getH_lt _ _ _ h2), h2]; simp
          · rw [getH_set_ne _ _ _ _ hbd]
  · simp only [apply_eq]
    rw [sl'_comm a2]
    congr 1
    -- memory
    have val0 : ∀ {o : Oper} {out : Out} {s : St}, Does P T ops o s out → mc T o = 0 → ∃ v, out = .val v := by
      intro o out s hd h0
      rcases hd.form with ⟨v, h1, _⟩ | ⟨_, _, _, h1, _⟩ | ⟨_, _, _, h1, _⟩ | ⟨h1, _⟩
      · exact ⟨v, h1⟩
      · omega
      · omega
      · omega
    by_cases hx0 : mc T x = 0
    · obtain ⟨v, rfl⟩ := val0 hx hx0
      rfl
    by_cases hy00 : mc T y = 0
    · obtain ⟨v, rfl⟩ := val0 hy0 hy00
      rfl
    rcases hm with ((hm | hm) | hm) | hm
    · exact absurd hm hx0
    · exact absurd hm hy00
    · have l1 := Nat.le_of_ble_eq_true hm.1
      have l2 := Nat.le_of_ble_eq_true hm.2
      rcases hx.form with ⟨v, rfl, _⟩ | ⟨d, ob, hmk, _, hdst, _⟩ | ⟨_, _, _, h1, _⟩ | ⟨h1, _⟩
      · rfl
      · rcases hy0.form with ⟨v, rfl, _⟩ | ⟨d2, ob2, hmk2, _, hdst2, _⟩ | ⟨_, _, _, h1, _⟩ | ⟨h1, _⟩
        · rfl
        · rw [hmk.hp hdst, hmk2.hp hdst2, hmk.hp hdst, hmk2.hp hdst2]
          exact setH_comm _ _ _ _ _ (fun e => a2 d hdst (by rw [hdst2, e]))
        · omega
        · omega
      · omega
      · omega
    · obtain ⟨s, t, hs, ht, hne⟩ := far_spec hm
      rcases hx.form with ⟨v, rfl, _⟩ | ⟨d, ob, hmk, h1, hdst, _⟩ | ⟨b, ob, rfl, hmx, hdst, _⟩ | ⟨h1, _⟩
      · rfl
      · exact absurd h1 (mc_adr2 hs)
      · rcases hy0.form with ⟨v, rfl, _⟩ | ⟨d2, ob2, _, h1, _⟩ | ⟨b2, ob2, rfl, hmy, _⟩ | ⟨h1, _⟩
        · rfl
        · exact absurd h1 (mc_adr2 ht)
        · have e1 := hx.store_at hs
          have e2 := hy0.store_at ht
          simp only [hp']
          exact setH_comm _ _ _ _ _ (fun e => hne (by rw [← e1, ← e2, e]))
        · exact absurd h1 (mc_adr ht)
      · exact absurd h1 (mc_adr hs)
end steps
end Go.Proofs.YtcdhcihjcjpmkaaGreatDoor.Eng
