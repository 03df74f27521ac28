/- THE ENGINE, part 4: one operation, all kinds. No statement is proved here. -/
import Derived.Test.YtoconobigciggaaDoorEng3
namespace Go.Proofs.YtoconobigciggaaDoor.Eng
open Go Go.RowKit
set_option linter.unusedVariables false
set_option linter.unusedSimpArgs false

theorem eqL_cons (a b : Int) (as bs : List Int) : eqL (a :: as) (b :: bs) = ((a == b) && eqL as bs) := by unfold eqL; rw [List.cons_beq_cons]
section
variable {P : Program} (w : World)
theorem part_int {e : TypeId} {k : IntKind} (he : P.underlying e = some (.int k)) (cs : Array Value) (i : Nat) {v : Value} (h : cs[i]? = some v) : (part e cs i).run P w = .ok v w := by
  simp [part, run_isAgg he, notAgg, h]
theorem run_equal_arr {t e : TypeId} {n : Nat} {k : IntKind} (d : Nat) (ht : P.underlying t = some (.array n e)) (he : P.underlying e = some (.int k)) (hs : szP P e 1 (.int k 0)) (x y : Vec n) :
    (Op.equalIn (d + 2) t (.agg (x.1.map (Value.int k)).toArray) (.agg (y.1.map (Value.int k)).toArray)).run P w = .ok (eqL x.1 y.1) w := by
  unfold Op.equalIn
  simp only [Sem.run_bind, run_underlying ht, Result.andThen_ok, run_size hs, Std.Legacy.Range.forIn_eq_forIn_range', Std.Legacy.Range.size]
  have key : ∀ (m o : Nat), o + m = n → (forIn (List.range' o m) ((Option.none, ()) : Option Bool × Unit) fun i __s => do
            let __do_lift ← part e (List.map (Value.int k) x.1).toArray (i * 1)
            let __do_lift_1 ← part e (List.map (Value.int k) y.1).toArray (i * 1)
            let __do_lift ← Op.equalIn (d + 1) e __do_lift __do_lift_1
            if (!__do_lift) = true then (pure (ForInStep.done (some false, ())) : Sem _) else pure (ForInStep.yield (Option.none, ()))).run P w =
      .ok (if eqL (x.1.drop o) (y.1.drop o) = true then Option.none else some false, ()) w := by
    intro m
    induction m with
    | zero =>
      intro o ho
      rw [List.drop_of_length_le (by rw [x.2]; omega), List.drop_of_length_le (by rw [y.2]; omega)]
      simp [eqL]
    | succ m ih =>
      intro o ho
      have hx : o < x.1.length := by rw [x.2]; omega
      have hy : o < y.1.length := by rw [y.2]; omega
      rw [List.range'_succ, List.forIn_cons, Sem.run_bind, Sem.run_bind, Nat.mul_one]
      rw [part_int w he _ o (v := .int k x.1[o]) (by simp [hx]), Result.andThen_ok, Sem.run_bind, part_int w he _ o (v := .int k y.1[o]) (by simp [hy]), Result.andThen_ok, Sem.run_bind,
        run_equalIn_int w d e k k _ _ he, Result.andThen_ok]
      rw [List.drop_eq_getElem_cons hx, List.drop_eq_getElem_cons hy]
      by_cases hb : x.1[o] = y.1[o]
      · have := ih (o + 1) (by omega)
        simp only [hb, BEq.rfl, Bool.not_true, Bool.false_eq_true, if_false, Sem.run_pure, Result.andThen_ok]
        rw [this, eqL_cons]
        simp only [BEq.rfl, Bool.true_and]
      · have hb' : (x.1[o] == y.1[o]) = false := by simpa using hb
        simp only [hb', Bool.not_false, if_true, Sem.run_pure, Result.andThen_ok]
        rw [eqL_cons, hb']
        simp only [Bool.false_and, Bool.false_eq_true, if_false]
  have := key n 0 (by omega)
  simp only [List.drop_zero] at this
  rw [show (n - 0 + 1 - 1) / 1 = n by omega]
  rw [this, Result.andThen_ok]
  cases eqL x.1 y.1 <;> rfl
end

theorem cond_some {R : Type} {b : Bool} {x : Option R} {r : R} (h : cond b x Option.none = some r) : b = true ∧ x = some r := by
  cases b
  · cases h
  · exact ⟨rfl, h⟩
theorem cond_none {R : Type} {b : Bool} {x : Option R} {r : R} (h : cond b Option.none x = some r) : b = false ∧ x = some r := by
  cases b
  · exact ⟨rfl, h⟩
  · cases h
theorem leI_iff {a b : Int} : leI a b = true ↔ a ≤ b := by simp [leI]
theorem ltI_iff {a b : Int} : ltI a b = true ↔ a < b := by simp [ltI]
theorem ltI_not {a b : Int} : ltI a b = false ↔ ¬ a < b := by simp [ltI]
theorem eqI_not {a b : Int} : eqI a b = false ↔ ¬ a = b := by simp [eqI]

/-- all the evaluator's words on types are right -/
def TOK (P : Program) (T : Tb) : Prop := ∀ t, tdP P t (T t)

section bop
variable {P : Program} {T : Tb} {L : Nat → Prop} {β : Nat → Option Nat} {w : World}
theorem ibop_sound {op : BinOp} {k : IntKind} {a b : Int} {r : AV} (h : ibop op k a b some = some r) (xt : TypeId) :
    ∃ v, (binOp op xt (.int k a) (.int k b)).run P w = .ok v w ∧ VR L β w r v := by
  cases op <;> simp only [ibop, Option.some.injEq, reduceCtorEq] at h
  case quo =>
    obtain ⟨hb, h⟩ := cond_none h
    injection h with h; subst h
    rw [binOp_quo]; exact ⟨_, by simp [Op.intDiv, eqI_not.1 hb]; rfl, rfl⟩
  case rem =>
    obtain ⟨hb, h⟩ := cond_none h
    injection h with h; subst h
    rw [binOp_rem]; exact ⟨_, by simp [Op.intDiv, eqI_not.1 hb]; rfl, rfl⟩
  all_goals subst h
  case add => rw [binOp_add]; exact ⟨_, rfl, rfl⟩
  case sub => rw [binOp_sub]; exact ⟨_, rfl, rfl⟩
  case mul => rw [binOp_mul]; exact ⟨_, rfl, rfl⟩
  case and => rw [binOp_and]; exact ⟨_, rfl, rfl⟩
  case or => rw [binOp_or]; exact ⟨_, rfl, rfl⟩
  case xor => rw [binOp_xor]; exact ⟨_, rfl, rfl⟩
  case andNot => rw [binOp_andNot]; exact ⟨_, rfl, rfl⟩
  case eql => rw [binOp_eql]; exact ⟨_, rfl, rfl⟩
  case neq => rw [binOp_neq]; exact ⟨_, rfl, rfl⟩
  case lss => rw [binOp_lss]; exact ⟨_, rfl, rfl⟩
  case leq => rw [binOp_leq]; exact ⟨_, rfl, rfl⟩
  case gtr => rw [binOp_gtr]; exact ⟨_, rfl, rfl⟩
  case geq => rw [binOp_geq]; exact ⟨_, rfl, rfl⟩

theorem bop_sound (hT : TOK P T) {op : BinOp} {xt : TypeId} {x y : AV} {r : AV} (h : bop T op xt x y some = some r) {vx vy : Value} (hx : VR L β w x vx) (hy : VR L β w y vy) (X Y : Operand) :
    ∃ v, ((do eqGuard op xt X Y vx vy; binOp op xt vx vy) : Sem Value).run P w = .ok v w ∧ VR L β w r v := by
  cases x <;> simp only [bop, reduceCtorEq] at h
  case v xv =>
    have e : vx = xv := hx
    subst e
    cases vx <;> (try simp only [bop, reduceCtorEq] at h)
    case int k a =>
      cases y <;> (try simp only [bop, reduceCtorEq] at h)
      rename_i yv
      have e : vy = yv := hy
      subst e
      cases vy <;> (try simp only [bop, reduceCtorEq] at h)
      rename_i k' b
      rw [eqGuard_at_int]
      simp only [pure_bind]
      by_cases h1 : op = .shl
      · subst h1
        obtain ⟨hb, h⟩ := cond_none h
        injection h with h; subst h
        rw [binOp_shl]
        exact ⟨_, by simp [Op.shift, ltI_not.1 hb]; rfl, rfl⟩
      · by_cases h2 : op = .shr
        · subst h2
          obtain ⟨hb, h⟩ := cond_none h
          injection h with h; subst h
          rw [binOp_shr]
          exact ⟨_, by simp [Op.shift, ltI_not.1 hb]; rfl, rfl⟩
        · have h' : cond (ikEq k k') (ibop op k a b some) Option.none = some r := by
            cases op <;> first | exact h | exact absurd rfl h1 | exact absurd rfl h2
          obtain ⟨hk, h3⟩ := cond_some h'
          have hk := ikEq_iff.1 hk; subst hk
          exact ibop_sound h3 xt
    case bool va =>
      cases y <;> (try simp only [bop, reduceCtorEq] at h)
      rename_i yv
      have e : vy = yv := hy
      subst e
      cases vy <;> (try simp only [bop, reduceCtorEq] at h)
      rename_i b
      have ht := hT xt
      cases htd : T xt <;> simp only [htd, reduceCtorEq] at h
      rw [htd] at ht
      rw [eqGuard_at_bool]
      simp only [pure_bind]
      have heq := run_equalIn_bool' (P := P) w 9999 xt va b ht.1
      cases op <;> simp only [Option.some.injEq, reduceCtorEq] at h <;> subst h <;> exact ⟨_, by simp only [binOp, Op.equal, Op.maxDepth, Sem.run_bind, heq, Result.andThen_ok, Sem.run_pure, eqB], rfl⟩
    case string a =>
      cases y <;> (try simp only [bop, reduceCtorEq] at h)
      rename_i yv
      have e : vy = yv := hy
      subst e
      cases vy <;> (try simp only [bop, reduceCtorEq] at h)
      rename_i b
      rw [eqGuard_at_string]
      simp only [pure_bind]
      cases op <;> (try simp only [Option.some.injEq, reduceCtorEq] at h)
      case add =>
        obtain ⟨hc, h⟩ := cond_some h
        injection h with h; subst h
        rw [leI_iff] at hc
        refine ⟨_, ?_, rfl⟩
        simp only [binOp, Op.stringOp, IntKind.max_i64]
        rw [if_neg (by omega)]; rfl
      all_goals (subst h; exact ⟨_, rfl, rfl⟩)
  case arr k n a =>
    cases y <;> simp only [bop, reduceCtorEq] at h
    rename_i k' n' b
    have ht := hT xt
    cases htd : T xt <;> simp only [htd, reduceCtorEq] at h
    rename_i k2 n2
    rw [htd] at ht
    obtain ⟨hc, h6⟩ := cond_some h
    clear h
    simp only [Bool.and_eq_true, nbeq, ikEq_iff] at hc
    obtain ⟨⟨⟨rfl, rfl⟩, rfl⟩, rfl⟩ := hc
    cases (show vx = _ from hx)
    cases (show vy = _ from hy)
    obtain ⟨e, h1, h2, h3, h4, h5⟩ := ht
    have heq := run_equal_arr (P := P) w 9998 h1 h2 h3 a b
    have hg := run_eqGuard_agg (P := P) w op xt X Y (a.1.map (Value.int k')).toArray (b.1.map (Value.int k')).toArray h5
    rw [Sem.run_bind, hg, Result.andThen_ok]
    cases op <;> simp only [Option.some.injEq, reduceCtorEq] at h6 <;> subst h6 <;> exact ⟨_, by simp only [binOp, Op.equal, Op.maxDepth, Sem.run_bind, heq, Result.andThen_ok, Sem.run_pure], rfl⟩

theorem eqIn_nil {xt : TypeId} {ms : Array (String × TypeId)} (hu : P.underlying xt = some (.interface ms)) (d : Nat) : (Op.equalIn (d + 1) xt .nilIface .nilIface).run P w = .ok true w := by
  simp only [Op.equalIn, Sem.run_bind, run_underlying hu, Result.andThen_ok, Sem.run_pure]
theorem eqIn_err {xt : TypeId} {ms : Array (String × TypeId)} (hu : P.underlying xt = some (.interface ms)) (d : Nat) (t : TypeId) (v : Value) : (Op.equalIn (d + 1) xt (.iface t v) .nilIface).run P w = .ok false w := by
  simp only [Op.equalIn, Sem.run_bind, run_underlying hu, Result.andThen_ok, Sem.run_pure]
theorem err_sound {op : BinOp} {xt : TypeId} {ms : Array (String × TypeId)} (hu : P.underlying xt = some (.interface ms)) {t : TypeId} {e : Option Int} {r : AV} (h : ebop op (.er t e) some = some r) (X : Operand) :
    ∃ v, ((do eqGuard op xt X (.const .nilIface) (errV t e) .nilIface; binOp op xt (errV t e) .nilIface) : Sem Value).run P w = .ok v w ∧ VR L β w r v := by
  have h0 := eqIn_nil (w := w) hu 9999
  have h1 := eqIn_err (w := w) hu 9999 t
  cases e with
  | none =>
    rw [show errV t Option.none = .nilIface from rfl, eqGuard_nil_constR, pure_bind]
    cases op <;> simp only [ebop, Option.some.injEq, reduceCtorEq] at h <;> subst h
    · exact ⟨.bool true, by simp only [binOp, Op.equal, Op.maxDepth, Sem.run_bind, h0, Result.andThen_ok, Sem.run_pure], rfl⟩
    · exact ⟨.bool false, by simp only [binOp, Op.equal, Op.maxDepth, Sem.run_bind, h0, Result.andThen_ok, Sem.run_pure, Bool.not_true], rfl⟩
  | some c =>
    rw [show errV t (some c) = .iface t (.int .i64 c) from rfl, eqGuard_at_iface, pure_bind]
    cases op <;> simp only [ebop, Option.some.injEq, reduceCtorEq] at h <;> subst h
    · exact ⟨.bool false, by simp only [binOp, Op.equal, Op.maxDepth, Sem.run_bind, h1, Result.andThen_ok, Sem.run_pure], rfl⟩
    · exact ⟨.bool true, by simp only [binOp, Op.equal, Op.maxDepth, Sem.run_bind, h1, Result.andThen_ok, Sem.run_pure, Bool.not_false], rfl⟩
end bop
/-- an evaluator's step that answers one value, whatever is done with it -/
theorem ibop_bind {R : Type} (op : BinOp) (k : IntKind) (a b : Int) (K : AV → Option R) : ibop op k a b K = (ibop op k a b some).bind K := by
  cases op <;> simp only [ibop, Option.bind_some, Option.bind_none] <;> cases eqI b 0 <;> rfl
theorem bop_bind {R : Type} (T : Tb) (op : BinOp) (xt : TypeId) (x y : AV) (K : AV → Option R) : bop T op xt x y K = (bop T op xt x y some).bind K := by
  unfold bop
  split
  · rename_i k a k' b
    cases op <;> simp only <;> first
      | (cases ltI b 0 <;> rfl)
      | (cases ikEq k k' <;> first | rfl | (simp only [cond_true]; exact ibop_bind _ k a b K))
  · split
    · split <;> rfl
    · rfl
  · split <;> first | rfl | (generalize leI _ _ = bb; cases bb <;> rfl)
  · split
    · rename_i k n a k' n' b _ k2 n2 _
      cases (ikEq k k2 && ikEq k' k2 && n.beq n2 && n'.beq n2)
      · rfl
      · simp only [cond_true]; split <;> rfl
    · rfl
  · rfl
theorem ebop_bind {R : Type} (op : BinOp) (x : AV) (K : AV → Option R) : ebop op x K = (ebop op x some).bind K := by
  unfold ebop
  split
  · split <;> rfl
  · split <;> rfl
  · rfl
end Go.Proofs.YtoconobigciggaaDoor.Eng
