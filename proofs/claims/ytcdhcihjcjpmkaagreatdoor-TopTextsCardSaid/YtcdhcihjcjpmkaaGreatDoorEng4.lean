/- THE ENGINE, part 4: one operation, all kinds. No statement is proved here. -/
import Derived.Test.YtcdhcihjcjpmkaaGreatDoorEng3
namespace Go.Proofs.YtcdhcihjcjpmkaaGreatDoor.Eng
open Go Go.RowKit
set_option linter.unusedVariables false
set_option linter.unusedSimpArgs false

theorem eqL_cons (a b : Int) (as bs : List Int) : eqL (a :: as) (b :: bs) = ((a == b) && eqL as bs) := by unfold eqL; rw [List.cons_beq_cons]
section
variable {P : Program} (w : World)
theorem part_int {e : TypeId} {k : IntKind} (he : P.underlying e = some (.int k)) (cs : Array Value) (i : Nat) {v : Value} (h : cs[i]? = some v) : (part e cs i).run P w = .ok v w := by
  simp [part, run_isAgg he, notAgg, h]
theorem run_equal_arr {t e : TypeId} {n : Nat} {k : IntKind} (d : Nat) (ht : P.underlying t = some (.array n e)) (he : P.underlying e = some (.int k)) (hs : szP P e 1 (.int k 0)) (x y : Vec n) :
    (Op.equalIn (d + 2) t (.agg (x.1.map (Value.int k)).toArray) (.agg (y.1.map (Value.int k)).toArray)).run P w = .ok (eqL x.1 y.1) w := by
  unfold Op.equalIn
  simp only [Sem.run_bind, run_underlying ht, Result.andThen_ok, run_size hs, Std.Legacy.Range.forIn_eq_forIn_range', Std.Legacy.Range.size]
  have key : ∀ (m o : Nat), o + m = n → (forIn (List.range' o m) ((Option.none, ()) : Option Bool × Unit) fun i __s => do
            let __do_lift ← part e (List.map (Value.int k) x.1).toArray (i * 1)
            let __do_lift_1 ← part e (List.map (Value.int k) y.1).toArray (i * 1)
            let __do_lift ← Op.equalIn (d + 1) e __do_lift __do_lift_1
            if (!__do_lift) = true then (pure (ForInStep.done (some false, ())) : Sem _) else pure (ForInStep.yield (Option.none, ()))).run P w =
      .ok (if eqL (x.1.drop o) (y.1.drop o) = true then Option.none else some false, ()) w := by
    intro m
    induction m with
    | zero =>
      intro o ho
      rw [List.drop_of_length_le (by rw [x.2]; omega), List.drop_of_length_le (by rw [y.2]; omega)]
      simp [eqL]
    | succ m ih =>
      intro o ho
      have hx : o < x.1.length := by rw [x.2]; omega
      have hy : o < y.1.length := by rw [y.2]; omega
      rw [List.range'_succ, List.forIn_cons, Sem.run_bind, Sem.run_bind, Nat.mul_one]
      rw [part_int w he _ o (v := .int k x.1[o]) (by simp [hx]), Result.andThen_ok, Sem.run_bind, part_int w he _ o (v := .int k y.1[o]) (by simp [hy]), Result.andThen_ok, Sem.run_bind,
        run_equalIn_int w d e k k _ _ he, Result.andThen_ok]
      rw [List.drop_eq_getElem_cons hx, List.drop_eq_getElem_cons hy]
      by_cases hb : x.1[o] = y.1[o]
      · have := ih (o + 1) (by omega)
        simp only [hb, BEq.rfl, Bool.not_true, Bool.false_eq_true, if_false, Sem.run_pure, Result.andThen_ok]
        rw [this, eqL_cons]
        simp only [BEq.rfl, Bool.true_and]
      · have hb' : (x.1[o] == y.1[o]) = false := by simpa using hb
        simp only [hb', Bool.not_false, if_true, Sem.run_pure, Result.andThen_ok]
        rw [eqL_cons, hb']
        simp only [Bool.false_and, Bool.false_eq_true, if_false]
  have := key n 0 (by omega)
  simp only [List.drop_zero] at this
  rw [show (n - 0 + 1 - 1) / 1 = n by omega]
  rw [this, Result.andThen_ok]
  cases eqL x.1 y.1 <;> rfl
end

theorem cond_some {R : Type} {b : Bool} {x : Option R} {r : R} (h : cond b x Option.none = some r) : b = true ∧ x = some r := by
  cases b
  · cases h
  · exact ⟨rfl, h⟩
theorem cond_none {R : Type} {b : Bool} {x : Option R} {r : R} (h : cond b Option.none x = some r) : b = false ∧ x = some r := by
  cases b
  · exact ⟨rfl, h⟩
  · cases h
theorem leI_iff {a b : Int} : leI a b = true ↔ a ≤ b := by simp [leI]
theorem ltI_iff {a b : Int} : ltI a b = true ↔ a < b := by simp [ltI_dec]
theorem ltI_not {a b : Int} : ltI a b = false ↔ ¬ a < b := by simp [ltI_dec]
theorem eqI_not {a b : Int} : eqI a b = false ↔ ¬ a = b := by simp [eqI]

/-- a callee that writes into its first argument, a row: what it leaves there, and what it tells -/
def WInv (P : Program) (f : FuncId) (k : IntKind) (e : TypeId) (xs : List Int) (rest : List AV) (ys : List Int) (r : AV) : Prop := ys.length = xs.length ∧
  ∀ (w : World) (base : Nat) (y : Value) (vals : List Value), w.ownsRow base e 1 y xs.length (xs.map (Value.int k)) → L2 (CR (fun g => y.ownBlock = some g) w) rest vals → GV w → GX (fun g => y.ownBlock = some g) →
    ∀ (o : Oper) (a : Act) (next : Act → World → Prop) (Q : Exit → Act → World → Prop),
      (∀ v w', TR (fun _ => False) w' r v → (∀ g, g < w.heap.size → y.ownBlock ≠ some g → w'.heap[g]? = w.heap[g]?) → w.heap.size ≤ w'.heap.size → w'.os = w.os → w'.tape = w.tape → w'.output = w.output →
        (∀ g, y.ownBlock = some g → ∃ cur cur', w.heap[g]? = some (.cells cur e (0, 0)) ∧ w'.heap[g]? = some (.cells cur' e (0, 0)) ∧ cur'.size = cur.size ∧ cur'.toList.take ys.length = ys.map (Value.int k)) → next (a.put o.dst v) w') →
      o.upon P a next Q ((callFunc f (y :: vals).toArray).run P w)
def WrOK (P : Program) (f : FuncId) (F : (∀ R : Type, TypeId → List AV → (List Int → AV → Option R) → Option R)) : Prop :=
  ∀ (R : Type) (e : TypeId) (k : IntKind) (xs : List Int) (rest : List AV) (K : List Int → AV → Option R) (p : R), F R e (.li k xs :: rest) K = some p → ∃ ys r, K ys r = some p ∧ WInv P f k e xs rest ys r
/-- all the evaluator's words on types are right -/
structure TOK (P : Program) (T : Tb) : Prop where
  td : ∀ t, tdP P t (T t)
  wr : ∀ f F, T.wr f = some F → WrOK P f F
instance {P : Program} {T : Tb} : CoeFun (TOK P T) fun _ => ∀ t, tdP P t (T t) := ⟨TOK.td⟩

section bop
variable {P : Program} {T : Tb} {L : Nat → Prop} {β : Nat → Option Nat} {w : World}
theorem ibop_sound {op : BinOp} {k : IntKind} {a b : Int} {r : AV} (h : ibop op k a b some = some r) (xt : TypeId) :
    ∃ v, (binOp op xt (.int k a) (.int k b)).run P w = .ok v w ∧ VR L β w r v := by
  cases op <;> simp only [ibop, Option.some.injEq, reduceCtorEq] at h
  case quo =>
    obtain ⟨hb, h⟩ := cond_none h
    injection h with h; subst h
    rw [binOp_quo]; exact ⟨_, by simp [Op.intDiv, eqI_not.1 hb]; rfl, rfl⟩
  case rem =>
    obtain ⟨hb, h⟩ := cond_none h
    injection h with h; subst h
    rw [binOp_rem]; exact ⟨_, by simp [Op.intDiv, eqI_not.1 hb]; rfl, rfl⟩
  all_goals subst h
  case add => rw [binOp_add]; exact ⟨_, rfl, rfl⟩
  case sub => rw [binOp_sub]; exact ⟨_, rfl, rfl⟩
  case mul => rw [binOp_mul]; exact ⟨_, rfl, rfl⟩
  case and => rw [binOp_and]; exact ⟨_, rfl, rfl⟩
  case or => rw [binOp_or]; exact ⟨_, rfl, rfl⟩
  case xor => rw [binOp_xor]; exact ⟨_, rfl, rfl⟩
  case andNot => rw [binOp_andNot]; exact ⟨_, rfl, rfl⟩
  case eql => rw [binOp_eql]; exact ⟨_, rfl, rfl⟩
  case neq => rw [binOp_neq]; exact ⟨_, rfl, rfl⟩
  case lss => rw [binOp_lss]; exact ⟨_, rfl, by rw [ltI_dec]; rfl⟩
  case leq => rw [binOp_leq]; exact ⟨_, rfl, rfl⟩
  case gtr => rw [binOp_gtr]; exact ⟨_, rfl, by rw [ltI_dec]; rfl⟩
  case geq => rw [binOp_geq]; exact ⟨_, rfl, rfl⟩

theorem part_bool {e : TypeId} (he : P.underlying e = some .bool) (cs : Array Value) (i : Nat) {v : Value} (h : cs[i]? = some v) : (part e cs i).run P w = .ok v w := by
  simp [part, run_isAgg he, notAgg, h]
theorem run_eqFields (d : Nat) (C D : List Value) {pr : Nat → Prop} : ∀ (fs : List Field) (zs : List Value) (i : Nat) (ps qs : List AV) (cs ds : List Value) (b : Bool), eqFs P fs zs i = true → eqPz zs ps qs = some b →
    L2 (LR pr w) ps cs → L2 (LR pr w) qs ds → C.drop i = cs → D.drop i = ds → (Op.eqFields (d + 1) C.toArray D.toArray fs).run P w = .ok b w := by
  intro fs
  induction fs with
  | nil =>
    intro zs i ps qs cs ds b hf hq _ _ _ _
    cases zs with
    | nil =>
      cases ps <;> cases qs <;> simp [eqPz] at hq
      subst hq; rfl
    | cons z zs => cases z <;> simp [eqFs] at hf
  | cons f fs ih =>
    intro zs i ps qs cs ds b hf hq h1 h2 hC hD
    cases zs with
    | nil => simp [eqFs] at hf
    | cons z zs =>
      rcases ps with _ | ⟨p, ps⟩
      · cases z <;> simp [eqPz] at hq
      rcases qs with _ | ⟨q, qs⟩
      · cases z <;> cases p <;> first | (simp [eqPz] at hq; done) | (rename_i v; cases v <;> simp [eqPz] at hq)
      rcases cs with _ | ⟨c, cs⟩
      · exact h1.elim
      rcases ds with _ | ⟨e, ds⟩
      · exact h2.elim
      have hc : C.toArray[i]? = some c := by
        have := congrArg (fun l : List Value => l[0]?) hC
        simpa using this
      have he : D.toArray[i]? = some e := by
        have := congrArg (fun l : List Value => l[0]?) hD
        simpa using this
      have hC' : C.drop (i + 1) = cs := by
        have := congrArg List.tail hC
        simpa using this
      have hD' : D.drop (i + 1) = ds := by
        have := congrArg List.tail hD
        simpa using this
      cases z <;> (try (simp [eqFs] at hf; done))
      case int k0 n0 =>
        simp only [eqFs, Bool.and_eq_true] at hf
        obtain ⟨⟨⟨hn, ho⟩, hu⟩, hrest⟩ := hf
        cases p <;> (try (simp [eqPz] at hq; done))
        rename_i pv
        cases pv <;> (try (simp [eqPz] at hq; done))
        rename_i k x
        cases q <;> (try (simp [eqPz] at hq; done))
        rename_i qv
        cases qv <;> (try (simp [eqPz] at hq; done))
        rename_i k' y
        simp only [eqPz] at hq
        obtain ⟨hk, hq'⟩ := cond_some hq
        clear hq
        have hq := hq'
        clear hq'
        rw [ikEq_iff] at hk; subst hk
        cases ht : eqPz zs ps qs <;> rw [ht] at hq <;> simp only [reduceCtorEq, Option.some.injEq] at hq
        rename_i t
        have ec : c = .int k x := h1.1
        have ee : e = .int k y := h2.1
        subst ec; subst ee
        have ho := nbeq.1 ho
        obtain ⟨kk, hk2⟩ : ∃ kk, P.underlying f.type = some (.int kk) := by
          revert hu
          split
          · rename_i kk h; intro _; exact ⟨kk, h⟩
          · intro h; cases h
        have hn' : f.name ≠ "_" := by simpa using hn
        unfold Op.eqFields
        rw [if_pos hn', ho]
        simp only [Sem.run_bind, part_int w hk2 _ i hc, part_int w hk2 _ i he, run_equalIn_int w d f.type k kk x y hk2, Result.andThen_ok]
        have ih := ih zs (i + 1) ps qs cs ds t hrest ht h1.2 h2.2 hC' hD'
        have hxy : eqI x y = (x == y) := rfl
        rw [← hxy]
        cases hb : eqI x y
        · simp only [Bool.not_false, if_true, Sem.run_pure]
          rw [← hq, hb]; rfl
        · simp only [Bool.not_true, Bool.false_eq_true, if_false]
          rw [ih, ← hq, hb]; rfl
      case bool b0 =>
        simp only [eqFs, Bool.and_eq_true] at hf
        obtain ⟨⟨⟨hn, ho⟩, hu⟩, hrest⟩ := hf
        cases p <;> (try (simp [eqPz] at hq; done))
        rename_i pv
        cases pv <;> (try (simp [eqPz] at hq; done))
        rename_i x
        cases q <;> (try (simp [eqPz] at hq; done))
        rename_i qv
        cases qv <;> (try (simp [eqPz] at hq; done))
        rename_i y
        simp only [eqPz] at hq
        cases ht : eqPz zs ps qs <;> rw [ht] at hq <;> simp only [reduceCtorEq, Option.some.injEq] at hq
        rename_i t
        have ec : c = .bool x := h1.1
        have ee : e = .bool y := h2.1
        subst ec; subst ee
        have ho := nbeq.1 ho
        have hk2 : P.underlying f.type = some .bool := by
          revert hu
          split
          · rename_i h; intro _; exact h
          · intro h; cases h
        have hn' : f.name ≠ "_" := by simpa using hn
        unfold Op.eqFields
        rw [if_pos hn', ho]
        simp only [Sem.run_bind, part_bool (w := w) hk2 _ i hc, part_bool (w := w) hk2 _ i he, run_equalIn_bool' w d f.type x y hk2, Result.andThen_ok]
        have ih := ih zs (i + 1) ps qs cs ds t hrest ht h1.2 h2.2 hC' hD'
        have hxy : eqB x y = (x == y) := rfl
        rw [← hxy]
        cases hb : eqB x y
        · simp only [Bool.not_false, if_true, Sem.run_pure]
          rw [← hq, hb]; rfl
        · simp only [Bool.not_true, Bool.false_eq_true, if_false]
          rw [ih, ← hq, hb]; rfl
theorem bop_sound (hT : TOK P T) {op : BinOp} {xt : TypeId} {x y : AV} {r : AV} (h : bop T op xt x y some = some r) {vx vy : Value} (hx : VR L β w x vx) (hy : VR L β w y vy) (X Y : Operand) :
    ∃ v, ((do eqGuard op xt X Y vx vy; binOp op xt vx vy) : Sem Value).run P w = .ok v w ∧ VR L β w r v := by
  cases x <;> simp only [bop, reduceCtorEq] at h
  case v xv =>
    have e : vx = xv := hx
    subst e
    cases vx <;> (try simp only [bop, reduceCtorEq] at h)
    case int k a =>
      cases y <;> (try simp only [bop, reduceCtorEq] at h)
      rename_i yv
      have e : vy = yv := hy
      subst e
      cases vy <;> (try simp only [bop, reduceCtorEq] at h)
      rename_i k' b
      rw [eqGuard_at_int]
      simp only [pure_bind]
      by_cases h1 : op = .shl
      · subst h1
        obtain ⟨hb, h⟩ := cond_none h
        injection h with h; subst h
        rw [binOp_shl]
        exact ⟨_, by simp [Op.shift, ltI_not.1 hb]; rfl, rfl⟩
      · by_cases h2 : op = .shr
        · subst h2
          obtain ⟨hb, h⟩ := cond_none h
          injection h with h; subst h
          rw [binOp_shr]
          exact ⟨_, by simp [Op.shift, ltI_not.1 hb]; rfl, rfl⟩
        · have h' : cond (ikEq k k') (ibop op k a b some) Option.none = some r := by
            cases op <;> first | exact h | exact absurd rfl h1 | exact absurd rfl h2
          obtain ⟨hk, h3⟩ := cond_some h'
          have hk := ikEq_iff.1 hk; subst hk
          exact ibop_sound h3 xt
    case bool va =>
      cases y <;> (try simp only [bop, reduceCtorEq] at h)
      rename_i yv
      have e : vy = yv := hy
      subst e
      cases vy <;> (try simp only [bop, reduceCtorEq] at h)
      rename_i b
      have ht := hT xt
      cases htd : T xt <;> simp only [htd, reduceCtorEq] at h
      rw [htd] at ht
      rw [eqGuard_at_bool]
      simp only [pure_bind]
      have heq := run_equalIn_bool' (P := P) w 9999 xt va b ht.1
      cases op <;> simp only [Option.some.injEq, reduceCtorEq] at h <;> subst h <;> exact ⟨_, by simp only [binOp, Op.equal, Op.maxDepth, Sem.run_bind, heq, Result.andThen_ok, Sem.run_pure, eqB], rfl⟩
    case string a =>
      cases y <;> (try simp only [bop, reduceCtorEq] at h)
      rename_i yv
      have e : vy = yv := hy
      subst e
      cases vy <;> (try simp only [bop, reduceCtorEq] at h)
      rename_i b
      rw [eqGuard_at_string]
      simp only [pure_bind]
      cases op <;> (try simp only [Option.some.injEq, reduceCtorEq] at h)
      case add =>
        obtain ⟨hc, h⟩ := cond_some h
        injection h with h; subst h
        rw [fitS_iff] at hc
        refine ⟨_, ?_, rfl⟩
        simp only [binOp, Op.stringOp, IntKind.max_i64]
        rw [if_neg (by omega)]; rfl
      all_goals (subst h; exact ⟨_, rfl, rfl⟩)
  case arr k n a =>
    cases y <;> simp only [bop, reduceCtorEq] at h
    rename_i k' n' b
    have ht := hT xt
    cases htd : T xt <;> simp only [htd, reduceCtorEq] at h
    rename_i k2 n2
    rw [htd] at ht
    obtain ⟨hc, h6⟩ := cond_some h
    clear h
    simp only [Bool.and_eq_true, nbeq, ikEq_iff] at hc
    obtain ⟨⟨⟨rfl, rfl⟩, rfl⟩, rfl⟩ := hc
    cases (show vx = _ from hx)
    cases (show vy = _ from hy)
    obtain ⟨e, h1, h2, h3, h4, h5⟩ := ht
    have heq := run_equal_arr (P := P) w 9998 h1 h2 h3 a b
    have hg := run_eqGuard_agg (P := P) w op xt X Y (a.1.map (Value.int k')).toArray (b.1.map (Value.int k')).toArray h5
    rw [Sem.run_bind, hg, Result.andThen_ok]
    cases op <;> simp only [Option.some.injEq, reduceCtorEq] at h6 <;> subst h6 <;> exact ⟨_, by simp only [binOp, Op.equal, Op.maxDepth, Sem.run_bind, heq, Result.andThen_ok, Sem.run_pure], rfl⟩
  case agg ps =>
    cases y <;> simp only [bop, reduceCtorEq] at h
    rename_i qs
    have ht := hT xt
    cases htd : T xt <;> simp only [htd, reduceCtorEq] at h
    rename_i zs
    rw [htd] at ht
    obtain ⟨hc, h6⟩ := cond_some h
    obtain ⟨fs, g1, _, _, _, _, g6⟩ := ht
    have g7 := g6 hc
    simp only [eqStB, Bool.and_eq_true, Bool.not_eq_true'] at g7
    obtain ⟨⟨⟨g8, g9⟩, g10⟩, _⟩ := g7
    obtain ⟨cs, rfl, l1⟩ := hx
    obtain ⟨ds, rfl, l2⟩ := hy
    cases he : eqPz zs ps qs with
    | none => rw [he] at h6; simp at h6
    | some b =>
      rw [he] at h6
      have hfs : P.underlying xt = some (.struct (P.fieldsOf xt)) := by
        unfold Program.fieldsOf; rw [g1]
      have heq : (Op.equalIn 10000 xt (.agg cs.toArray) (.agg ds.toArray)).run P w = .ok b w := by
        rw [run_equalIn_struct w 9999 xt _ _ hfs g8]
        exact run_eqFields (P := P) (w := w) 9998 cs ds _ zs 0 ps qs cs ds b g10 he l1 l2 rfl rfl
      have hg := run_eqGuard_agg (P := P) w op xt X Y cs.toArray ds.toArray g9
      rw [Sem.run_bind, hg, Result.andThen_ok]
      cases op <;> simp only [Option.some.injEq, reduceCtorEq] at h6 <;> subst h6 <;> exact ⟨_, by simp only [binOp, Op.equal, Op.maxDepth, Sem.run_bind, heq, Result.andThen_ok, Sem.run_pure], rfl⟩

theorem eqIn_nil {xt : TypeId} {ms : Array (String × TypeId)} (hu : P.underlying xt = some (.interface ms)) (d : Nat) : (Op.equalIn (d + 1) xt .nilIface .nilIface).run P w = .ok true w := by
  simp only [Op.equalIn, Sem.run_bind, run_underlying hu, Result.andThen_ok, Sem.run_pure]
theorem eqIn_err {xt : TypeId} {ms : Array (String × TypeId)} (hu : P.underlying xt = some (.interface ms)) (d : Nat) (t : TypeId) (v : Value) : (Op.equalIn (d + 1) xt (.iface t v) .nilIface).run P w = .ok false w := by
  simp only [Op.equalIn, Sem.run_bind, run_underlying hu, Result.andThen_ok, Sem.run_pure]
theorem err_sound {op : BinOp} {xt : TypeId} {ms : Array (String × TypeId)} (hu : P.underlying xt = some (.interface ms)) {t : TypeId} {e : Option Int} {r : AV} (h : ebop op (.er t e) some = some r) (X : Operand) :
    ∃ v, ((do eqGuard op xt X (.const .nilIface) (errV t e) .nilIface; binOp op xt (errV t e) .nilIface) : Sem Value).run P w = .ok v w ∧ VR L β w r v := by
  have h0 := eqIn_nil (w := w) hu 9999
  have h1 := eqIn_err (w := w) hu 9999 t
  cases e with
  | none =>
    rw [show errV t Option.none = .nilIface from rfl, eqGuard_nil_constR, pure_bind]
    cases op <;> simp only [ebop, Option.some.injEq, reduceCtorEq] at h <;> subst h
    · exact ⟨.bool true, by simp only [binOp, Op.equal, Op.maxDepth, Sem.run_bind, h0, Result.andThen_ok, Sem.run_pure], rfl⟩
    · exact ⟨.bool false, by simp only [binOp, Op.equal, Op.maxDepth, Sem.run_bind, h0, Result.andThen_ok, Sem.run_pure, Bool.not_true], rfl⟩
  | some c =>
    rw [show errV t (some c) = .iface t (.int .i64 c) from rfl, eqGuard_at_iface, pure_bind]
    cases op <;> simp only [ebop, Option.some.injEq, reduceCtorEq] at h <;> subst h
    · exact ⟨.bool false, by simp only [binOp, Op.equal, Op.maxDepth, Sem.run_bind, h1, Result.andThen_ok, Sem.run_pure], rfl⟩
    · exact ⟨.bool true, by simp only [binOp, Op.equal, Op.maxDepth, Sem.run_bind, h1, Result.andThen_ok, Sem.run_pure, Bool.not_false], rfl⟩
end bop
/-- an evaluator's step that answers one value, whatever is done with it -/
theorem ibop_bind {R : Type} (op : BinOp) (k : IntKind) (a b : Int) (K : AV → Option R) : ibop op k a b K = (ibop op k a b some).bind K := by
  cases op <;> simp only [ibop, Option.bind_some, Option.bind_none] <;> cases eqI b 0 <;> rfl
theorem bop_bind {R : Type} (T : Tb) (op : BinOp) (xt : TypeId) (x y : AV) (K : AV → Option R) : bop T op xt x y K = (bop T op xt x y some).bind K := by
  unfold bop
  split
  · rename_i k a k' b
    cases op <;> simp only <;> first
      | (cases ltI b 0 <;> rfl)
      | (cases ikEq k k' <;> first | rfl | (simp only [cond_true]; exact ibop_bind _ k a b K))
  · split
    · split <;> rfl
    · rfl
  · split <;> first | rfl | (generalize fitS _ = bb; cases bb <;> rfl)
  · split
    · rename_i k n a k' n' b _ k2 n2 _
      cases (ikEq k k2 && ikEq k' k2 && n.beq n2 && n'.beq n2)
      · rfl
      · simp only [cond_true]; split <;> rfl
    · rfl
  · split
    · rename_i zs _
      cases cmpZs zs
      · rfl
      · simp only [cond_true]; split <;> rfl
    · rfl
  · rfl
theorem ebop_bind {R : Type} (op : BinOp) (x : AV) (K : AV → Option R) : ebop op x K = (ebop op x some).bind K := by
  unfold ebop
  split
  · split <;> rfl
  · split <;> rfl
  · rfl
end Go.Proofs.YtcdhcihjcjpmkaaGreatDoor.Eng
