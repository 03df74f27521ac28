/- THE ENGINE, part 7: calls; what an operation looks at; operations that may change places. No statement is proved here. -/
import Derived.Test.YtcdhcihjcjpmkaaGreatDoorEng6
namespace Go.Proofs.YtcdhcihjcjpmkaaGreatDoor.Eng
open Go Go.RowKit
set_option linter.unusedVariables false
set_option linter.unusedSimpArgs false

section ops
variable {P : Program} {T : Tb} {L : Nat → Prop} {w0 : Base} {β : Nat → Option Nat} {st : St} {a : Act} {w : World}
theorem args_none (h : SR L w0 β st a w) : ∀ (xs : List Operand), anyNone (xs.map fun x => argOf st.heap (st.ev x)) = false → L2 (CR (fun _ => False) w) (xs.map fun x => argOf st.heap (st.ev x)) (xs.map a.eval)
  | [], _ => trivial
  | x :: xs, hn => by
    simp only [List.map_cons, anyNone, Bool.or_eq_false_iff] at hn
    refine ⟨arg_none h (h.ev x) (h.evR x) (fun e => ?_), args_none h xs hn.2⟩
    rw [e] at hn; simp [isNone] at hn
theorem args_plain (h : SR L w0 β st a w) : ∀ (xs : List Operand), anyNone (xs.map fun x => argOf st.heap (st.ev x)) = false → anyBor (xs.map st.ev) = false → L2 (CR (protB L β) w) (xs.map fun x => argOf st.heap (st.ev x)) (xs.map a.eval)
  | [], _, _ => trivial
  | x :: xs, hn, hb => by
    simp only [List.map_cons, anyNone, anyBor, Bool.or_eq_false_iff] at hn hb
    refine ⟨arg_plain h (h.ev x) (fun e => ?_) hb.1, args_plain h xs hn.2 hb.2⟩
    rw [e] at hn; simp [isNone] at hn
theorem args_kill (h : SR L w0 β st a w) {ks : List Nat} : ∀ (xs : List Operand), anyNone (xs.map fun x => argOf st.heap (st.ev x)) = false → anyCut (xs.map st.ev) = false → (∀ b ∈ ownsOf (xs.map st.ev), b ∈ ks) →
    L2 (CR (protB L fun b => if b ∈ ks then Option.none else β b) w) (xs.map fun x => argOf st.heap (st.ev x)) (xs.map a.eval)
  | [], _, _, _ => trivial
  | x :: xs, hn, hb, hk => by
    simp only [List.map_cons, anyNone, anyCut, Bool.or_eq_false_iff] at hn hb
    have hk' : ∀ b ∈ ownsOf (xs.map st.ev), b ∈ ks := fun b hb' => hk b (by
      rw [List.map_cons]
      cases st.ev x <;> simp [ownsOf, hb'])
    refine ⟨arg_kill h (h.ev x) (h.evR x) (fun e => ?_) hb.1 (fun b e => hk b (by rw [List.map_cons, e]; simp [ownsOf])), args_kill h xs hn.2 hb.2 hk'⟩
    rw [e] at hn; simp [isNone] at hn
theorem owns_rows (h : List (Option OB)) (ρ : Operand → AV) : ∀ (xs : List Operand), anyNone (xs.map fun x => argOf h (ρ x)) = false → ∀ b ∈ ownsOf (xs.map ρ), ∃ k e ys, getH h b = some (.row k e ys)
  | [], _, b, hb => by simp [ownsOf] at hb
  | x :: xs, hn, b, hb => by
    simp only [List.map_cons, anyNone, Bool.or_eq_false_iff] at hn
    rw [List.map_cons] at hb
    cases hx : ρ x <;> rw [hx] at hb hn <;> simp only [ownsOf, List.mem_cons] at hb
    case own b' =>
      rcases hb with rfl | hb
      · have h1 := hn.1
        cases hob : getH h b with
        | none => simp [argOf, hob, isNone] at h1
        | some ob =>
          cases ob <;> simp [argOf, hob, isNone] at h1 ⊢
      · exact owns_rows h ρ xs hn.2 b hb
    all_goals exact owns_rows h ρ xs hn.2 b hb
theorem told_noRef {x : AV} (h : told x = true) : noRef x = true := by cases x <;> first | rfl | cases h

theorem wrK_spec {F : (∀ R : Type, TypeId → List AV → (List Int → AV → Option R) → Option R)} {f : FuncId} (hF : WrOK P f F) {h : List (Option OB)} {xs : List AV} {R : Type} {K : Out → Option R} {p : R} (hr : wrK F h xs K = some p) :
    ∃ b zs k e ys r rest, xs = .own b :: rest ∧ getH h b = some (.row k e zs) ∧ anyBor rest = false ∧ anyNone (rest.map (argOf h)) = false ∧ WInv P f k e zs (rest.map (argOf h)) ys r ∧ told r = true ∧ noLi r = true ∧ K (.upd b (.row k e ys) r) = some p := by
  unfold wrK at hr
  split at hr
  · rename_i b rest
    split at hr
    · rename_i k e zs hob
      obtain ⟨h1, h2⟩ := cond_none hr
      rw [Bool.or_eq_false_iff] at h1
      obtain ⟨ys, r, h2, hw⟩ := hF _ _ _ _ _ _ _ h2
      obtain ⟨h3, h4⟩ := cond_some h2
      rw [Bool.and_eq_true] at h3
      exact ⟨b, zs, k, e, ys, r, rest, rfl, hob, h1.1, h1.2, hw, h3.1, h3.2, h4⟩
    · cases hr
  · cases hr
theorem setH_id : ∀ (l : List (Option OB)) (n : Nat) (x : OB), getH l n = some x → setH l n (some x) = l
  | [], _, _, _ => rfl
  | y :: _, 0, x, h => by simp only [getH] at h; rw [setH, h]
  | _ :: r, n + 1, x, h => by simp only [getH] at h; rw [setH, setH_id r n x h]
/-- a row that a callee has written -/
theorem SR.upd (h : SR L w0 β st a w) {b : Nat} {k : IntKind} {e : TypeId} {xs ys : List Int} (hob : getH st.heap b = some (.row k e xs)) {y : Value} (hown : w.ownsRow 0 e 1 y xs.length (xs.map (Value.int k))) (hblk : y.ownBlock = β b)
    (hlen : ys.length = xs.length) {w' : World} (f1 : ∀ g, g < w.heap.size → y.ownBlock ≠ some g → w'.heap[g]? = w.heap[g]?) (f2 : w.heap.size ≤ w'.heap.size) (f3 : w'.os = w.os) (f4 : w'.tape = w.tape) (f5 : w'.output = w.output)
    (f6 : ∀ g, y.ownBlock = some g → ∃ cur cur', w.heap[g]? = some (.cells cur e (0, 0)) ∧ w'.heap[g]? = some (.cells cur' e (0, 0)) ∧ cur'.size = cur.size ∧ cur'.toList.take ys.length = ys.map (Value.int k)) :
    SR L w0 β ⟨st.slots, setH st.heap b (some (.row k e ys))⟩ a w' := by
  cases hb : β b with
  | none =>
    have hx : xs = [] := by
      rcases hown.2 with ⟨_, h0⟩ | ⟨g, cap, cur, rfl, _⟩
      · exact List.eq_nil_of_length_eq_zero h0
      · rw [hb] at hblk; cases hblk
    subst hx
    have hy : ys = [] := List.eq_nil_of_length_eq_zero (by simpa using hlen)
    subst hy
    rw [setH_id _ _ _ hob]
    exact h.turn ⟨f3, f4, f5, by omega, fun g hg => f1 g hg (by rw [hblk, hb]; simp)⟩
  | some g =>
    obtain ⟨cur, cur', c1, c2, c3, c4⟩ := f6 g (by rw [hblk, hb])
    exact h.rowWrite hb hob hlen (fun g' hl hg' => f1 g' hl (by rw [hblk, hb]; intro e; injection e with e; exact hg' e.symm)) f2 f3 f4 f5 c1 c2 c3 c4

/-- an operation of any kind -/
theorem op_sound (hT : TOK P T) (h : SR L w0 β st a w) {o : Oper} {out : Out} (hr : Res P T o st.ev st.heap out)
    {next : Act → World → Prop} {Q : Exit → Act → World → Prop} (hn : ∀ β' a' w', SR L w0 β' (apply o st out) a' w' → next a' w') : o.wp P a w next Q := by
  obtain ⟨dst, op, type, pos, after, guard⟩ := o
  cases op
  case call c =>
    obtain ⟨callee, args, argTypes⟩ := c
    cases callee
    case value f =>
      cases f
      case func f =>
        have hrun : (execOp a.eval ⟨dst, .call ⟨.value (.func f), args, argTypes⟩, type, pos, after, guard⟩).run P w = (callFunc f (args.toList.map a.eval).toArray).run P w := by
          have : args.map a.eval = (args.toList.map a.eval).toArray := Array.toList_inj.1 (by simp)
          simp [execOp, resolve, Deferred.ofValue, Act.eval, invoke, this]
        unfold Oper.wp
        rw [hrun]
        simp only [Res] at hr
        cases hwr : T.wr f with
        | some F =>
          rw [hwr] at hr
          simp only at hr
          obtain ⟨b, xs, k, e, ys, r, rest, h1, hob, hbor, hnone, ⟨hlen, hcall⟩, htold, hli, hout⟩ := hr
          subst hout
          obtain ⟨x, os, hxs, hx, hos⟩ := List.map_eq_cons_iff.1 h1
          have hxr := h.evR x
          rw [hx] at hxr
          obtain ⟨ob2, hob2, _, hrow⟩ := hxr
          rw [hob] at hob2; injection hob2 with hob2
          obtain ⟨hown, hblk⟩ := hrow k e xs hob2.symm
          rw [hxs, List.map_cons]
          subst hos
          rw [List.map_map] at hnone hcall
          have hargs : L2 (CR (protB L β) w) (os.map ((argOf st.heap) ∘ st.ev)) (os.map a.eval) := args_plain h os hnone hbor
          refine hcall w 0 _ _ hown (hargs.imp fun z v hz => CR.mono (fun _ _ _ => rfl) (fun g _ hg => .inr ⟨b, by rw [← hblk]; exact hg⟩) hz) h.gv ⟨fun p hp hg => ?_, fun p hp hg => ?_⟩ _ a next Q fun v w' htr f1 f2 f3 f4 f5 f6 => hn β _ _ ?_
          · rcases h.new b _ (hblk ▸ hg) with h1 | h1
            · have := World.block_lt_of_cell? _ _ (h.low.2.1.1 p hp); omega
            · exact h.low.2.2.1 p hp h1
          · rcases h.new b _ (hblk ▸ hg) with h1 | h1
            · obtain ⟨t, m, this⟩ := h.low.2.1.2 p hp
              have := (Array.getElem?_eq_some_iff.1 this).1; omega
            · exact h.low.2.2.2 p hp h1
          have h2 := h.upd hob hown hblk hlen f1 f2 f3 f4 f5 f6
          have h3 := h2.put dst (TR.free (pr' := protB L β) hli htr).vr (RR.free (told_noRef htold))
          cases dst <;> exact h3
        | none =>
        rw [hwr] at hr
        simp only at hr
        obtain ⟨av, hinv, hnone, htold, hout⟩ := hr
        rcases hout with ⟨_, rfl, hli⟩ | ⟨_, rfl, hcut⟩
        · by_cases hb : anyBor (args.toList.map st.ev) = false
          · refine hinv _ w (protB L β) ?_ h.gv (args_plain h _ hnone hb) _ a next Q fun v w' hbw htr => hn β _ _ ?_
            · rintro g (hL | ⟨b, hb⟩)
              · have := (h.low.1 g hL).1; have := h.below.size; omega
              · exact h.lt hb
            · exact (h.turn hbw).put dst htr.vr (RR.free (told_noRef htold))
          · refine hinv _ w (fun _ => False) (fun g h => h.elim) h.gv (args_none h _ hnone) _ a next Q fun v w' hbw htr => hn β _ _ ?_
            have hno : noLi av = true := by
              rw [Bool.not_eq_false] at hb
              rw [hb] at hli
              simpa using hli
            exact (h.turn hbw).put dst (TR.free (pr' := protB L β) hno htr).vr (RR.free (told_noRef htold))
        · have hks := owns_rows st.heap st.ev args.toList hnone
          have hkill := h.kill hks
          refine hinv _ w (protB L fun b => if b ∈ ownsOf (args.toList.map st.ev) then Option.none else β b) ?_ h.gv (args_kill h _ hnone hcut fun b hb => hb) _ a next Q fun v w' hbw htr => hn (fun b => if b ∈ ownsOf (args.toList.map st.ev) then Option.none else β b) _ _ ?_
          · rintro g (hL | ⟨b, hb⟩)
            · have := (h.low.1 g hL).1; have := h.below.size; omega
            · exact hkill.lt hb
          · have hp := (hkill.turn hbw).put dst htr.vr (RR.free (told_noRef htold))
            cases dst <;> exact hp
      all_goals exact hr.elim
    case invoke => exact hr.elim
    case builtin b => exact res_sound hT h (fun c f hc => by cases hc; simp) hr hn
  all_goals exact res_sound hT h (fun c f hc => by cases hc) hr hn
end ops

section bind
variable {P : Program} {T : Tb} {R : Type} {G : FuncId → List AV → (AV → Option R) → Option R}
/-- the callees' contracts are right -/
def GOK (P : Program) (G : FuncId → List AV → (AV → Option R) → Option R) : Prop :=
  ∀ f args K r, G f args K = some r → ∃ av, K av = some r ∧ Inv P f args av

theorem cond_bind {A B : Type} (b : Bool) (x : Option A) (K : A → Option B) : (cond b x Option.none).bind K = cond b (x.bind K) Option.none := by cases b <;> rfl
theorem res_bind (o : Oper) (ρ : Operand → AV) (h : List (Option OB)) (K : Out → Option R) (hc : ∀ c f, o.op = .call c → c.callee ≠ .value (.func f)) :
    res T G o ρ h K = (res (R := Out) T (fun _ _ _ => Option.none) o ρ h some).bind K := by
  obtain ⟨dst, op, type, pos, after, guard⟩ := o
  cases op <;> simp only [res]
  case binOp op xt x y yt =>
    cases errNil (T xt) y
    · simp only [cond_false]
      rw [bop_bind, bop_bind T op xt (ρ x) (ρ y) (fun r => some (Out.val r)), Option.bind_assoc]
      rfl
    · simp only [cond_true]
      rw [ebop_bind, ebop_bind op (ρ x) (fun r => some (Out.val r)), Option.bind_assoc]
      rfl
  case call c =>
    obtain ⟨callee, args, argTypes⟩ := c
    cases callee
    case value f =>
      cases f
      case func f => exact absurd rfl (hc _ f rfl)
      all_goals rfl
    case invoke => rfl
    case builtin b =>
      cases b <;> first
        | rfl
        | (simp only [res]; (repeat' split) <;> first | rfl | (simp only [cond_bind, Option.bind_some, Option.bind_none]; done) | (exfalso; simp_all; done))
  case pick c x y => split <;> first | rfl | (rename_i t _; cases t <;> rfl)
  case slice t x lo hi mx => (repeat' split) <;> first | rfl | (simp only [cond_bind, Option.bind_some, Option.bind_none]; done)
  case sliceToArrayPointer t x => (repeat' split) <;> first | rfl | (simp only [cond_bind, Option.bind_some, Option.bind_none]; done)
  case fieldAddr t x f => (repeat' split) <;> first | rfl | (simp only [cond_bind, Option.bind_some, Option.bind_none]; done)
  case field t x f => (repeat' split) <;> first | rfl | (simp only [cond_bind, Option.bind_some, Option.bind_none]; done)
  case extract x j => (repeat' split) <;> first | rfl | (simp only [cond_bind, Option.bind_some, Option.bind_none]; done)
  case indexAddr t x i => (repeat' split) <;> first | rfl | (simp only [cond_bind, Option.bind_some, Option.bind_none]; done)
  case index t x i => (repeat' split) <;> first | rfl | (simp only [cond_bind, Option.bind_some, Option.bind_none]; done)
  case alloc t => (repeat' split) <;> first | rfl | (simp only [cond_bind, Option.bind_some, Option.bind_none]; done)
  case range xt x => (repeat' split) <;> first | rfl | (simp only [cond_bind, Option.bind_some, Option.bind_none]; done)
  case next x isS =>
    (repeat' split) <;> first | rfl | skip
    rename_i s p _
    cases Nat.blt p s.size <;> rfl
  case box t x => (repeat' split) <;> first | rfl | (simp only [cond_bind, Option.bind_some, Option.bind_none]; done)
  case load t x => (repeat' split) <;> first | rfl | (simp only [cond_bind, Option.bind_some, Option.bind_none]; done)
  case store t x y => (repeat' split) <;> first | rfl | (simp only [cond_bind, Option.bind_some, Option.bind_none]; done)
  case buildSlice t n ps => (repeat' split) <;> first | rfl | (simp only [cond_bind, Option.bind_some, Option.bind_none]; done)
  case makeSlice t l c => (repeat' split) <;> first | rfl | (simp only [cond_bind, Option.bind_some, Option.bind_none]; done)
  case unOp => (repeat' split) <;> rfl
  case convert s d x =>
    split
    · rename_i k e h1 h2
      cases ikEq k .u8
      · rfl
      · simp only [cond_true]; rw [bytesK_bind, bytesK_bind, Option.bind_assoc]; rfl
    · split
      · rename_i k _ _ _ _ b _
        cases ikEq k .u8 <;> rfl
      · rfl
    · split <;> rfl
  case build => (repeat' split) <;> rfl
  case makeInterface => (repeat' split) <;> rfl
  all_goals rfl

theorem res_told (hT : TOK P T) (hG : GOK P G) {o : Oper} {ρ : Operand → AV} {h : List (Option OB)} {K : Out → Option R} {r : R} (hr : res T G o ρ h K = some r) : ∃ out, Res P T o ρ h out ∧ K out = some r := by
  have other : (∀ c f, o.op = .call c → c.callee ≠ .value (.func f)) → (∀ out, res (R := Out) T (fun _ _ _ => Option.none) o ρ h some = some out → Res P T o ρ h out) → ∃ out, Res P T o ρ h out ∧ K out = some r := by
    intro hc hR
    rw [res_bind o ρ h K hc] at hr
    obtain ⟨out, h1, h2⟩ := Option.bind_eq_some_iff.1 hr
    exact ⟨out, hR out h1, h2⟩
  obtain ⟨dst, op, type, pos, after, guard⟩ := o
  cases op
  case call c =>
    obtain ⟨callee, args, argTypes⟩ := c
    cases callee
    case value f =>
      cases f
      case func f =>
        simp only [res] at hr
        cases hwr : T.wr f with
        | some F =>
          rw [hwr] at hr
          simp only at hr
          obtain ⟨b, xs, k, e, ys, r2, rest, h1, hob, hbor, hnone, hF, htold, hli, hout⟩ := wrK_spec (hT.wr f F hwr) hr
          refine ⟨_, ?_, hout⟩
          simp only [Res, hwr]
          exact ⟨b, xs, k, e, ys, r2, rest, h1, hob, hbor, hnone, hF, htold, hli, rfl⟩
        | none =>
        rw [hwr] at hr
        simp only at hr
        obtain ⟨hn, hr2⟩ := cond_none hr
        obtain ⟨av, h1, h2⟩ := hG _ _ _ _ hr2
        cases hk : killsB T.kl dst <;> rw [hk] at h1 <;> simp only [cond_true, cond_false] at h1
        · obtain ⟨h3, h4⟩ := cond_some h1
          rw [Bool.and_eq_true] at h3
          exact ⟨.val av, by simp only [Res, hwr]; exact ⟨av, h2, hn, h3.1, .inl ⟨hk, rfl, h3.2⟩⟩, h4⟩
        · obtain ⟨h3, h4⟩ := cond_some h1
          simp only [Bool.and_eq_true, Bool.not_eq_true'] at h3
          exact ⟨.kval _ av, by simp only [Res, hwr]; exact ⟨av, h2, hn, h3.1, .inr ⟨hk, rfl, h3.2⟩⟩, h4⟩
      all_goals simp [res] at hr
    case invoke => simp [res] at hr
    case builtin b => exact other (fun c f hc => by cases hc; simp) (fun out h => h)
  all_goals exact other (fun c f hc => by cases hc) (fun out h => h)
end bind
end Go.Proofs.YtcdhcihjcjpmkaaGreatDoor.Eng
