/- THE ENGINE, part 5: an operation of any kind, and what it asks of the machine. No statement is proved here. -/
import Derived.Test.YtcdhcihjcjpmkaaGreatDoorEng4
namespace Go.Proofs.YtcdhcihjcjpmkaaGreatDoor.Eng
open Go Go.RowKit
set_option linter.unusedVariables false
set_option linter.unusedSimpArgs false

/-- a callee: whatever memory it is called in, it answers av and turns no block that was there -/
def Inv (P : Program) (f : FuncId) (args : List AV) (av : AV) : Prop :=
  ∀ (vals : List Value) (w : World) (L : Nat → Prop), (∀ g, L g → g < w.heap.size) → GV w → L2 (CR L w) args vals →
    ∀ (o : Oper) (a : Act) (next : Act → World → Prop) (Q : Exit → Act → World → Prop),
      (∀ v w', Below w.heap.size w w' → TR L w' av v → next (a.put o.dst v) w') → o.upon P a next Q ((callFunc f vals.toArray).run P w)

/-- what an operation does, told of the evaluator's values alone -/
def Res (P : Program) (T : Tb) (o : Oper) (ρ : Operand → AV) (h : List (Option OB)) (out : Out) : Prop :=
  match o.op with
  | .call c => match c.callee with
    | .value (.func f) => match T.wr f with
      | some _ => ∃ b zs k e ys r rest, c.args.toList.map ρ = .own b :: rest ∧ getH h b = some (.row k e zs) ∧ anyBor rest = false ∧ anyNone (rest.map (argOf h)) = false ∧ WInv P f k e zs (rest.map (argOf h)) ys r ∧ told r = true ∧ noLi r = true ∧ out = .upd b (.row k e ys) r
      | Option.none => ∃ av, Inv P f (c.args.toList.map fun x => argOf h (ρ x)) av ∧ anyNone (c.args.toList.map fun x => argOf h (ρ x)) = false ∧ told av = true ∧
        ((killsB T.kl o.dst = false ∧ out = .val av ∧ (noLi av || !(anyBor (c.args.toList.map ρ))) = true) ∨ (killsB T.kl o.dst = true ∧ out = .kval (ownsOf (c.args.toList.map ρ)) av ∧ anyCut (c.args.toList.map ρ) = false))
    | .builtin _ => res (R := Out) T (fun _ _ _ => Option.none) o ρ h some = some out
    | _ => False
  | _ => res (R := Out) T (fun _ _ _ => Option.none) o ρ h some = some out

section conv
variable {L : Nat → Prop} {β : Nat → Option Nat} {w : World}
theorem CR.vr {x : AV} {y : Value} (h : CR (protB L β) w x y) : VR L β w x y := by
  cases x <;> first | exact h | exact h.elim
theorem TR.vr {x : AV} {y : Value} (h : TR (protB L β) w x y) : VR L β w x y := by
  cases x <;> first | exact h | exact h.elim
theorem L2.getC {pr : Nat → Prop} : ∀ {ps : List AV} {cs : List Value}, L2 (CR pr w) ps cs → ∀ n c, cs[n]? = some c → CR pr w (getS ps n) c
  | [], [], _, n, c, hn => by simp at hn
  | p :: ps, c :: cs, ⟨h1, h2⟩, 0, d, hd => by simp at hd; subst hd; exact h1
  | p :: ps, c :: cs, ⟨h1, h2⟩, n + 1, d, hd => L2.getC h2 n d (by simpa using hd)
  | [], _ :: _, h, _, _, _ => h.elim
  | _ :: _, [], h, _, _, _ => h.elim
/-- what a callee told, without rows of numbers, whatever is written later -/
theorem TR.free {pr pr' : Nat → Prop} {x : AV} {y : Value} (hx : noLi x = true) (h : TR pr w x y) : TR pr' w x y := by
  have one : ∀ (ps : List AV) (cs : List Value), (ps.all fun | .v _ | .er _ _ => true | _ => false) = true → L2 (LR pr w) ps cs → L2 (LR pr' w) ps cs := by
    intro ps
    induction ps with
    | nil => intro cs _ h; cases cs <;> exact h
    | cons p ps ih =>
      intro cs ha h
      simp only [List.all_cons, Bool.and_eq_true] at ha
      cases cs with
      | nil => exact h.elim
      | cons c cs =>
        refine ⟨?_, ih cs ha.2 h.2⟩
        have h1 := h.1
        have ha1 := ha.1
        cases p <;> first | exact h1 | simp at ha1
  have two : ∀ (ps : List AV) (cs : List Value), (ps.all fun | .v _ | .er _ _ | .arr _ _ _ => true | _ => false) = true → L2 (CR pr w) ps cs → L2 (CR pr' w) ps cs := by
    intro ps
    induction ps with
    | nil => intro cs _ h; cases cs <;> exact h
    | cons p ps ih =>
      intro cs ha h
      simp only [List.all_cons, Bool.and_eq_true] at ha
      cases cs with
      | nil => exact h.elim
      | cons c cs =>
        refine ⟨?_, ih cs ha.2 h.2⟩
        have h1 := h.1
        have ha1 := ha.1
        cases p <;> first | exact h1 | simp at ha1
  cases x <;> simp only [noLi, Bool.false_eq_true] at hx
  case agg ps => obtain ⟨cs, rfl, h2⟩ := h; exact ⟨cs, rfl, one ps cs hx h2⟩
  case tup ps => obtain ⟨cs, rfl, h2⟩ := h; exact ⟨cs, rfl, two ps cs hx h2⟩
  all_goals exact h
end conv

section args
variable {L : Nat → Prop} {w0 : Base} {β : Nat → Option Nat} {st : St} {a : Act} {w : World}
/-- a row as numbers that are read -/
theorem ownsRow.li {base : Nat} {e : TypeId} {k : IntKind} {xs : List Int} {y : Value} {pr : Nat → Prop} (h : w.ownsRow base e 1 y xs.length (xs.map (Value.int k))) (hp : ∀ g, y.ownBlock = some g → ¬ pr g) : LiR pr w k xs y := by
  have hc : ∀ g, y.ownBlock = some g → ∀ j u, (xs.map (Value.int k))[j]? = some u → w.cell? ((⟨g, 0, Option.none⟩ : Addr).add j) = some u := fun g hg => h.cells hg
  rcases h.2 with ⟨rfl, h0⟩ | ⟨g, cap, cur, rfl, _, _, h3, _⟩
  · exact ⟨Option.none, 0, by rw [h0], ⟨by omega, fun a ha => by cases ha⟩, fun i hi => by omega⟩
  · refine ⟨some ⟨g, 0, Option.none⟩, cap, rfl, ⟨h3, fun a ha => by injection ha with ha; rw [← ha]⟩, fun i hi => ⟨_, rfl, ?_, hp g rfl⟩⟩
    exact hc g rfl i _ (by simp [List.getD_eq_getElem?_getD, hi])
theorem RR.li {h : List (Option OB)} {base : Nat} {b : Nat} {k : IntKind} {e : TypeId} {xs : List Int} {y : Value} {pr : Nat → Prop} (hr : RR h β base w (.own b) y) (hb : getH h b = some (.row k e xs)) (hp : ∀ g, β b = some g → ¬ pr g) : LiR pr w k xs y := by
  obtain ⟨ob, h1, _, h3⟩ := hr
  rw [hb] at h1; injection h1 with h1
  obtain ⟨h4, h5⟩ := h3 k e xs h1.symm
  exact ownsRow.li h4 fun g hg => hp g (h5 ▸ hg)
/-- an argument, as the callee may read it -/
theorem arg_none (h : SR L w0 β st a w) {x : AV} {y : Value} (hx : VR L β w x y) (hr : RR st.heap β 0 w x y) (hb : argOf st.heap x ≠ .none) : CR (fun _ => False) w (argOf st.heap x) y := by
  have free : ∀ {p : Nat → Prop} {k : IntKind} {xs : List Int}, LiR p w k xs y → LiR (fun _ => False) w k xs y := by
    rintro p k xs ⟨A, c, rfl, hc, hr⟩
    exact ⟨A, c, rfl, hc, fun i hi => let ⟨a, h1, h2, _⟩ := hr i hi; ⟨a, h1, h2, id⟩⟩
  cases x <;> simp only [argOf, ne_eq, not_true_eq_false] at hb ⊢
  case v x => exact hx
  case er t e => exact hx
  case arr k n x => exact hx
  case li k xs => exact free hx
  case own b =>
    cases hob : getH st.heap b with
    | none => rw [hob] at hb; simp at hb
    | some ob =>
      cases ob <;> rw [hob] at hb <;> simp only [not_true_eq_false] at hb ⊢
      exact hr.li hob fun g _ hf => hf
  case agg ps => obtain ⟨cs, rfl, h2⟩ := hx; exact ⟨cs, rfl, h2.imp fun p c hp => by
      cases p <;> first
        | exact hp
        | (obtain ⟨A, c, rfl, hc, hr⟩ := hp; exact ⟨A, c, rfl, hc, fun i hi => let ⟨a, h1, h2, _⟩ := hr i hi; ⟨a, h1, h2, id⟩⟩)⟩
  case sta ps => obtain ⟨cs, rfl, h2⟩ := hx; exact ⟨cs, rfl, h2.imp fun p c hp => by
      cases p <;> first
        | exact hp
        | (obtain ⟨A, c, rfl, hc, hr⟩ := hp; exact ⟨A, c, rfl, hc, fun i hi => let ⟨a, h1, h2, _⟩ := hr i hi; ⟨a, h1, h2, id⟩⟩)⟩
  case bor b lo hi =>
    obtain ⟨g, c, hg, rfl, hc⟩ := hx
    obtain ⟨ob, hob, ho⟩ := h.heap b g hg
    rw [hob] at hb ⊢
    cases ob <;> simp only [not_true_eq_false] at hb ⊢
    rename_i k n x
    cases hcc : (Nat.ble lo hi && Nat.ble hi n) <;> rw [hcc] at hb <;> simp only [cond_true, cond_false, not_true_eq_false] at hb ⊢
    simp only [Bool.and_eq_true, Nat.ble_eq] at hcc
    obtain ⟨t, ht⟩ := ho
    have hlen : (x.cut lo hi).length = hi - lo := by simp [Vec.cut, x.2]; omega
    refine ⟨some ⟨g, lo, Option.none⟩, c, by rw [hlen], ⟨by rw [hlen]; exact hc, fun a ha => by injection ha with ha; rw [← ha]⟩, fun i hi' => ⟨_, rfl, ?_, id⟩⟩
    rw [add0, cell_of_row w g _ _ t _ ht]
    rw [hlen] at hi'
    simp [Vec.cut, List.getD_eq_getElem?_getD, List.getElem?_take, List.getElem?_drop, hi', x.2, show lo + i < n by omega]
theorem arg_plain (h : SR L w0 β st a w) {x : AV} {y : Value} (hx : VR L β w x y) (hb : argOf st.heap x ≠ .none) (hn : isBor x = false) : CR (protB L β) w (argOf st.heap x) y := by
  cases x <;> simp only [argOf, isBor, ne_eq, not_true_eq_false, Bool.true_eq_false] at hb hn ⊢
  case v x => exact hx
  case er t e => exact hx
  case arr k n x => exact hx
  case li k xs => exact hx
  case agg ps => exact hx
  case sta ps => exact hx
/-- an argument that is let go -/
theorem arg_kill (h : SR L w0 β st a w) {ks : List Nat} {x : AV} {y : Value} (hx : VR L β w x y) (hr : RR st.heap β 0 w x y) (hb : argOf st.heap x ≠ .none) (hn : isCut x = false) (hks : ∀ b, x = .own b → b ∈ ks) :
    CR (protB L fun b => if b ∈ ks then Option.none else β b) w (argOf st.heap x) y := by
  have hs : ∀ g, g < w.heap.size → protB L (fun b => if b ∈ ks then Option.none else β b) g → protB L β g := by
    rintro g _ (hL | ⟨b, hb⟩)
    · exact .inl hL
    · simp only at hb
      split at hb
      · cases hb
      · exact .inr ⟨b, hb⟩
  cases x
  case own b =>
    have hbk := hks b rfl
    simp only [argOf] at hb ⊢
    cases hob : getH st.heap b with
    | none => rw [hob] at hb; simp at hb
    | some ob =>
      cases ob <;> rw [hob] at hb <;> simp only [ne_eq, not_true_eq_false] at hb ⊢
      refine hr.li hob fun g hg hf => ?_
      rcases hf with hL | ⟨b', hb'⟩
      · exact h.newL hL hg
      · simp only at hb'
        split at hb'
        · cases hb'
        · rename_i hn'
          exact hn' (h.inj b b' g hg hb' ▸ hbk)
  all_goals
    first
    | (exact absurd rfl hb; done)
    | (simp [isCut] at hn; done)
    | exact CR.mono (fun _ _ _ => rfl) hs (arg_plain h hx hb rfl)
end args
end Go.Proofs.YtcdhcihjcjpmkaaGreatDoor.Eng
