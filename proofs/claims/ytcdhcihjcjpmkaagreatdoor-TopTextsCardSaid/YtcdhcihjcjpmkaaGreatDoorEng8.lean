/- THE ENGINE, part 8: a region whose order is open answers the same in every order. No statement is proved here. -/
import Derived.Test.YtcdhcihjcjpmkaaGreatDoorEng7
namespace Go.Proofs.YtcdhcihjcjpmkaaGreatDoor.Eng
open Go Go.RowKit
set_option linter.unusedVariables false
set_option linter.unusedSimpArgs false

/-- how an operation stands to memory: 0 not at all, 1 it reads, 2 it makes a block, 3 it writes, 4 it lets a row go -/
def mc (T : Tb) (o : Oper) : Nat :=
  match o.op with
  | .load _ _ => 1
  | .indexAddr t _ _ => match T t with
    | .sl _ _ => 1
    | _ => 0
  | .slice _ _ _ _ _ => cond (killsB T.kl o.dst) 4 0
  | .convert s _ _ => match T s with
    | .sl _ _ => 1
    | _ => 0
  | .call c => match c.callee with
    | .value (.func f) => match T.wr f with
      | some _ => 4
      | Option.none => cond (killsB T.kl o.dst) 4 1
    | .value _ => cond (killsB T.kl o.dst) 4 1
    | .builtin .append | .builtin .copy => 4
    | .builtin .len => match c.argTypes.toList with
      | [t] => match T t with
        | .sl _ _ => 1
        | _ => 0
      | _ => 0
    | _ => 0
  | .alloc _ | .box _ _ | .buildSlice _ _ _ | .makeSlice _ _ _ | .range _ _ => 2
  | .next _ _ => 4
  | .store _ _ _ => 3
  | _ => 0

section congr
variable {P : Program} {T : Tb} {R : Type} {G : FuncId → List AV → (AV → Option R) → Option R}
/-- two states of memory that an operation can't tell apart -/
def Same (T : Tb) (o : Oper) (ρ : Operand → AV) (h h' : List (Option OB)) : Prop :=
  mc T o = 0 ∨ ((∀ x ∈ o.op.operands, ∀ b, refOf (ρ x) = some b → getH h b = getH h' b) ∧ (∀ d, o.dst = some d → (getH h d = Option.none ↔ getH h' d = Option.none)) ∧ h.length = h'.length)

theorem fillVec_congr (k : IntKind) {ρ ρ' : Operand → AV} : ∀ (ps : List (Nat × Operand)) {n : Nat} (z : Vec n), (∀ p ∈ ps, ρ p.2 = ρ' p.2) → fillVec k ρ ps z = fillVec k ρ' ps z
  | [], _, _, _ => rfl
  | (i, x) :: ps, n, z, h => by
    have hx : ρ x = ρ' x := h (i, x) (by simp)
    simp only [fillVec, hx]
    split
    · rw [fillVec_congr k ps _ fun p hp => h p (by simp [hp])]
    · rfl
theorem fillSta_congr {ρ ρ' : Operand → AV} (fs : List FD) : ∀ (ps : List (Nat × Operand)) (z : List AV), (∀ p ∈ ps, ρ p.2 = ρ' p.2) → fillSta fs ρ ps z = fillSta fs ρ' ps z
  | [], _, _ => rfl
  | (i, x) :: ps, z, h => by
    simp only [fillSta]
    rw [h (i, x) (by simp)]
    cases getFD fs i with
    | none => rfl
    | some f => simp only []; rw [fillSta_congr fs ps _ fun p hp => h p (by simp [hp])]
theorem fillPs_congr {ρ ρ' : Operand → AV} : ∀ (ps : List (Nat × Operand)) (z : List AV), (∀ p ∈ ps, ρ p.2 = ρ' p.2) → fillPs ρ ps z = fillPs ρ' ps z
  | [], _, _ => rfl
  | (i, x) :: ps, z, h => by
    simp only [fillPs]
    rw [h (i, x) (by simp), fillPs_congr ps _ fun p hp => h p (by simp [hp])]
theorem argOf_congr {h h' : List (Option OB)} {x : AV} (hh : ∀ b, refOf x = some b → getH h b = getH h' b) : argOf h x = argOf h' x := by
  cases x <;> simp only [argOf]
  · rw [hh _ rfl]
  · rw [hh _ rfl]
theorem liOf_congr {h h' : List (Option OB)} {k : IntKind} {x : AV} (hh : ∀ b, refOf x = some b → getH h b = getH h' b) : liOf h k x = liOf h' k x := by
  cases x with
  | own b => simp only [liOf]; rw [hh _ rfl]
  | v x => cases x <;> first | rfl | (rename_i A n c; cases A <;> cases n <;> cases c <;> rfl)
  | _ => rfl
theorem baseOf_congr {h h' : List (Option OB)} {x : AV} (hh : ∀ b, refOf x = some b → getH h b = getH h' b) : baseOf h x = baseOf h' x := by
  cases x with
  | own b => simp only [baseOf]; rw [hh _ rfl]
  | _ => rfl
theorem bytesOf_congr {h h' : List (Option OB)} {x : AV} (hh : ∀ b, refOf x = some b → getH h b = getH h' b) : bytesOf h x = bytesOf h' x := by
  cases x with
  | bor b lo hi => simp only [bytesOf]; rw [hh _ rfl]
  | _ => simp only [bytesOf]; exact liOf_congr hh
theorem rowFor_congr {h h' : List (Option OB)} {td : TD} {x : AV} (hh : ∀ k e, td = .sl k e → ∀ b, refOf x = some b → getH h b = getH h' b) : rowFor td h x = rowFor td h' x := by
  cases td with
  | sl k e => exact baseOf_congr (hh k e rfl)
  | _ => rfl
theorem rowK_congr {h h' : List (Option OB)} {k : Bool} {x : AV} (hh : k = true → ∀ b, refOf x = some b → getH h b = getH h' b) : rowK k h x = rowK k h' x := by
  cases k with
  | true => exact baseOf_congr (hh rfl)
  | false => rfl
theorem isFree_congr {h h' : List (Option OB)} {d : Option Nat} (hd : ∀ j, d = some j → (getH h j = Option.none ↔ getH h' j = Option.none)) (hl : h.length = h'.length) : isFree h d = isFree h' d := by
  cases d with
  | none => rfl
  | some d =>
    have := hd d rfl
    simp only [isFree, hl]
    cases h1 : getH h d <;> cases h2 : getH h' d <;> simp_all
theorem fillLi_congr (k : IntKind) {ρ ρ' : Operand → AV} : ∀ (ps : List (Nat × Operand)) (z : List Int), (∀ p ∈ ps, ρ p.2 = ρ' p.2) → fillLi k ρ ps z = fillLi k ρ' ps z
  | [], _, _ => rfl
  | (i, x) :: ps, z, h => by
    have hx : ρ x = ρ' x := h (i, x) (by simp)
    simp only [fillLi, hx]
    split
    · rw [fillLi_congr k ps _ fun p hp => h p (by simp [hp])]
    · rfl
theorem dstNone {h h' : List (Option OB)} {d : Nat} (hd : getH h d = Option.none ↔ getH h' d = Option.none) {A : Type} (x y : A) : (match getH h d with | Option.none => x | some _ => y) = (match getH h' d with | Option.none => x | some _ => y) := by
  cases h1 : getH h d <;> cases h2 : getH h' d <;> simp_all

theorem bnd_congr {ρ ρ' : Operand → AV} (y : Option Operand) (h : ∀ x, y = some x → ρ x = ρ' x) : bnd ρ y = bnd ρ' y := by
  cases y with
  | none => rfl
  | some x => simp only [bnd]; rw [h x rfl]
theorem wrK_congr {F : (∀ R : Type, TypeId → List AV → (List Int → AV → Option R) → Option R)} {h h' : List (Option OB)} {R : Type} {K : Out → Option R} {zs : List AV} (hl : ∀ z ∈ zs, ∀ b, refOf z = some b → getH h b = getH h' b) : wrK F h zs K = wrK F h' zs K := by
  cases zs with
  | nil => rfl
  | cons z zs =>
    have e4 : zs.map (argOf h) = zs.map (argOf h') := List.map_congr_left fun x hx => argOf_congr (hl x (by simp [hx]))
    cases z <;> simp only [wrK]
    rename_i b
    rw [hl (.own b) (List.mem_cons_self ..) b rfl, e4]
theorem res_congr {o : Oper} {ρ ρ' : Operand → AV} {h h' : List (Option OB)} (K : Out → Option R) (hρ : ∀ x ∈ o.op.operands, ρ x = ρ' x) (hh : Same T o ρ h h') : res T G o ρ h K = res T G o ρ' h' K := by
  obtain ⟨dst, op, type, pos, after, guard⟩ := o
  cases op <;> simp only [res]
  case move x => rw [hρ x (by simp [Op.operands])]
  case assign x => rw [hρ x (by simp [Op.operands])]
  case pick c x y => rw [hρ c (by simp [Op.operands]), hρ x (by simp [Op.operands]), hρ y (by simp [Op.operands])]
  case alloc t =>
    rcases hh with hh | ⟨_, h2, h3⟩
    · simp [mc] at hh
    · cases dst with
      | none => rfl
      | some d =>
        simp only
        have := h2 d rfl
        rw [h3]
        cases h1 : getH h d <;> cases h4 : getH h' d <;> simp_all
  case range xt x =>
    rcases hh with hh | ⟨_, h2, h3⟩
    · simp [mc] at hh
    · cases dst with
      | none => rfl
      | some d =>
        simp only
        have := h2 d rfl
        rw [h3, hρ x (by simp [Op.operands])]
        cases h1 : getH h d <;> cases h4 : getH h' d <;> simp_all
  case next x isS =>
    rcases hh with hh | ⟨h1, h2, h3⟩
    · simp [mc] at hh
    · have hx := h1 x (by simp [Op.operands])
      rw [← hρ x (by simp [Op.operands])]
      cases isS
      · rfl
      · cases hv : ρ x <;> rw [hv] at hx <;> first | rfl | skip
        rename_i b off
        cases off with
        | zero => simp only [hx b rfl]
        | succ n => rfl
  case box t x =>
    rcases hh with hh | ⟨_, h2, h3⟩
    · simp [mc] at hh
    · cases dst with
      | none => rfl
      | some d =>
        simp only
        have := h2 d rfl
        rw [h3, hρ x (by simp [Op.operands])]
        cases h1 : getH h d <;> cases h4 : getH h' d <;> simp_all
  case build t ps =>
    have h1 : ∀ p ∈ ps.toList, ρ p.2 = ρ' p.2 := fun p hp => hρ p.2 (by simp only [Op.operands]; simp; exact ⟨p.1, by simpa using hp⟩)
    split
    · rw [fillVec_congr _ _ _ h1]
    · rw [fillSta_congr _ _ _ h1]
    · rw [fillPs_congr _ _ h1]
    · rfl
  case load t x =>
    rcases hh with hh | ⟨h1, _, _⟩
    · simp [mc] at hh
    · have hx := hρ x (by simp [Op.operands])
      have h2 := h1 x (by simp [Op.operands])
      rw [hx] at h2 ⊢
      cases hxv : ρ' x <;> rw [hxv] at h2 <;> simp only
      · rw [h2 _ rfl]
      · rw [h2 _ rfl]
      · rw [h2 _ rfl]
  case buildSlice t n ps =>
    have h1 : ∀ p ∈ ps.toList, ρ p.2 = ρ' p.2 := fun p hp => hρ p.2 (by simp only [Op.operands]; simp; exact ⟨p.1, by simpa using hp⟩)
    rcases hh with hh | ⟨_, h2, h3⟩
    · simp [mc] at hh
    · cases dst with
      | none => rfl
      | some d =>
        simp only
        have := h2 d rfl
        rw [h3]
        cases h1' : getH h d <;> cases h4 : getH h' d <;> (try simp_all; done)
        cases T t <;> simp only
        rw [fillLi_congr _ _ _ h1]
  case makeSlice t l c =>
    rcases hh with hh | ⟨_, h2, h3⟩
    · simp [mc] at hh
    · cases dst with
      | none => rfl
      | some d =>
        simp only
        have := h2 d rfl
        rw [h3, hρ l (by simp [Op.operands])]
        cases h1' : getH h d <;> cases h4 : getH h' d <;> simp_all
  case store t x y =>
    rcases hh with hh | ⟨h1, _, _⟩
    · simp [mc] at hh
    · have hx := hρ x (by simp [Op.operands])
      have hy := hρ y (by simp [Op.operands])
      have h2 := h1 x (by simp [Op.operands])
      rw [hx] at h2 ⊢
      rw [hy]
      cases hxv : ρ' x <;> rw [hxv] at h2 <;> simp only
      · rw [h2 _ rfl]
      · rw [h2 _ rfl]
      · rw [h2 _ rfl]
  case binOp op xt x y yt => rw [hρ x (by simp [Op.operands]), hρ y (by simp [Op.operands])]
  case unOp op t x => rw [hρ x (by simp [Op.operands])]
  case convert s d x =>
    rw [hρ x (by simp [Op.operands])]
    split
    · rename_i k e h1 h2
      rw [bytesK_bind, bytesK_bind, bytesOf_congr (h := h) (h' := h') fun b hb => by
        rcases hh with h0 | ⟨h3, _⟩
        · simp [mc, h2] at h0
        · exact h3 x (by simp [Op.operands]) b (by rw [hρ x (by simp [Op.operands])]; exact hb)]
    · rfl
    · rfl
  case slice t x lo hi mx =>
    have hx := hρ x (by simp [Op.operands])
    rw [hx, bnd_congr lo (fun y hy => hρ y (by subst hy; simp [Op.operands])), bnd_congr hi (fun y hy => hρ y (by subst hy; simp [Op.operands])), bnd_congr mx (fun y hy => hρ y (by subst hy; simp [Op.operands]))]
    rcases hh with hh | ⟨h1, h2, h3⟩
    · have hk : killsB T.kl dst = false := by
        cases hk : killsB T.kl dst with
        | false => rfl
        | true => simp [mc, hk] at hh
      rw [hk]
      rfl
    · rw [rowK_congr (h := h) (h' := h') (fun _ => by rw [← hx]; exact h1 x (by simp [Op.operands])), isFree_congr (h := h) (h' := h') h2 h3]
  case sliceToArrayPointer t x => rw [hρ x (by simp [Op.operands])]
  case field t x f => rw [hρ x (by simp [Op.operands])]
  case fieldAddr t x f => rw [hρ x (by simp [Op.operands])]
  case indexAddr t x i =>
    have hx := hρ x (by simp [Op.operands])
    rw [hx, hρ i (by simp [Op.operands]), rowFor_congr (h := h) (h' := h') (fun k e htd => by
      rcases hh with hh | ⟨h1, _, _⟩
      · simp [mc, htd] at hh
      · rw [← hx]; exact h1 x (by simp [Op.operands]))]
  case index t x i => rw [hρ x (by simp [Op.operands]), hρ i (by simp [Op.operands])]
  case extract x j => rw [hρ x (by simp [Op.operands])]
  case makeInterface t x => rw [hρ x (by simp [Op.operands])]
  case call c =>
    obtain ⟨callee, args, argTypes⟩ := c
    have hargs : ∀ x ∈ args.toList, ρ x = ρ' x := fun x hx => hρ x (by simp [Op.operands, Call.operands]; right; simpa using hx)
    cases callee
    case value f =>
      cases f
      case func f =>
        rcases hh with hh | ⟨h1, _, _⟩
        · simp only [mc] at hh
          cases hwr : T.wr f <;> rw [hwr] at hh <;> simp only at hh
          · cases hk : killsB T.kl dst <;> simp [hk] at hh
          · omega
        · have e1 : args.toList.map (fun x => argOf h (ρ x)) = args.toList.map (fun x => argOf h' (ρ' x)) := List.map_congr_left fun x hx => by
            rw [argOf_congr (h1 x (by simp [Op.operands, Call.operands]; right; simpa using hx)), hargs x hx]
          have e2 : args.toList.map ρ = args.toList.map ρ' := List.map_congr_left hargs
          have e3 : ∀ F, wrK F h (args.toList.map ρ') K = wrK F h' (args.toList.map ρ') K := by
            intro F
            refine wrK_congr fun z hz b hb => ?_
            obtain ⟨x, hx, rfl⟩ := List.mem_map.1 hz
            exact h1 x (by simp [Op.operands, Call.operands]; right; simpa using hx) b (by rw [hargs x hx]; exact hb)
          simp only [e1, e2, e3]
      all_goals rfl
    case invoke => rfl
    case builtin b =>
      obtain ⟨args⟩ := args
      obtain ⟨ts⟩ := argTypes
      cases b <;> try rfl
      case len =>
        rcases args with _ | ⟨x, _ | ⟨y, args⟩⟩ <;> try rfl
        rcases ts with _ | ⟨t, _ | ⟨t2, ts⟩⟩ <;> try rfl
        have hx := hargs x (by simp)
        simp only [hx]
        rw [rowFor_congr (h := h) (h' := h') (fun k e htd => by
          rcases hh with hh | ⟨h1, _, _⟩
          · simp [mc, htd] at hh
          · rw [← hx]; exact h1 x (by simp [Op.operands, Call.operands]))]
      case append =>
        rcases args with _ | ⟨x, _ | ⟨y, _ | ⟨z, args⟩⟩⟩ <;> try rfl
        rcases ts with _ | ⟨t, _ | ⟨t2, _ | ⟨t3, ts⟩⟩⟩ <;> try rfl
        cases dst with
        | none => rfl
        | some d =>
          rcases hh with hh | ⟨h1, h2, h3⟩
          · simp [mc] at hh
          · have hx := h1 x (by simp [Op.operands, Call.operands])
            have hy := h1 y (by simp [Op.operands, Call.operands])
            simp only [← hargs x (by simp), ← hargs y (by simp)]
            rw [baseOf_congr hx, h3]
            cases T t <;> (try rfl)
            rename_i k e
            have := h2 d rfl
            have e1 : ∀ k, liOf h k (ρ y) = liOf h' k (ρ y) := fun k => liOf_congr hy
            simp only [e1]
            cases h4 : getH h d <;> cases h5 : getH h' d <;> (try rfl) <;> simp_all
      case copy =>
        rcases args with _ | ⟨x, _ | ⟨y, _ | ⟨z, args⟩⟩⟩ <;> try rfl
        rcases ts with _ | ⟨t, _ | ⟨t2, _ | ⟨t3, ts⟩⟩⟩ <;> try rfl
        rcases hh with hh | ⟨h1, h2, h3⟩
        · simp [mc] at hh
        · have hx := h1 x (by simp [Op.operands, Call.operands])
          have hy := h1 y (by simp [Op.operands, Call.operands])
          simp only [← hargs x (by simp), ← hargs y (by simp)]
          rw [rowFor_congr (h := h) (h' := h') (fun k e htd => hx)]
          have e1 : ∀ k, liOf h k (ρ y) = liOf h' k (ρ y) := fun k => liOf_congr hy
          simp only [e1]
      case max =>
        rcases args with _ | ⟨x, _ | ⟨y, _ | ⟨z, args⟩⟩⟩ <;> try rfl
        simp only [hargs x (by simp), hargs y (by simp)]
      case min =>
        rcases args with _ | ⟨x, _ | ⟨y, _ | ⟨z, args⟩⟩⟩ <;> try rfl
        simp only [hargs x (by simp), hargs y (by simp)]
end congr
end Go.Proofs.YtcdhcihjcjpmkaaGreatDoor.Eng
