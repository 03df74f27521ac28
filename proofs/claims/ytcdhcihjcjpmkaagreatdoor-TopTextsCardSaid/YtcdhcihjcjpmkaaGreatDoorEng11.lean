/- THE ENGINE, part 11: code, loops, whole functions. No statement is proved here. -/
import Derived.Test.YtcdhcihjcjpmkaaGreatDoorEng10
namespace Go.Proofs.YtcdhcihjcjpmkaaGreatDoor.Eng
open Go Go.RowKit
set_option linter.unusedVariables false
set_option linter.unusedSimpArgs false

def Ex.out : Ex → Exit
  | .normal => .normal
  | .exit id => .exit id
  | .ret => .ret
def codeOK (T : Tb) : Code → Bool
  | .region _ ops draw => !draw || drawOK T ops
  | .seq x y => codeOK T x && codeOK T y
  | .cond _ x y => codeOK T x && codeOK T y
  | .block _ c => codeOK T c
  | .loop c => codeOK T c
  | _ => true

/-- how code runs, over the evaluator's states -/
inductive Runs (P : Program) (T : Tb) (live : List (Nat × List (Nat × HK))) : Code → St → Ex → St → Prop
  | skip (st : St) : Runs P T live .skip st .normal st
  | label (l : Nat) (st : St) : Runs P T live (.label l) st .normal st
  | exit (id : Nat) (st : St) : Runs P T live (.exit id) st (.exit id) st
  | ret (st : St) : Runs P T live .ret st .ret st
  | region (id : Nat) (ops : Array Oper) (draw : Bool) (st st' : St) (h : RunI P T ops (List.range ops.size) st st') : Runs P T live (.region id ops draw) st .normal st'
  | seq (x y : Code) (st s : St) (e : Ex) (st' : St) (h1 : Runs P T live x st .normal s) (h2 : Runs P T live y s e st') : Runs P T live (.seq x y) st e st'
  | seqOut (x y : Code) (st : St) (e : Ex) (st' : St) (h1 : Runs P T live x st e st') (he : e ≠ .normal) : Runs P T live (.seq x y) st e st'
  | condT (c : Operand) (x y : Code) (st : St) (e : Ex) (st' : St) (hc : st.ev c = .v (.bool true)) (h : Runs P T live x st e st') : Runs P T live (.cond c x y) st e st'
  | condF (c : Operand) (x y : Code) (st : St) (e : Ex) (st' : St) (hc : st.ev c = .v (.bool false)) (h : Runs P T live y st e st') : Runs P T live (.cond c x y) st e st'
  | blockIn (id : Nat) (c : Code) (st st' : St) (h : Runs P T live c st (.exit id) st') : Runs P T live (.block id c) st .normal st'
  | block (id : Nat) (c : Code) (st : St) (e : Ex) (st' : St) (h : Runs P T live c st e st') (he : e ≠ .exit id) : Runs P T live (.block id c) st e st'
  | again (c : Code) (st s : St) (e : Ex) (st' : St) (hh : headOK (liveOf live c) st = true) (h1 : Runs P T live c (st.head (liveOf live c)) .normal s) (h2 : Runs P T live (.loop c) s e st') : Runs P T live (.loop c) st e st'
  | leave (c : Code) (st : St) (e : Ex) (st' : St) (hh : headOK (liveOf live c) st = true) (h : Runs P T live c (st.head (liveOf live c)) e st') (he : e ≠ .normal) : Runs P T live (.loop c) st e st'

section told
variable {P : Program} {T : Tb} {R : Type} {G : FuncId → List AV → (AV → Option R) → Option R} {N : Nat} {live : List (Nat × List (Nat × HK))}
theorem loop_told {c : Code} (ih : ∀ (st : St) (K : Ex → St → Option R) (r : R), exec T G N live c st K = some r → ∃ e st', Runs P T live c st e st' ∧ K e st' = some r) :
    ∀ (n : Nat) (st : St) (K : Ex → St → Option R) (r : R), headOK (liveOf live c) st = true → loopN (liveOf live c) (exec T G N live c) n (st.head (liveOf live c)) K = some r → ∃ e st', Runs P T live (.loop c) st e st' ∧ K e st' = some r
  | 0, _, _, _, _, h => by simp [loopN] at h
  | n + 1, st, K, r, hh, h => by
    simp only [loopN] at h
    obtain ⟨e, s, h1, h2⟩ := ih _ _ r h
    cases e with
    | normal =>
      obtain ⟨hh2, h2⟩ := cond_some h2
      obtain ⟨e', s', h3, h4⟩ := loop_told ih n s K r hh2 h2
      exact ⟨e', s', .again c st s e' s' hh h1 h3, h4⟩
    | exit id => exact ⟨_, s, .leave c st _ s hh h1 (by simp), h2⟩
    | ret => exact ⟨_, s, .leave c st _ s hh h1 (by simp), h2⟩
theorem exec_told (hT : TOK P T) (hG : GOK P G) : ∀ (c : Code) (st : St) (K : Ex → St → Option R) (r : R), exec T G N live c st K = some r → ∃ e st', Runs P T live c st e st' ∧ K e st' = some r := by
  intro c
  induction c with
  | skip => intro st K r h; exact ⟨_, _, .skip st, h⟩
  | label l => intro st K r h; exact ⟨_, _, .label l st, h⟩
  | exit id => intro st K r h; exact ⟨_, _, .exit id st, h⟩
  | ret => intro st K r h; exact ⟨_, _, .ret st, h⟩
  | region id ops draw =>
    intro st K r h
    obtain ⟨st', h1, h2⟩ := execOps_told (P := P) (ops := ops) hT hG ops.toList st _ r 0 ops.size (fun i _ => by simp) (by simp) h
    exact ⟨_, st', .region id ops draw st st' (by rw [List.range_eq_range']; exact h1), h2⟩
  | seq x y ihx ihy =>
    intro st K r h
    simp only [exec] at h
    obtain ⟨e, s, h1, h2⟩ := ihx _ _ r h
    cases e with
    | normal => obtain ⟨e', s', h3, h4⟩ := ihy _ _ r h2; exact ⟨e', s', .seq x y st s e' s' h1 h3, h4⟩
    | exit id => exact ⟨_, s, .seqOut x y st _ s h1 (by simp), h2⟩
    | ret => exact ⟨_, s, .seqOut x y st _ s h1 (by simp), h2⟩
  | cond c x y ihx ihy =>
    intro st K r h
    simp only [exec] at h
    cases hc : st.ev c <;> rw [hc] at h <;> (try simp only [reduceCtorEq] at h)
    rename_i v
    cases v <;> (try simp only [reduceCtorEq] at h)
    rename_i b
    cases b
    · obtain ⟨e, s, h1, h2⟩ := ihy _ _ r h
      exact ⟨e, s, .condF c x y st e s hc h1, h2⟩
    · obtain ⟨e, s, h1, h2⟩ := ihx _ _ r h
      exact ⟨e, s, .condT c x y st e s hc h1, h2⟩
  | block id c ih =>
    intro st K r h
    simp only [exec] at h
    obtain ⟨e, s, h1, h2⟩ := ih _ _ r h
    cases e with
    | normal => exact ⟨_, s, .block id c st _ s h1 (by simp), h2⟩
    | exit j =>
      by_cases hj : j = id
      · subst hj
        simp only [blockK, Nat.beq_refl, cond_true] at h2
        exact ⟨_, s, .blockIn j c st s h1, h2⟩
      · have : Nat.beq j id = false := by
          cases hb : Nat.beq j id with
          | false => rfl
          | true => exact absurd (nbeq.1 hb) hj
        simp only [blockK, this, cond_false] at h2
        exact ⟨_, s, .block id c st _ s h1 (by simpa using hj), h2⟩
    | ret => exact ⟨_, s, .block id c st _ s h1 (by simp), h2⟩
  | loop c ih =>
    intro st K r h
    simp only [exec] at h
    obtain ⟨hh, h⟩ := cond_some h
    exact loop_told ih N st K r hh h
  | rangeFunc f ps x y _ _ => intro st K r h; simp [exec] at h
  | scope c _ => intro st K r h; simp [exec] at h
  | goto l => intro st K r h; simp [exec] at h
  | refuse w => intro st K r h; simp [exec] at h
end told

section clear
theorem headX_none (hs : List (Nat × HK)) (S : List AV) (h : List (Option OB)) (n : Nat) : headX hs S h n .none = .none := by
  unfold headX
  cases hl : lookK hs n with
  | none => rfl
  | some x => cases x <;> rfl
theorem getS_head (hs : List (Nat × HK)) (S : List AV) (h : List (Option OB)) : ∀ (l : List AV) (o t : Nat), getS (headS hs S h o l) t = headX hs S h (o + t) (getS l t)
  | [], o, t => by simp only [headS, getS]; exact (headX_none ..).symm
  | x :: r, o, 0 => rfl
  | x :: r, o, t + 1 => by
    simp only [headS, getS]
    rw [getS_head hs S h r (o + 1) t, show o + 1 + t = o + (t + 1) by omega]
theorem getH_head (hs : List (Nat × HK)) (S : List AV) (h : List (Option OB)) : ∀ (l : List (Option OB)) (o t : Nat), getH (headH hs S h o l) t = if t < l.length then headO hs S h (o + t) (getH l t) else Option.none
  | [], o, t => by simp [headH, getH]
  | x :: r, o, 0 => by simp [headH, getH]
  | x :: r, o, t + 1 => by
    simp only [headH, getH]
    rw [getH_head hs S h r (o + 1) t, show o + 1 + t = o + (t + 1) by omega]
    simp
theorem headS_length (hs : List (Nat × HK)) (S : List AV) (h : List (Option OB)) : ∀ (l : List AV) (o : Nat), (headS hs S h o l).length = l.length
  | [], _ => rfl
  | _ :: r, o => by simp [headS, headS_length hs S h r]
theorem headH_length (hs : List (Nat × HK)) (S : List AV) (h : List (Option OB)) : ∀ (l : List (Option OB)) (o : Nat), (headH hs S h o l).length = l.length
  | [], _ => rfl
  | _ :: r, o => by simp [headH, headH_length hs S h r]
theorem getS_lt : ∀ (l : List AV) (n : Nat), getS l n ≠ .none → n < l.length
  | [], _, h => absurd rfl h
  | _ :: _, 0, _ => by simp
  | _ :: r, n + 1, h => by have := getS_lt r n h; simp; omega
theorem memN_iff : ∀ (l : List Nat) (n : Nat), memN l n = true ↔ n ∈ l
  | [], n => by simp [memN]
  | x :: r, n => by
    simp only [memN, List.mem_cons]
    cases hb : Nat.beq x n with
    | true => simp [Nat.eq_of_beq_eq_true hb]
    | false =>
      have : x ≠ n := by rintro rfl; simp at hb
      simp only [cond_false]; rw [memN_iff r n]
      constructor
      · exact .inr
      · rintro (rfl | h)
        · exact absurd rfl this
        · exact h
theorem noneIn_iff : ∀ (l r : List Nat), noneIn l r = true → ∀ x ∈ l, x ∉ r
  | [], _, _, _, h => by cases h
  | y :: l, r, h, x, hx => by
    simp only [noneIn, Bool.and_eq_true, Bool.not_eq_true'] at h
    rcases List.mem_cons.1 hx with rfl | hx
    · intro hr; rw [(memN_iff r x).2 hr] at h; cases h.1
    · exact noneIn_iff l r h.2 x hx
theorem lookK_cons {i n : Nat} {x : HK} {r : List (Nat × HK)} {y : HK} (h : lookK ((i, x) :: r) n = some y) : (i = n ∧ x = y) ∨ (i ≠ n ∧ lookK r n = some y) := by
  simp only [lookK] at h
  cases hb : Nat.beq i n with
  | true => rw [hb] at h; exact .inl ⟨Nat.eq_of_beq_eq_true hb, by simpa using h⟩
  | false => rw [hb] at h; exact .inr ⟨by rintro rfl; simp at hb, h⟩
theorem headRows_mem (S : List AV) : ∀ (hs : List (Nat × HK)) {n b : Nat} {k : IntKind} {e : TypeId}, lookK hs n = some (.row k e) → getS S n = .own b → b ∈ headRows S hs
  | [], _, _, _, _, h, _ => by cases h
  | (i, x) :: r, n, b, k, e, h, hg => by
    rcases lookK_cons h with ⟨rfl, rfl⟩ | ⟨_, h2⟩
    · simp only [headRows, hg]; simp
    · have := headRows_mem S r h2 hg
      cases x with
      | row k' e' =>
        simp only [headRows]
        split
        · exact List.mem_cons_of_mem _ this
        · exact this
      | _ => exact this
theorem headLis_mem (S : List AV) : ∀ (hs : List (Nat × HK)) {n b : Nat} {k : IntKind}, lookK hs n = some (.li k) → getS S n = .own b → b ∈ headLis S hs
  | [], _, _, _, h, _ => by cases h
  | (i, x) :: r, n, b, k, h, hg => by
    rcases lookK_cons h with ⟨rfl, rfl⟩ | ⟨_, h2⟩
    · simp only [headLis, hg]; simp
    · have := headLis_mem S r h2 hg
      cases x with
      | li k' =>
        simp only [headLis]
        split
        · exact List.mem_cons_of_mem _ this
        · exact this
      | _ => exact this
theorem headRows_diff (S : List AV) : ∀ (hs : List (Nat × HK)), diffN (headRows S hs) = true → ∀ {n n' b : Nat} {k k' : IntKind} {e e' : TypeId}, lookK hs n = some (.row k e) → lookK hs n' = some (.row k' e') → getS S n = .own b → getS S n' = .own b → n = n'
  | [], _, _, _, _, _, _, _, _, h, _, _, _ => by cases h
  | (i, x) :: r, hd, n, n', b, k, k', e, e', h, h', hg, hg' => by
    have tail : diffN (headRows S r) = true := by
      cases x with
      | row k2 e2 =>
        simp only [headRows] at hd
        split at hd
        · simp only [diffN, Bool.and_eq_true] at hd; exact hd.2
        · exact hd
      | _ => exact hd
    have clash : ∀ {m b : Nat} {k2 k3 : IntKind} {e2 e3 : TypeId}, x = .row k2 e2 → getS S i = .own b → lookK r m = some (.row k3 e3) → getS S m = .own b → False := by
      intro m b k2 k3 e2 e3 hx h1 h2 h3
      subst hx
      simp only [headRows, h1, diffN, Bool.and_eq_true, Bool.not_eq_true'] at hd
      rw [(memN_iff _ _).2 (headRows_mem S r h2 h3)] at hd
      cases hd.1
    rcases lookK_cons h with ⟨rfl, hx⟩ | ⟨h1, h2⟩ <;> rcases lookK_cons h' with ⟨rfl, hx'⟩ | ⟨h1', h2'⟩
    · rfl
    · exact (clash hx hg h2' hg').elim
    · exact (clash hx' hg' h2 hg).elim
    · exact headRows_diff S r tail h2 h2' hg hg'

variable {L : Nat → Prop} {w0 : Base} {β β' : Nat → Option Nat} {st : St} {a : Act} {w : World}
theorem VR.shrink {x : AV} {y : Value} (hβ : ∀ b, refOf x = some b → β' b = β b) (hs : ∀ g, protB L β' g → protB L β g) (h : VR L β w x y) : VR L β' w x y := by
  have hk : Keeps (protB L β) w w := fun _ _ _ => rfl
  cases x with
  | none => trivial
  | ptr b off => obtain ⟨g, hg, rfl⟩ := h; exact ⟨g, (hβ b rfl).trans hg, rfl⟩
  | pidx b n i => obtain ⟨g, hg, rfl, hn⟩ := h; exact ⟨g, (hβ b rfl).trans hg, rfl, hn⟩
  | bor b lo hi => obtain ⟨g, c, hg, rfl, hc⟩ := h; exact ⟨g, c, (hβ b rfl).trans hg, rfl, hc⟩
  | lidx k xs i => obtain ⟨a, rfl, hc, hp⟩ := h; exact ⟨a, rfl, hc, fun h => hp (hs _ h)⟩
  | tup ps => exact TR.mono (x := .tup ps) hk (fun g _ => hs g) h
  | arr k n x => exact h
  | agg ps => exact CR.mono (x := .agg ps) hk (fun g _ => hs g) h
  | sta ps => exact CR.mono (x := .sta ps) hk (fun g _ => hs g) h
  | v x => exact h
  | er t e => exact h
  | li k xs => exact LiR.mono hk (fun g _ => hs g) h
  | own b => trivial
  | ridx b i => trivial
/-- where a head's blocks lie -/
def headB (hs : List (Nat × HK)) (st : St) (β : Nat → Option Nat) (n : Nat) : Option Nat :=
  match lookK hs n with
  | some .keep => cond (keptB hs st.heap n) (β n) Option.none
  | some (.row k e) => match getS st.slots n with
    | .own b => match getH st.heap b with
      | some (.row k' e' _) => cond (ikEq k k' && Nat.beq e e') (β b) Option.none
      | _ => Option.none
    | _ => Option.none
  | _ => Option.none
theorem keptB_facts {hs : List (Nat × HK)} {h : List (Option OB)} {b : Nat} (hk : keptB hs h b = true) : lookK hs b = some .keep ∧ ∃ ob, getH h b = some ob ∧ isRD ob = false := by
  unfold keptB at hk
  split at hk
  · cases hk
  · cases hk
  · rename_i ob h1 h2 h3 h4
    refine ⟨h3, ob, h4, ?_⟩
    cases ob with
    | row k e xs => exact (h1 k e xs rfl).elim
    | dead => exact (h2 rfl).elim
    | _ => rfl
  · cases hk
theorem headB_facts {hs : List (Nat × HK)} {n g : Nat} (h : headB hs st β n = some g) : (lookK hs n = some .keep ∧ keptB hs st.heap n = true ∧ β n = some g) ∨
    ∃ k e b xs, lookK hs n = some (.row k e) ∧ getS st.slots n = .own b ∧ getH st.heap b = some (.row k e xs) ∧ β b = some g := by
  unfold headB at h
  split at h
  · rename_i h1
    cases hk : keptB hs st.heap n <;> rw [hk] at h
    · cases h
    · exact .inl ⟨h1, rfl, h⟩
  · rename_i k e h1
    split at h
    · rename_i b h2
      split at h
      · rename_i k' e' xs h3
        obtain ⟨h4, h5⟩ := cond_some h
        simp only [Bool.and_eq_true, ikEq_iff, nbeq] at h4
        obtain ⟨rfl, rfl⟩ := h4
        exact .inr ⟨k, e, b, xs, h1, h2, h3, h5⟩
      · cases h
    · cases h
  · cases h
theorem SR.head (h : SR L w0 β st a w) {hs : List (Nat × HK)} (hok : headOK hs st = true) : ∃ β', SR L w0 β' (st.head hs) a w := by
  simp only [headOK, Bool.and_eq_true] at hok
  obtain ⟨⟨hle, hdiff⟩, hnone⟩ := hok
  have hle : st.slots.length ≤ st.heap.length := Nat.le_of_ble_eq_true hle
  have hprot : ∀ g, protB L (headB hs st β) g → protB L β g := by
    rintro g (hL | ⟨b, hb⟩)
    · exact .inl hL
    · rcases headB_facts hb with ⟨_, _, h1⟩ | ⟨k, e, b', xs, _, _, _, h1⟩
      · exact .inr ⟨b, h1⟩
      · exact .inr ⟨b', h1⟩
  have hk : Keeps (protB L β) w w := fun _ _ _ => rfl
  have hslot : ∀ t, getS (st.head hs).slots t = headX hs st.slots st.heap t (getS st.slots t) := fun t => by
    show getS (headS hs st.slots st.heap 0 st.slots) t = _
    rw [getS_head, Nat.zero_add]
  have hheap : ∀ b, b < st.heap.length → getH (st.head hs).heap b = headO hs st.slots st.heap b (getH st.heap b) := fun b hb => by
    show getH (headH hs st.slots st.heap 0 st.heap) b = _
    rw [getH_head, Nat.zero_add, if_pos hb]
  have hkeep : ∀ b, keptB hs st.heap b = true → getH (st.head hs).heap b = getH st.heap b := fun b hb => by
    obtain ⟨h1, ob, h2, _⟩ := keptB_facts hb
    rw [hheap b (getH_lt _ _ _ h2)]
    simp only [headO, h1, hb, cond_true]
  have hβk : ∀ b, keptB hs st.heap b = true → headB hs st β b = β b := fun b hb => by
    simp only [headB, (keptB_facts hb).1, hb, cond_true]
  have hrowH : ∀ {n b : Nat} {k : IntKind} {e : TypeId} {xs : List Int}, lookK hs n = some (.row k e) → getS st.slots n = .own b → getH st.heap b = some (.row k e xs) →
      getH (st.head hs).heap n = some (.row k e xs) ∧ headB hs st β n = β b := by
    intro n b k e xs h1 h2 h3
    have hn : n < st.heap.length := Nat.lt_of_lt_of_le (getS_lt _ _ (by rw [h2]; simp)) hle
    have e1 : ikEq k k = true := ikEq_iff.2 rfl
    refine ⟨?_, ?_⟩
    · rw [hheap n hn]; simp only [headO, h1, h2, h3, e1, Nat.beq_refl, Bool.and_self, cond_true]
    · simp only [headB, h1, h2, h3, e1, Nat.beq_refl, Bool.and_self, cond_true]
  refine ⟨headB hs st β, h.defers, by rw [h.size]; exact (headS_length hs _ _ _ _).symm, h.below, h.low, ?_, ?_, ?_, ?_, ?_, ?_⟩
  · intro n n' g h1 h2
    have mixed : ∀ {n n' : Nat} {k : IntKind} {e : TypeId} {b : Nat} {xs : List Int}, keptB hs st.heap n = true → β n = some g → getH st.heap b = some (.row k e xs) → β b = some g → False := by
      intro n n' k e b xs a1 a2 a3 a4
      obtain ⟨_, ob, b1, b2⟩ := keptB_facts a1
      rw [h.inj n b g a2 a4, a3] at b1
      injection b1 with b1; subst b1; cases b2
    rcases headB_facts h1 with ⟨_, a2, a3⟩ | ⟨k, e, b, xs, a1, a2, a3, a4⟩ <;> rcases headB_facts h2 with ⟨_, b2, b3⟩ | ⟨k', e', b', xs', b1, b2, b3, b4⟩
    · exact h.inj n n' g a3 b3
    · exact (mixed (n' := n') a2 a3 b3 b4).elim
    · exact (mixed (n' := n) b2 b3 a3 a4).elim
    · have := h.inj b b' g a4 b4; subst this
      exact headRows_diff _ hs hdiff a1 b1 a2 b2
  · intro n g h1
    rcases headB_facts h1 with ⟨_, a2, a3⟩ | ⟨k, e, b, xs, a1, a2, a3, a4⟩
    · exact h.new n g a3
    · exact h.new b g a4
  · intro n g h1
    rcases headB_facts h1 with ⟨_, a2, a3⟩ | ⟨k, e, b, xs, a1, a2, a3, a4⟩
    · obtain ⟨ob, b1, b2⟩ := h.heap n g a3
      exact ⟨ob, (hkeep n a2).trans b1, OR.mono hk (fun g _ => hprot g) rfl b2⟩
    · obtain ⟨ob, b1, b2⟩ := h.heap b g a4
      rw [a3] at b1; injection b1 with b1; subst b1
      exact ⟨_, (hrowH a1 a2 a3).1, b2⟩
  · intro n ob hob
    have hn : n < st.heap.length := by
      have := getH_lt _ _ _ hob
      rwa [show (st.head hs).heap.length = st.heap.length from headH_length ..] at this
    rw [hheap n hn] at hob
    unfold headO at hob
    split at hob
    · cases hkn : keptB hs st.heap n <;> rw [hkn] at hob
      · cases hob
      · rw [hβk n hkn]; exact h.back n ob hob
    · split at hob
      · split at hob
        · obtain ⟨_, h5⟩ := cond_some hob; injection h5 with h5; subst h5; exact .inr rfl
        · cases hob
      · injection hob with hob; subst hob; exact .inr rfl
      · cases hob
    · cases hob
  · intro t
    have hr := h.rows t
    have hv := h.slots t
    rw [hslot t]
    unfold headX
    split
    · trivial
    · cases hx : refOf (getS st.slots t) with
      | none => exact RR.free (by unfold noRef; rw [hx])
      | some b =>
        simp only
        cases hkb : keptB hs st.heap b with
        | false => trivial
        | true =>
          obtain ⟨_, ob, b1, b2⟩ := keptB_facts hkb
          refine RR.mono (x := getS st.slots t) (fun b' hb' => ?_) hr
          rw [hx] at hb'; injection hb' with hb'; subst hb'
          rw [b1]
          refine ⟨fun k e xs he => ?_, fun he => ?_, fun ob' he _ => ⟨ob', (hkeep _ hkb).trans (b1.trans he), ?_⟩⟩
          · injection he with he; subst he; cases b2
          · injection he with he; subst he; cases b2
          · cases he; exact b2
    · rename_i k e h1
      split
      · rename_i b h2
        rw [h2] at hr
        split
        · rename_i k' e' xs h3
          cases hc : (ikEq k k' && Nat.beq e e') with
          | false => trivial
          | true =>
            simp only [Bool.and_eq_true, ikEq_iff, nbeq] at hc
            obtain ⟨rfl, rfl⟩ := hc
            obtain ⟨c1, c2⟩ := hrowH h1 h2 h3
            obtain ⟨ob, d1, _, d3⟩ := hr
            rw [h3] at d1; injection d1 with d1
            obtain ⟨d4, d5⟩ := d3 _ _ _ d1.symm
            refine ⟨_, c1, rfl, fun k' e' xs' he => ?_⟩
            injection he with e1 e2 e3
            subst e1; subst e2; subst e3
            exact ⟨d4, d5.trans c2.symm⟩
        · trivial
      · rename_i h2
        rw [h2] at hv
        have hn : t < st.heap.length := Nat.lt_of_lt_of_le (getS_lt _ _ (by rw [h2]; simp)) hle
        have hh : getH (st.head hs).heap t = some (.row k e []) := by rw [hheap t hn]; simp only [headO, h1, h2]
        have hb : headB hs st β t = Option.none := by simp only [headB, h1, h2]
        refine ⟨_, hh, rfl, fun k' e' xs' he => ?_⟩
        injection he with e1 e2 e3
        subst e1; subst e2; subst e3
        have hv : a.tmps.getD t undef = .slice Option.none 0 0 := hv
        rw [hv, hb]
        exact ⟨World.ownsRow_nil _ _ _ _, rfl⟩
      · trivial
    · rename_i k h1
      split
      · split
        · rename_i k' e' xs h3
          cases ikEq k k' <;> trivial
        · trivial
      · trivial
      · rename_i h2; rw [h2]; trivial
      · trivial
    · rename_i m h1
      split
      · rename_i b b' k e h2 h3 h4
        split
        · rename_i k' e' xs h5
          cases hc : (Nat.beq b b' && (ikEq k k' && Nat.beq e e')) with
          | false => trivial
          | true =>
            simp only [Bool.and_eq_true, ikEq_iff, nbeq] at hc
            obtain ⟨rfl, rfl, rfl⟩ := hc
            rw [h2] at hr
            obtain ⟨c1, c2⟩ := hrowH h4 h3 h5
            obtain ⟨ob, d1, _, d3⟩ := hr
            rw [h5] at d1; injection d1 with d1
            obtain ⟨d4, d5⟩ := d3 _ _ _ d1.symm
            refine ⟨_, c1, rfl, fun k' e' xs' he => ?_⟩
            injection he with e1 e2 e3
            subst e1; subst e2; subst e3
            exact ⟨d4, d5.trans c2.symm⟩
        · trivial
      · trivial
  · intro t
    have hr := h.rows t
    have hv := h.slots t
    rw [hslot t]
    unfold headX
    split
    · trivial
    · cases hx : refOf (getS st.slots t) with
      | none => exact VR.shrink (fun b hb => by rw [hx] at hb; cases hb) hprot hv
      | some b =>
        simp only
        cases hkb : keptB hs st.heap b with
        | false => trivial
        | true =>
          refine VR.shrink (x := getS st.slots t) (fun b' hb => ?_) hprot hv
          rw [hx] at hb; injection hb with hb; subst hb
          exact hβk _ hkb
    · split
      · split
        · generalize hc : (ikEq _ _ && Nat.beq _ _ : Bool) = c
          cases c <;> trivial
        · trivial
      · trivial
      · trivial
    · rename_i k h1
      split
      · rename_i b h2
        split
        · rename_i k' e xs h3
          cases hc : ikEq k k' with
          | false => trivial
          | true =>
            rw [h2] at hr
            refine RR.li hr h3 fun g hg hp => ?_
            rcases hp with hL | ⟨n, hn⟩
            · exact h.newL hL hg
            · rcases headB_facts hn with ⟨_, a2, a3⟩ | ⟨k2, e2, b2, xs2, a1, a2, a3, a4⟩
              · obtain ⟨_, ob, b1, b2⟩ := keptB_facts a2
                rw [h.inj n b g a3 hg, h3] at b1
                injection b1 with b1; subst b1; cases b2
              · have := h.inj b2 b g a4 hg; subst this
                exact noneIn_iff _ _ hnone b2 (headLis_mem _ hs h1 h2) (headRows_mem _ hs a1 a2)
        · trivial
      · rename_i h2
        rw [h2] at hv
        exact ⟨Option.none, 0, hv, ⟨Nat.le_refl _, fun a ha => by cases ha⟩, fun i hi => by cases hi⟩
      · rename_i k' xs h2
        rw [h2] at hv
        rw [h2]
        exact VR.shrink (x := .li k' xs) (fun b hb => by cases hb) hprot hv
      · trivial
    · split
      · split
        · generalize hc : (Nat.beq _ _ && (ikEq _ _ && Nat.beq _ _) : Bool) = c
          cases c <;> trivial
        · trivial
      · trivial
end clear

section sound
variable {P : Program} {T : Tb} {L : Nat → Prop} {w0 : Base} {live : List (Nat × List (Nat × HK))}
def LoopGoal (P : Program) (c : Code) (Q : Exit → Act → World → Prop) (a : Act) (w : World) : Prop :=
  ∀ (b : Frame) (k : List Item) (cs : List Frame), ∃ e a' w', Q e a' w' ∧ Arrives P (lone (b.at a (.code c :: .inLoop c :: k)) cs w) b k cs e a' w'
def Goal (P : Program) (Q : Exit → Act → World → Prop) (a : Act) (w : World) : Code → Prop
  | .loop c => LoopGoal P c Q a w
  | c => c.wp P Q a w
theorem Goal.wp {c : Code} {Q : Exit → Act → World → Prop} {a : Act} {w : World} (h : Goal P Q a w c) : c.wp P Q a w := by
  cases c
  case loop c =>
    intro b k cs
    obtain ⟨e, a', w', h1, h2⟩ := h b k cs
    exact ⟨e, a', w', h1, .of_steps (.one step_loop) h2⟩
  all_goals exact h
/-- nothing is put into the first slot -/
def noW0 : Code → Bool
  | .region _ ops _ => ops.toList.all fun o => match o.dst with
    | some 0 => false
    | _ => true
  | .seq x y => noW0 x && noW0 y
  | .cond _ x y => noW0 x && noW0 y
  | .block _ c => noW0 c
  | .loop c => noW0 c
  | _ => true
def cFx (fx : Option Value) (c : Code) : Prop := fx = Option.none ∨ noW0 c = true
theorem cFx.ops {fx : Option Value} {id : Nat} {ops : Array Oper} {draw : Bool} (h : cFx fx (.region id ops draw)) : opsFx fx ops := by
  rcases h with h | h
  · exact .inl h
  · refine .inr fun i o ho he => ?_
    have := List.all_eq_true.1 h o (by rw [← Array.getElem?_toList] at ho; exact List.mem_of_getElem? ho)
    rw [he] at this; cases this
theorem cFx.two {fx : Option Value} {x y z : Code} (hz : noW0 z = (noW0 x && noW0 y)) (h : cFx fx z) : cFx fx x ∧ cFx fx y := by
  rcases h with h | h
  · exact ⟨.inl h, .inl h⟩
  · rw [hz, Bool.and_eq_true] at h
    exact ⟨.inr h.1, .inr h.2⟩
theorem code_sound (hT : TOK P T) {fx : Option Value} (hm : P.follows .mixedOrders = true) {c : Code} {st : St} {e : Ex} {st' : St} (hr : Runs P T live c st e st') :
    codeOK T c = true → cFx fx c → ∀ (β : Nat → Option Nat) (a : Act) (w : World) (Q : Exit → Act → World → Prop), SR L w0 β st a w → FxOK fx a → (∀ β' a' w', SR L w0 β' st' a' w' → FxOK fx a' → Q e.out a' w') → Goal P Q a w c := by
  induction hr with
  | skip st => intro _ _ β a w Q h hf hQ; exact wp_skip (hQ β a w h hf)
  | label l st => intro _ _ β a w Q h hf hQ; exact wp_label (hQ β a w h hf)
  | exit id st => intro _ _ β a w Q h hf hQ; exact wp_exit (hQ β a w h hf)
  | ret st => intro _ _ β a w Q h hf hQ; exact wp_ret (hQ β a w h hf)
  | region id ops draw st st' hrun =>
    intro hok hx β a w Q h hf hQ
    cases draw with
    | false => exact wp_region (run_sound hT hx.ops _ β st st' a w h hf hrun hQ)
    | true =>
      have hd : drawOK T ops = true := by simpa [codeOK] using hok
      have h' : SR L w0 β st a { w with drawn := w.drawn + 1 } := h.turn ⟨rfl, rfl, rfl, Nat.le_refl _, fun _ _ => rfl⟩
      have hl : left ops (Array.replicate ops.size false) = List.range ops.size := by
        unfold left
        rw [List.filter_eq_self]
        intro i hi
        simp at hi
        simp [Array.getD_eq_getD_getElem?, hi]
      refine wp_region_any hm (any_sound hT hx.ops hd ops.size _ β st st' a _ (by simp) ?_ (by rw [hl]; simp) h' hf (by rw [hl]; exact hrun) hQ)
      intro i o ho hli
      have hi : i < ops.size := (Array.getElem?_eq_some_iff.1 ho).1
      simp [Array.getD_eq_getD_getElem?, hi] at hli
  | seq x y st s e st' h1 h2 ih1 ih2 =>
    intro hok hx β a w Q h hf hQ
    simp only [codeOK, Bool.and_eq_true] at hok
    exact wp_seq (ih1 hok.1 (cFx.two rfl hx).1 β a w _ h hf fun β' a' w' h' hf' => (ih2 hok.2 (cFx.two rfl hx).2 β' a' w' Q h' hf' hQ).wp).wp
  | seqOut x y st e st' h1 he ih =>
    intro hok hx β a w Q h hf hQ
    simp only [codeOK, Bool.and_eq_true] at hok
    refine wp_seq (ih hok.1 (cFx.two rfl hx).1 β a w _ h hf fun β' a' w' h' hf' => ?_).wp
    cases e with
    | normal => exact absurd rfl he
    | exit id => exact hQ β' a' w' h' hf'
    | ret => exact hQ β' a' w' h' hf'
  | condT c x y st e st' hc _ ih =>
    intro hok hx β a w Q h hf hQ
    simp only [codeOK, Bool.and_eq_true] at hok
    have := h.ev c
    rw [hc] at this
    exact wp_cond_true this (ih hok.1 (cFx.two rfl hx).1 β a w Q h hf hQ).wp
  | condF c x y st e st' hc _ ih =>
    intro hok hx β a w Q h hf hQ
    simp only [codeOK, Bool.and_eq_true] at hok
    have := h.ev c
    rw [hc] at this
    exact wp_cond_false this (ih hok.2 (cFx.two rfl hx).2 β a w Q h hf hQ).wp
  | blockIn id c st st' h1 ih =>
    intro hok hx β a w Q h hf hQ
    refine wp_block (ih hok hx β a w _ h hf fun β' a' w' h' hf' => ?_).wp
    show (if id = id then _ else _)
    rw [if_pos rfl]; exact hQ β' a' w' h' hf'
  | block id c st e st' h1 he ih =>
    intro hok hx β a w Q h hf hQ
    refine wp_block (ih hok hx β a w _ h hf fun β' a' w' h' hf' => ?_).wp
    cases e with
    | normal => exact hQ β' a' w' h' hf'
    | exit j =>
      show (if j = id then _ else _)
      rw [if_neg (fun e => he (by rw [e]))]; exact hQ β' a' w' h' hf'
    | ret => exact hQ β' a' w' h' hf'
  | again c st s e st' hh h1 h2 ih1 ih2 =>
    intro hok hx β a w Q h hf hQ
    obtain ⟨β1, hc⟩ := h.head hh
    intro b k cs
    obtain ⟨e1, a1, w1, hq, harr⟩ := (ih1 hok hx β1 a w (Exit.then (fun a' w' => LoopGoal P c Q a' w') Q) hc hf (fun β' a' w' h' hf' => ih2 hok hx β' a' w' Q h' hf' hQ)).wp b (.inLoop c :: k) cs
    cases e1 with
    | normal =>
      obtain ⟨e2, a2, w2, hq2, harr2⟩ := hq b k cs
      exact ⟨e2, a2, w2, hq2, .of_steps (Steps.trans harr (.one step_inLoop)) harr2⟩
    | exit id => exact ⟨_, a1, w1, hq, .pass (x := .inLoop c) rfl (fun _ _ => .inl (by simp)) harr⟩
    | goto l => exact ⟨_, a1, w1, hq, .pass (x := .inLoop c) rfl (fun _ _ => .inl (by simp)) harr⟩
    | ret => exact ⟨_, a1, w1, hq, .pass (x := .inLoop c) rfl (fun _ _ => .inl (by simp)) harr⟩
    | panic ch => exact ⟨_, a1, w1, hq, .pass (x := .inLoop c) rfl (fun _ _ => .inl (by simp)) harr⟩
    | outgrown => exact ⟨_, a1, w1, hq, .pass (x := .inLoop c) rfl (fun _ _ => .inl (by simp)) harr⟩
  | leave c st e st' hh h1 he ih =>
    intro hok hx β a w Q h hf hQ
    obtain ⟨β1, hc⟩ := h.head hh
    intro b k cs
    obtain ⟨e1, a1, w1, hq, harr⟩ := (ih hok hx β1 a w (fun x a' w' => x ≠ .normal ∧ Q x a' w') hc hf (fun β' a' w' h' hf' => ⟨by cases e <;> simp_all [Ex.out], hQ β' a' w' h' hf'⟩)).wp b (.inLoop c :: k) cs
    exact ⟨e1, a1, w1, hq.2, .pass (x := .inLoop c) rfl (fun _ _ => .inl hq.1) harr⟩

/-! whole functions -/
theorem VR.told {β : Nat → Option Nat} {w : World} {x : AV} {v : Value} (hx : cellC x = true) (h : VR L β w x v) : CR L w x v := by
  have hk : Keeps (protB L β) w w := fun _ _ _ => rfl
  have hs : ∀ g, g < w.heap.size → L g → protB L β g := fun g _ h => .inl h
  cases x <;> simp only [cellC, Bool.false_eq_true] at hx
  case arr k n x => exact h
  case agg ps => exact CR.mono (x := .agg ps) hk hs h
  case sta ps => exact CR.mono (x := .sta ps) hk hs h
  case v x => exact h
  case er t e => exact h
  case li k xs => exact LiR.mono hk hs h
theorem CR.tr {w : World} {x : AV} {v : Value} (h : CR L w x v) : TR L w x v := by
  cases x <;> first | exact h | exact h.elim

theorem resOne_sound (hT : TOK P T) {β : Nat → Option Nat} {st : St} {a : Act} {w : World} (h : SR L w0 β st a w) {r : ResultVar} {x : AV} (hr : resOne T st r = some x) :
    ∃ v, ((match r with | .tmp t => pure (a.tmps.getD t undef) | .cell p t => do loadVar t (← asAddr (a.tmps.getD p undef))) : Sem Value).run P w = .ok v w ∧ (cellC x = true → CR L w x v) := by
  cases r with
  | tmp t =>
    refine ⟨_, rfl, ?_⟩
    have hs := h.slots t
    have hrr := h.rows t
    simp only [resOne] at hr
    cases hx : getS st.slots t <;> rw [hx] at hr hs hrr
    case own b =>
      simp only at hr
      split at hr
      · rename_i k e xs hob
        injection hr with hr; subst hr
        intro _
        exact hrr.li hob fun g hg hl => (h.newL hl hg).elim
      · cases hr
    all_goals (simp only [Option.some.injEq] at hr; subst hr; intro hc; exact VR.told hc hs)
  | cell p t =>
    simp only [resOne] at hr
    have hs := h.slots p
    cases hp : getS st.slots p <;> rw [hp] at hr hs <;> (try simp only [reduceCtorEq] at hr)
    rename_i b off
    obtain ⟨g, hg, hv⟩ := hs
    cases hob : getH st.heap b <;> rw [hob] at hr <;> simp only [reduceCtorEq] at hr
    rename_i ob
    obtain ⟨ob2, hob2, ho⟩ := h.heap b g hg
    rw [hob] at hob2; injection hob2 with hob2; subst hob2
    obtain ⟨v, h1, h2⟩ := run_whole (hT t) ho hr
    exact ⟨v, by simp only [hv, asAddr, pure_bind]; exact h1, fun hc => VR.told hc h2⟩
theorem resAll_sound (hT : TOK P T) {β : Nat → Option Nat} {st : St} {a : Act} {w : World} (h : SR L w0 β st a w) : ∀ (rs : List ResultVar) (xs : List AV), resAll T st rs = some xs →
    ∃ vs : List Value, (rs.mapM fun r => (match r with | .tmp t => pure (a.tmps.getD t undef) | .cell p t => do loadVar t (← asAddr (a.tmps.getD p undef)) : Sem Value)).run P w = .ok vs w ∧ L2 (fun x v => cellC x = true → CR L w x v) xs vs
  | [], xs, hr => by simp only [resAll, Option.some.injEq] at hr; subst hr; exact ⟨[], rfl, trivial⟩
  | r :: rs, xs, hr => by
    simp only [resAll] at hr
    cases h1 : resOne T st r <;> rw [h1] at hr <;> (try simp only [reduceCtorEq] at hr)
    cases h2 : resAll T st rs <;> rw [h2] at hr <;> (try simp only [reduceCtorEq, Option.some.injEq] at hr)
    subst hr
    obtain ⟨v, h3, h4⟩ := resOne_sound hT h h1
    obtain ⟨vs, h5, h6⟩ := resAll_sound hT h rs _ h2
    refine ⟨v :: vs, ?_, h4, h6⟩
    rw [List.mapM_cons, Sem.run_bind, h3, Result.andThen_ok, Sem.run_bind, h5, Result.andThen_ok, Sem.run_pure]
theorem allC_sound {w : World} : ∀ (xs : List AV) (vs : List Value), allC xs = true → L2 (fun x v => cellC x = true → CR L w x v) xs vs → L2 (CR L w) xs vs
  | [], [], _, _ => trivial
  | x :: xs, v :: vs, h, ⟨h1, h2⟩ => by
    simp only [allC, Bool.and_eq_true] at h
    exact ⟨h1 h.1, allC_sound xs vs h.2 h2⟩
  | [], _ :: _, _, h => h.elim
  | _ :: _, [], _, h => h.elim

theorem results_eq (fn : Func) (tmps : Array Value) (w : World) (vs : List Value) (h : (fn.results.toList.mapM fun r => (match r with | .tmp t => pure (tmps.getD t undef) | .cell p t => do loadVar t (← asAddr (tmps.getD p undef)) : Sem Value)).run P w = .ok vs w) :
    (results fn tmps).run P w = .ok (if h : vs.length = 1 then vs[0] else .tuple vs.toArray) w := by
  unfold results
  rw [Sem.run_bind, Array.mapM_eq_mapM_toList, Sem.run_map]
  erw [h]
  simp only [Result.andThen_ok, Sem.run_pure]
  congr 1

/-- how a function's results may be told -/
def resTell : List AV → AV
  | [x] => x
  | xs => .tup xs
theorem finish_told {R : Type} {T : Tb} {rs : List ResultVar} {K : AV → Option R} {st : St} {r : R} (h : finish T rs K st = some r) :
    ∃ xs, resAll T st rs = some xs ∧ allC xs = true ∧ K (resTell xs) = some r := by
  unfold finish at h
  cases hx : resAll T st rs with
  | none => rw [hx] at h; cases h
  | some xs =>
    rw [hx] at h
    rcases xs with _ | ⟨x, _ | ⟨y, xs⟩⟩
    · obtain ⟨h1, h2⟩ := cond_some h; exact ⟨[], rfl, h1, h2⟩
    · obtain ⟨h1, h2⟩ := cond_some h; exact ⟨[x], rfl, by simp [allC, h1], h2⟩
    · obtain ⟨h1, h2⟩ := cond_some h; exact ⟨x :: y :: xs, rfl, h1, h2⟩

theorem noneS_get : ∀ (n t : Nat), getS (noneS n) t = .none
  | 0, _ => rfl
  | n + 1, 0 => rfl
  | n + 1, t + 1 => noneS_get n t
theorem noneH_get : ∀ (n t : Nat), getH (noneH n) t = Option.none
  | 0, _ => rfl
  | n + 1, 0 => rfl
  | n + 1, t + 1 => noneH_get n t
theorem noneS_length : ∀ n, (noneS n).length = n
  | 0 => rfl
  | n + 1 => by simp [noneS, noneS_length n]
theorem getS_append : ∀ (l r : List AV) (t : Nat), getS (l ++ r) t = if t < l.length then getS l t else getS r (t - l.length)
  | [], r, t => by simp
  | x :: l, r, 0 => by simp [getS]
  | x :: l, r, t + 1 => by simp only [List.cons_append, getS, List.length_cons]; rw [getS_append l r t, show t + 1 - (l.length + 1) = t - l.length by omega]; simp
theorem L2.getV {β : Nat → Option Nat} {w : World} : ∀ {ps : List AV} {cs : List Value}, L2 (CR (protB L β) w) ps cs → ∀ n (hn : n < cs.length), VR L β w (getS ps n) cs[n]
  | p :: ps, c :: cs, ⟨h1, h2⟩, 0, _ => h1.vr
  | p :: ps, c :: cs, ⟨h1, h2⟩, n + 1, hn => L2.getV h2 n (by simpa using hn)
  | [], _ :: _, h, _, _ => h.elim

theorem CR.noRef {pr : Nat → Prop} {w : World} {x : AV} {v : Value} (h : CR pr w x v) : noRef x = true := by
  cases x <;> first | rfl | exact h.elim
theorem L2.noRefs {pr : Nat → Prop} {w : World} : ∀ {ps : List AV} {cs : List Value}, L2 (CR pr w) ps cs → ∀ n (hn : n < cs.length), noRef (getS ps n) = true
  | p :: ps, c :: cs, ⟨h1, h2⟩, 0, _ => h1.noRef
  | p :: ps, c :: cs, ⟨h1, h2⟩, n + 1, hn => L2.noRefs h2 n (by simpa using hn)
  | [], _ :: _, h, _, _ => h.elim

/-- A FUNCTION: what the evaluator says of its code, its call does. -/
theorem fn_sound {R : Type} {G : FuncId → List AV → (AV → Option R) → Option R} {N : Nat} (hT : TOK P T) (hm : P.follows .mixedOrders = true) (hG : GOK P G) {f : FuncId} {fn : Func} {code : Code}
    (hf : P.funcs[f]? = some fn) (hb : fn.body = some code) (hn : (fn.name == "runtime.NumGoroutine") = false) (hok : codeOK T code = true) {args : List AV} {K : AV → Option R} {r : R}
    (h : run T G N live code fn.results.toList fn.ntmps args K = some r) : ∃ av, K av = some r ∧ Inv P f args av := by
  obtain ⟨e, st', hruns, hk⟩ := exec_told (P := P) hT hG code _ _ r h
  have hfin : (e = .normal ∨ e = .ret) ∧ finish T fn.results.toList K st' = some r := by
    cases e with
    | normal => exact ⟨.inl rfl, hk⟩
    | ret => exact ⟨.inr rfl, hk⟩
    | exit id => simp [retK] at hk
  obtain ⟨xs, hx1, hx2, hx3⟩ := finish_told hfin.2
  refine ⟨resTell xs, hx3, ?_⟩
  intro vals w L hL hGV hargs o a next Q hnext
  have hcf : (callFunc f vals.toArray).run P w = .ok (.enter f vals.toArray) w := by
    have hn' : ¬ fn.name = "runtime.NumGoroutine" := by simpa using hn
    simp [callFunc, hf, hn', hb]
  rw [hcf, Oper.upon_enter]
  refine calls_of_wp hf hb ?_
  have hlen := hargs.length
  have hsr : SR L ⟨w, fun _ => False⟩ (fun _ => Option.none) ⟨args ++ noneS (fn.ntmps - args.length), noneH fn.ntmps⟩ { tmps := vals.toArray ++ Array.replicate (fn.ntmps - vals.toArray.size) undef, defers := [] } w := by
    have hk : Keeps (fun g => L g) w w := fun _ _ _ => rfl
    have hargs' : L2 (CR (protB L fun _ => Option.none) w) args vals := hargs.imp fun x y h => CR.mono hk (fun g _ hg => by rcases hg with hg | ⟨b, hb⟩; exact hg; cases hb) h
    refine ⟨rfl, by simp [noneS_length, hlen], BelowX.of (Below.refl _ w), ⟨fun g hg => ⟨hL g hg, id⟩, hGV, fun _ _ h => h, fun _ _ h => h⟩, (fun _ _ _ h => by cases h), (fun _ _ h => by cases h), (fun _ _ h => by cases h), (fun b ob h => by simp [noneH_get] at h), fun t => ?_, fun t => ?_⟩
    · simp only
      rw [getS_append]
      split
      · rename_i ht
        exact RR.free (hargs'.noRefs t (by omega))
      · rw [noneS_get]; exact RR.free rfl
    simp only
    rw [getS_append]
    split
    · rename_i ht
      have ht' : t < vals.length := by omega
      have := hargs'.getV t ht'
      have e : (vals.toArray ++ Array.replicate (fn.ntmps - vals.toArray.size) undef).getD t undef = vals[t] := by
        rw [Array.getD_eq_getD_getElem?, Array.getElem?_append_left (by simpa using ht')]; simp [ht']
      rw [e]; exact this
    · rw [noneS_get]; trivial
  refine (code_sound hT (fx := Option.none) hm hruns hok (.inl rfl) _ _ w _ hsr (fun y hy => by cases hy) fun β' a' w' h' _ => ?_).wp
  obtain ⟨vs, h1, h2⟩ := resAll_sound hT h' _ xs hx1
  have h3 := allC_sound xs vs hx2 h2
  have hres := results_eq fn a'.tmps w' vs h1
  have hpost : bodyPost P fn (fun
      | .returned v, w'' => next (a.put o.dst v) w''
      | .panicked chain, w'' => Q (.panic chain) a w''
      | .outgrown, _ => LetsOut Q) .normal a' w' := by
    refine ⟨h'.defers, _, hres, ?_⟩
    refine hnext _ w' (h'.below.plain fun _ h => h) ?_
    rcases xs with _ | ⟨x, _ | ⟨y, xs⟩⟩
    · rcases vs with _ | ⟨v, vs⟩
      · exact ⟨[], by simp, trivial⟩
      · exact h3.elim
    · rcases vs with _ | ⟨v, _ | ⟨v2, vs⟩⟩
      · exact h3.elim
      · exact h3.1.tr
      · exact h3.2.elim
    · rcases vs with _ | ⟨v, _ | ⟨v2, vs⟩⟩
      · exact h3.elim
      · exact h3.2.elim
      · refine ⟨v :: v2 :: vs, by simp, h3⟩
  rcases hfin.1 with rfl | rfl
  · exact hpost
  · exact hpost
/-- what a function with a row to write tells -/
theorem finishW_told {R : Type} {T : Tb} {rs : List ResultVar} {k : IntKind} {e : TypeId} {n : Nat} {K : List Int → AV → Option R} {st : St} {r : R} (h : finishW T rs k e n K st = some r) :
    ∃ b ys xs, getS st.slots 0 = .own b ∧ getH st.heap b = some (.row k e ys) ∧ ys.length = n ∧ resAll T st rs = some xs ∧ allC xs = true ∧ noLi (resTell xs) = true ∧ K ys (resTell xs) = some r := by
  unfold finishW at h
  split at h
  · rename_i b hb
    split at h
    · rename_i k' e' ys hob
      obtain ⟨h1, h2⟩ := cond_some h
      simp only [Bool.and_eq_true, nbeq, ikEq_iff] at h1
      obtain ⟨⟨rfl, rfl⟩, h3⟩ := h1
      obtain ⟨xs, h4, h5, h6⟩ := finish_told h2
      obtain ⟨h7, h8⟩ := cond_some h6
      exact ⟨b, ys, xs, hb, hob, h3, h4, h5, h7, h8⟩
    · cases h
  · cases h
theorem ownsRow_zero {w : World} {base : Nat} {e : TypeId} {y : Value} {n : Nat} {l : List Value} (h : w.ownsRow base e 1 y n l) : w.ownsRow 0 e 1 y n l :=
  ⟨h.1, h.2.imp id fun ⟨g, cap, cur, h1, _, h2⟩ => ⟨g, cap, cur, h1, Nat.zero_le _, h2⟩⟩
/-- A FUNCTION that writes into its first argument, a row. -/
theorem fn_soundW {R : Type} {G : FuncId → List AV → (AV → Option R) → Option R} {N : Nat} (hT : TOK P T) (hm : P.follows .mixedOrders = true) (hG : GOK P G) {f : FuncId} {fn : Func} {code : Code}
    (hf : P.funcs[f]? = some fn) (hb : fn.body = some code) (hn : (fn.name == "runtime.NumGoroutine") = false) (hok : codeOK T code = true) (hw0 : noW0 code = true) (hnt : Nat.blt 0 fn.ntmps = true) {k : IntKind} {e : TypeId} {xs : List Int} {args : List AV} {K : List Int → AV → Option R} {r : R}
    (h : runW T G N live code fn.results.toList fn.ntmps k e xs args K = some r) : ∃ ys av, K ys av = some r ∧ WInv P f k e xs args ys av := by
  obtain ⟨ex, st', hruns, hk⟩ := exec_told (P := P) hT hG code _ _ r h
  have hfin : (ex = .normal ∨ ex = .ret) ∧ finishW T fn.results.toList k e xs.length K st' = some r := by
    cases ex with
    | normal => exact ⟨.inl rfl, hk⟩
    | ret => exact ⟨.inr rfl, hk⟩
    | exit id => simp [retKW] at hk
  obtain ⟨b, ys, zs, hs0, hob, hylen, hx1, hx2, hnl, hx3⟩ := finishW_told hfin.2
  refine ⟨ys, resTell zs, hx3, hylen, ?_⟩
  intro w base y vals hown hargs hGV hgv o a next Q hnext
  have hcf : (callFunc f (y :: vals).toArray).run P w = .ok (.enter f (y :: vals).toArray) w := by
    have hn' : ¬ fn.name = "runtime.NumGoroutine" := by simpa using hn
    simp [callFunc, hf, hn', hb]
  rw [hcf, Oper.upon_enter]
  refine calls_of_wp hf hb ?_
  have hlen := hargs.length
  have hnt' : 0 < fn.ntmps := nblt.1 hnt
  obtain ⟨β0, hβ0, hβ1⟩ : ∃ β0 : Nat → Option Nat, β0 0 = y.ownBlock ∧ ∀ n, β0 (n + 1) = Option.none := ⟨fun | 0 => y.ownBlock | _ + 1 => Option.none, rfl, fun _ => rfl⟩
  have hβ : ∀ b g, β0 b = some g → b = 0 ∧ y.ownBlock = some g := by
    intro b g hg
    cases b with
    | zero => exact ⟨rfl, hβ0 ▸ hg⟩
    | succ n => rw [hβ1] at hg; cases hg
  have htmp : ∀ t, (((y :: vals).toArray ++ Array.replicate (fn.ntmps - (y :: vals).toArray.size) undef).getD (t + 1) undef) = (vals.toArray ++ Array.replicate (fn.ntmps - (y :: vals).toArray.size) undef).getD t undef := by
    intro t
    rw [Array.getD_eq_getD_getElem?, Array.getD_eq_getD_getElem?]
    congr 1
    rw [Array.getElem?_append, Array.getElem?_append]
    simp only [List.size_toArray, List.length_cons]
    by_cases h1 : t < vals.length
    · rw [if_pos (by omega), if_pos h1]; simp
    · rw [if_neg (by omega), if_neg h1, show t + 1 - (vals.length + 1) = t - vals.length by omega]
  have htmp0 : ((y :: vals).toArray ++ Array.replicate (fn.ntmps - (y :: vals).toArray.size) undef).getD 0 undef = y := by
    rw [Array.getD_eq_getD_getElem?, Array.getElem?_append_left (by simp)]; simp
  have hsr : SR (fun _ => False) ⟨w, fun g => y.ownBlock = some g⟩ β0 ⟨.own 0 :: (args ++ noneS (fn.ntmps - (args.length + 1))), some (.row k e xs) :: noneH (fn.ntmps - 1)⟩
      { tmps := (y :: vals).toArray ++ Array.replicate (fn.ntmps - (y :: vals).toArray.size) undef, defers := [] } w := by
    have hk : Keeps (fun g => y.ownBlock = some g) w w := fun _ _ _ => rfl
    have hargs' : L2 (CR (protB (fun _ => False) β0) w) args vals := hargs.imp fun x v h => CR.mono hk (fun g _ hg => by
      rcases hg with hg | ⟨b, hb⟩
      · exact hg.elim
      · exact (hβ b g hb).2) h
    refine ⟨rfl, by simp [noneS_length, hlen]; omega, BelowX.of (Below.refl _ w), ⟨fun g hg => hg.elim, hGV, hgv⟩, fun b b' g h1 h2 => (hβ b g h1).1.trans (hβ b' g h2).1.symm, fun b g hg => .inr (hβ b g hg).2, fun b g hg => ?_, fun b ob hb => ?_, fun t => ?_, fun t => ?_⟩
    · obtain ⟨rfl, hg'⟩ := hβ b g hg
      exact ⟨_, rfl, _, Array.getElem?_eq_getElem (hown.lt g hg').2⟩
    · cases b with
      | zero => simp only [getH, Option.some.injEq] at hb; subst hb; exact .inr rfl
      | succ n => simp [getH, noneH_get] at hb
    · cases t with
      | zero =>
        show RR _ _ _ _ (.own 0) _
        refine ⟨_, rfl, rfl, fun k' e' xs' he => ?_⟩
        injection he with e1 e2 e3
        subst e1; subst e2; subst e3
        dsimp only
        rw [htmp0]
        exact ⟨ownsRow_zero hown, hβ0.symm⟩
      | succ t =>
        dsimp only
        rw [htmp]
        show RR _ _ _ _ (getS (args ++ noneS _) t) _
        rw [getS_append]
        split
        · rename_i ht
          exact RR.free (hargs'.noRefs t (by omega))
        · rw [noneS_get]; exact RR.free rfl
    · cases t with
      | zero => trivial
      | succ t =>
        dsimp only
        rw [htmp]
        show VR _ _ _ (getS (args ++ noneS _) t) _
        rw [getS_append]
        split
        · rename_i ht
          have ht' : t < vals.length := by omega
          have := hargs'.getV t ht'
          have e : (vals.toArray ++ Array.replicate (fn.ntmps - (y :: vals).toArray.size) undef).getD t undef = vals[t] := by
            rw [Array.getD_eq_getD_getElem?, Array.getElem?_append_left (by simpa using ht')]; simp [ht']
          rw [e]; exact this
        · rw [noneS_get]; trivial
  refine (code_sound hT (fx := some y) hm hruns hok (.inr hw0) _ _ w _ hsr (fun y' hy => by injection hy with hy; rw [← hy]; exact htmp0) fun β' a' w' h' hfx => ?_).wp
  obtain ⟨vs, h1, h2⟩ := resAll_sound hT h' _ zs hx1
  have h3 := allC_sound zs vs hx2 h2
  have hres := results_eq fn a'.tmps w' vs h1
  have hpost : bodyPost P fn (fun
      | .returned v, w'' => next (a.put o.dst v) w''
      | .panicked chain, w'' => Q (.panic chain) a w''
      | .outgrown, _ => LetsOut Q) .normal a' w' := by
    refine ⟨h'.defers, _, hres, ?_⟩
    refine hnext _ w' ?_ (fun g hg hne => h'.below.block g hg hne) h'.below.size h'.below.os h'.below.tape h'.below.output fun g hg => ?_
    · rcases zs with _ | ⟨x, _ | ⟨x2, zs⟩⟩
      · rcases vs with _ | ⟨v, vs⟩
        · exact ⟨[], by simp, trivial⟩
        · exact h3.elim
      · rcases vs with _ | ⟨v, _ | ⟨v2, vs⟩⟩
        · exact h3.elim
        · exact h3.1.tr
        · exact h3.2.elim
      · rcases vs with _ | ⟨v, _ | ⟨v2, vs⟩⟩
        · exact h3.elim
        · exact h3.2.elim
        · exact ⟨v :: v2 :: vs, by simp, h3⟩
    · have hr0 := h'.rows 0
      rw [hs0, hfx y rfl] at hr0
      obtain ⟨ob, hob', _, hrow⟩ := hr0
      rw [hob] at hob'; injection hob' with hob'
      obtain ⟨hown', _⟩ := hrow k e ys hob'.symm
      rcases hown.2 with ⟨hy, _⟩ | ⟨g1, cap1, cur1, hy, _, hg1, _, _, hc1, _⟩
      · rw [hy] at hg; cases hg
      · rcases hown'.2 with ⟨hy2, _⟩ | ⟨g2, cap2, cur2, hy2, _, hg2, _, _, hc2, ht2⟩
        · rw [hy] at hy2; cases hy2
        · rw [hy] at hy2 hg
          injection hg with hg
          injection hy2 with e1 e2 e3
          injection e1 with e1
          injection e1 with e1 _ _
          have hg' : g1 = g := hg
          subst e1; subst e3; subst hg'
          refine ⟨cur1, cur2, hg1, hg2, by omega, by rw [Nat.mul_one] at ht2; exact ht2⟩
  rcases hfin.1 with rfl | rfl
  · exact hpost
  · exact hpost
end sound
end Go.Proofs.YtcdhcihjcjpmkaaGreatDoor.Eng
