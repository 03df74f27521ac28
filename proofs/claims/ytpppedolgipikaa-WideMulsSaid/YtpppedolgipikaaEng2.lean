/- THE ENGINE, part 2: what the evaluator's values say of the machine's, and how that is kept while the world turns. No statement is proved here. -/
import Derived.Test.YtpppedolgipikaaEng1
namespace Go.Proofs.Ytpppedolgipikaa.Eng
open Go Go.RowKit
set_option linter.unusedVariables false

theorem getS_set_same : ∀ (l : List AV) (n : Nat) (x : AV), n < l.length → getS (setS l n x) n = x
  | [], n, _, h => by simp at h
  | _ :: _, 0, _, _ => rfl
  | _ :: r, n + 1, x, h => getS_set_same r n x (by simpa using h)
theorem getS_set_ne : ∀ (l : List AV) (n m : Nat) (x : AV), n ≠ m → getS (setS l n x) m = getS l m
  | [], _, _, _, _ => rfl
  | _ :: _, 0, 0, _, h => absurd rfl h
  | _ :: _, 0, _ + 1, _, _ => rfl
  | _ :: _, _ + 1, 0, _, _ => rfl
  | _ :: r, n + 1, m + 1, x, h => getS_set_ne r n m x (by omega)
theorem getS_over : ∀ (l : List AV) (n : Nat), l.length ≤ n → getS l n = .none
  | [], _, _ => rfl
  | _ :: r, 0, h => by simp at h
  | _ :: r, n + 1, h => getS_over r n (by simpa using h)
@[simp] theorem setS_length : ∀ (l : List AV) (n : Nat) (x : AV), (setS l n x).length = l.length
  | [], _, _ => rfl
  | _ :: _, 0, _ => rfl
  | _ :: r, n + 1, x => by simp [setS, setS_length r n x]
theorem setS_same : ∀ (l : List AV) (n : Nat) (x : AV), getS l n = x → setS l n x = l
  | [], _, _, _ => rfl
  | _ :: _, 0, _, h => by simp only [getS] at h; rw [setS, h]
  | _ :: r, n + 1, x, h => by simp only [getS] at h; rw [setS, setS_same r n x h]
theorem setS_comm : ∀ (l : List AV) (n m : Nat) (x y : AV), n ≠ m → setS (setS l n x) m y = setS (setS l m y) n x
  | [], _, _, _, _, _ => rfl
  | _ :: _, 0, 0, _, _, h => absurd rfl h
  | _ :: _, 0, _ + 1, _, _, _ => rfl
  | _ :: _, _ + 1, 0, _, _, _ => rfl
  | _ :: r, n + 1, m + 1, x, y, h => by simp only [setS]; rw [setS_comm r n m x y (by omega)]
theorem getH_set_same : ∀ (l : List (Option OB)) (n : Nat) (x : Option OB), n < l.length → getH (setH l n x) n = x
  | [], n, _, h => by simp at h
  | _ :: _, 0, _, _ => rfl
  | _ :: r, n + 1, x, h => getH_set_same r n x (by simpa using h)
theorem getH_set_ne : ∀ (l : List (Option OB)) (n m : Nat) (x : Option OB), n ≠ m → getH (setH l n x) m = getH l m
  | [], _, _, _, _ => rfl
  | _ :: _, 0, 0, _, h => absurd rfl h
  | _ :: _, 0, _ + 1, _, _ => rfl
  | _ :: _, _ + 1, 0, _, _ => rfl
  | _ :: r, n + 1, m + 1, x, h => getH_set_ne r n m x (by omega)
theorem getH_lt : ∀ (l : List (Option OB)) (n : Nat) (x : OB), getH l n = some x → n < l.length
  | [], _, _, h => by simp [getH] at h
  | _ :: _, 0, _, _ => by simp
  | _ :: r, n + 1, x, h => by have := getH_lt r n x h; simp; omega
@[simp] theorem setH_length : ∀ (l : List (Option OB)) (n : Nat) (x : Option OB), (setH l n x).length = l.length
  | [], _, _ => rfl
  | _ :: _, 0, _ => rfl
  | _ :: r, n + 1, x => by simp [setH, setH_length r n x]
theorem setH_comm : ∀ (l : List (Option OB)) (n m : Nat) (x y : Option OB), n ≠ m → setH (setH l n x) m y = setH (setH l m y) n x
  | [], _, _, _, _, _ => rfl
  | _ :: _, 0, 0, _, _, h => absurd rfl h
  | _ :: _, 0, _ + 1, _, _, _ => rfl
  | _ :: _, _ + 1, 0, _, _, _ => rfl
  | _ :: r, n + 1, m + 1, x, y, h => by simp only [setH]; rw [setH_comm r n m x y (by omega)]

/-- two lists, place by place -/
def L2 {α β : Type} (R : α → β → Prop) : List α → List β → Prop
  | [], [] => True
  | a :: as, b :: bs => R a b ∧ L2 R as bs
  | _, _ => False
theorem L2.imp {α β : Type} {R R' : α → β → Prop} (h : ∀ a b, R a b → R' a b) : ∀ {as : List α} {bs : List β}, L2 R as bs → L2 R' as bs
  | [], [], _ => trivial
  | _ :: _, _ :: _, ⟨h1, h2⟩ => ⟨h _ _ h1, L2.imp h h2⟩
  | [], _ :: _, h => h.elim
  | _ :: _, [], h => h.elim
theorem L2.length {α β : Type} {R : α → β → Prop} : ∀ {as : List α} {bs : List β}, L2 R as bs → as.length = bs.length
  | [], [], _ => rfl
  | _ :: _, _ :: _, ⟨_, h2⟩ => by simp [L2.length h2]
  | [], _ :: _, h => h.elim
  | _ :: _, [], h => h.elim

/-- a slice that reads as a list, out of blocks that nobody writes -/
def LiR (pr : Nat → Prop) (w : World) (k : IntKind) (xs : List Int) (y : Value) : Prop :=
  ∃ A c, y = .slice A xs.length c ∧ xs.length ≤ c ∧ ∀ i, i < xs.length → ∃ a, A = some a ∧ w.cell? (a.add i) = some (.int k (xs.getD i 0)) ∧ ¬ pr a.block
/-- one cell -/
def LR (pr : Nat → Prop) (w : World) : AV → Value → Prop
  | .v x, y => y = x
  | .er t e, y => y = errV t e
  | .li k xs, y => LiR pr w k xs y
  | _, _ => False
/-- a value without a road into the call's own memory -/
def CR (pr : Nat → Prop) (w : World) : AV → Value → Prop
  | .arr k n x, y => y = .agg (x.1.map (Value.int k)).toArray
  | .agg ps, y => ∃ cs : List Value, y = .agg cs.toArray ∧ L2 (LR pr w) ps cs
  | .v x, y => y = x
  | .er t e, y => y = errV t e
  | .li k xs, y => LiR pr w k xs y
  | _, _ => False
/-- what a callee tells -/
def TR (pr : Nat → Prop) (w : World) : AV → Value → Prop
  | .tup ps, y => ∃ cs : List Value, y = .tuple cs.toArray ∧ L2 (CR pr w) ps cs
  | .arr k n x, y => CR pr w (.arr k n x) y
  | .agg ps, y => CR pr w (.agg ps) y
  | .v x, y => y = x
  | .er t e, y => y = errV t e
  | .li k xs, y => LiR pr w k xs y
  | _, _ => False

def protB (L : Nat → Prop) (β : Nat → Option Nat) (g : Nat) : Prop := L g ∨ ∃ b, β b = some g

/-- a slot -/
def VR (L : Nat → Prop) (β : Nat → Option Nat) (w : World) : AV → Value → Prop
  | .none, _ => True
  | .ptr b off, y => ∃ g, β b = some g ∧ y = .pointer (some ⟨g, off, Option.none⟩)
  | .pidx b n i, y => ∃ g, β b = some g ∧ y = .pointer (some ⟨g, i.toNat, Option.none⟩) ∧ i.toNat < n
  | .lidx k xs i, y => ∃ a, y = .pointer (some a) ∧ w.cell? a = some (.int k (lrd xs i)) ∧ ¬ protB L β a.block
  | .bor b lo hi, y => ∃ g c, β b = some g ∧ y = .slice (some ⟨g, lo, Option.none⟩) (hi - lo) c ∧ hi - lo ≤ c
  | .tup ps, y => TR (protB L β) w (.tup ps) y
  | .arr k n x, y => CR (protB L β) w (.arr k n x) y
  | .agg ps, y => CR (protB L β) w (.agg ps) y
  | .v x, y => y = x
  | .er t e, y => y = errV t e
  | .li k xs, y => LiR (protB L β) w k xs y
  | _, _ => False

/-- a block of the call's own -/
def OR (pr : Nat → Prop) (w : World) (g : Nat) : OB → Prop
  | .arr k n x => ∃ t, w.heap[g]? = some (.cells (x.1.map (Value.int k)).toArray t (0, 0))
  | .agg ps => ∃ (cs : List Value) (t : TypeId), w.heap[g]? = some (.cells cs.toArray t (0, 0)) ∧ L2 (LR pr w) ps cs
  | .row _ _ => False

/-- blocks that nobody protects stay -/
def Keeps (pr : Nat → Prop) (w w' : World) : Prop := ∀ g, g < w.heap.size → ¬ pr g → w'.heap[g]? = w.heap[g]?

section mono
variable {pr pr' : Nat → Prop} {w w' : World}
theorem add_block (a : Addr) (i : Nat) : (a.add i).block = a.block := by unfold Addr.add; split <;> rfl
theorem cell_keep (hk : Keeps pr w w') {a : Addr} {v : Value} (h : w.cell? a = some v) (hp : ¬ pr a.block) : w'.cell? a = some v := by
  rw [World.cell?_of_block (hk a.block (World.block_lt_of_cell? w a h) hp)]; exact h
theorem LiR.mono (hk : Keeps pr w w') (hs : ∀ g, g < w.heap.size → pr' g → pr g) {k : IntKind} {xs : List Int} {y : Value} (h : LiR pr w k xs y) : LiR pr' w' k xs y := by
  obtain ⟨A, c, rfl, hc, hr⟩ := h
  refine ⟨A, c, rfl, hc, fun i hi => ?_⟩
  obtain ⟨a, rfl, hcell, hp⟩ := hr i hi
  have hlt := World.block_lt_of_cell? w _ hcell
  rw [add_block] at hlt
  exact ⟨a, rfl, cell_keep hk hcell (by rw [add_block]; exact hp), fun h => hp (hs _ hlt h)⟩
theorem LR.mono (hk : Keeps pr w w') (hs : ∀ g, g < w.heap.size → pr' g → pr g) {x : AV} {y : Value} (h : LR pr w x y) : LR pr' w' x y := by
  cases x <;> first | exact h | exact LiR.mono hk hs h
theorem CR.mono (hk : Keeps pr w w') (hs : ∀ g, g < w.heap.size → pr' g → pr g) {x : AV} {y : Value} (h : CR pr w x y) : CR pr' w' x y := by
  cases x with
  | agg ps => obtain ⟨cs, rfl, h2⟩ := h; exact ⟨cs, rfl, h2.imp fun _ _ => LR.mono hk hs⟩
  | li k xs => exact LiR.mono hk hs h
  | _ => exact h
theorem TR.mono (hk : Keeps pr w w') (hs : ∀ g, g < w.heap.size → pr' g → pr g) {x : AV} {y : Value} (h : TR pr w x y) : TR pr' w' x y := by
  cases x with
  | tup ps => obtain ⟨cs, rfl, h2⟩ := h; exact ⟨cs, rfl, h2.imp fun _ _ => CR.mono hk hs⟩
  | agg ps => exact CR.mono (x := .agg ps) hk hs h
  | li k xs => exact LiR.mono hk hs h
  | _ => exact h
theorem OR.mono (hk : Keeps pr w w') (hs : ∀ g, g < w.heap.size → pr' g → pr g) {g : Nat} {ob : OB} (hg : w'.heap[g]? = w.heap[g]?) (h : OR pr w g ob) : OR pr' w' g ob := by
  cases ob with
  | arr k n x => obtain ⟨t, ht⟩ := h; exact ⟨t, hg.trans ht⟩
  | agg ps => obtain ⟨cs, t, ht, h2⟩ := h; exact ⟨cs, t, hg.trans ht, h2.imp fun _ _ => LR.mono hk hs⟩
  | row k xs => exact h
end mono

theorem VR.mono {L L' : Nat → Prop} {β β' : Nat → Option Nat} {w w' : World} (hβ : ∀ b g, β b = some g → β' b = some g) (hk : Keeps (protB L β) w w')
    (hs : ∀ g, g < w.heap.size → protB L' β' g → protB L β g) {x : AV} {y : Value} (h : VR L β w x y) : VR L' β' w' x y := by
  cases x with
  | none => trivial
  | ptr b off => obtain ⟨g, hg, rfl⟩ := h; exact ⟨g, hβ _ _ hg, rfl⟩
  | pidx b n i => obtain ⟨g, hg, rfl, hn⟩ := h; exact ⟨g, hβ _ _ hg, rfl, hn⟩
  | bor b lo hi => obtain ⟨g, c, hg, rfl, hc⟩ := h; exact ⟨g, c, hβ _ _ hg, rfl, hc⟩
  | lidx k xs i =>
    obtain ⟨a, rfl, hc, hp⟩ := h
    exact ⟨a, rfl, cell_keep hk hc hp, fun h => hp (hs _ (World.block_lt_of_cell? w _ hc) h)⟩
  | tup ps => exact TR.mono (x := .tup ps) hk hs h
  | arr k n x => exact h
  | agg ps => exact CR.mono (x := .agg ps) hk hs h
  | v x => exact h
  | er t e => exact h
  | li k xs => exact LiR.mono hk hs h
  | own b => exact h
  | fresh k xs => exact h

/-- the evaluator's state and the machine's -/
structure SR (L : Nat → Prop) (w0 : World) (β : Nat → Option Nat) (st : St) (a : Act) (w : World) : Prop where
  defers : a.defers = []
  size : a.tmps.size = st.slots.length
  below : Below w0.heap.size w0 w
  low : ∀ g, L g → g < w0.heap.size
  inj : ∀ b b' g, β b = some g → β b' = some g → b = b'
  new : ∀ b g, β b = some g → w0.heap.size ≤ g
  heap : ∀ b g, β b = some g → ∃ ob, getH st.heap b = some ob ∧ OR (protB L β) w g ob
  back : ∀ b ob, getH st.heap b = some ob → ∃ g, β b = some g
  slots : ∀ t, VR L β w (getS st.slots t) (a.tmps.getD t undef)

theorem OR.lt {pr : Nat → Prop} {w : World} {g : Nat} {ob : OB} (h : OR pr w g ob) : g < w.heap.size := by
  cases ob with
  | arr k n x => obtain ⟨t, ht⟩ := h; exact (Array.getElem?_eq_some_iff.1 ht).1
  | agg ps => obtain ⟨cs, t, ht, _⟩ := h; exact (Array.getElem?_eq_some_iff.1 ht).1
  | row k xs => exact h.elim
theorem SR.lt {L : Nat → Prop} {w0 : World} {β : Nat → Option Nat} {st : St} {a : Act} {w : World} (h : SR L w0 β st a w) {b g : Nat} (hb : β b = some g) : g < w.heap.size := by
  obtain ⟨ob, _, ho⟩ := h.heap b g hb; exact ho.lt

theorem getD_put (a : Act) (d t : Nat) (v : Value) (hd : d < a.tmps.size) : (a.put (some d) v).tmps.getD t undef = if d = t then v else a.tmps.getD t undef := by
  simp only [Act.put, Array.getD_eq_getD_getElem?, Array.getElem?_setIfInBounds]
  by_cases h : d = t
  · subst h; simp [hd]
  · simp [h]

section keep
variable {L : Nat → Prop} {w0 : World} {β : Nat → Option Nat} {st : St} {a : Act} {w : World}
/-- a value put into a slot -/
theorem SR.put (h : SR L w0 β st a w) (d : Option Tmp) {x : AV} {v : Value} (hx : VR L β w x v) : SR L w0 β (st.put d x) (a.put d v) w := by
  cases d with
  | none => exact h
  | some d =>
    refine ⟨h.defers, by simpa [Act.put, St.put] using h.size, h.below, h.low, h.inj, h.new, h.heap, h.back, fun t => ?_⟩
    show VR L β w (getS (setS st.slots d x) t) _
    by_cases hd : d < st.slots.length
    · rw [getD_put a d t v (Nat.lt_of_lt_of_eq hd h.size.symm)]
      by_cases hdt : d = t
      · subst hdt; rw [getS_set_same _ _ _ hd, if_pos rfl]; exact hx
      · rw [getS_set_ne _ _ _ _ hdt, if_neg hdt]; exact h.slots t
    · have e1 : setS st.slots d x = st.slots := setS_over _ _ _ (Nat.le_of_not_lt hd)
      have e2 : (a.put (some d) v).tmps = a.tmps := by
        simp only [Act.put]; rw [Array.setIfInBounds_eq_of_size_le (Nat.le_trans (Nat.le_of_eq h.size) (Nat.le_of_not_lt hd))]
      rw [e1, e2]; exact h.slots t
where
  setS_over : ∀ (l : List AV) (n : Nat) (x : AV), l.length ≤ n → setS l n x = l
    | [], _, _, _ => rfl
    | _ :: r, 0, _, h => by simp at h
    | _ :: r, n + 1, x, h => by simp only [setS]; rw [setS_over r n x (by simpa using h)]
/-- the world turns, and no block of the call's own does -/
theorem SR.turn (h : SR L w0 β st a w) {w' : World} (hb : Below w.heap.size w w') : SR L w0 β st a w' := by
  have hk : ∀ p, Keeps p w w' := fun p g hg _ => hb.block g hg
  exact ⟨h.defers, h.size, h.below.trans (hb.mono h.below.size), h.low, h.inj, h.new,
    fun b g hg => let ⟨ob, h1, h2⟩ := h.heap b g hg; ⟨ob, h1, OR.mono (hk _) (fun _ _ x => x) (hb.block g (h.lt hg)) h2⟩, h.back,
    fun t => VR.mono (fun _ _ x => x) (hk _) (fun _ _ x => x) (h.slots t)⟩
/-- what a new block holds -/
def Init (pr : Nat → Prop) (w : World) (cs : Array Value) : OB → Prop
  | .arr k n x => cs = (x.1.map (Value.int k)).toArray
  | .agg ps => L2 (LR pr w) ps cs.toList
  | .row _ _ => False
/-- a new block -/
theorem SR.alloc (h : SR L w0 β st a w) {d : Tmp} {ob : OB} {cs : Array Value} {t : TypeId} (hd : getH st.heap d = Option.none) (hl : d < st.heap.length)
    (hob : Init (protB L β) w cs ob) :
    ∃ β', SR L w0 β' ⟨setS st.slots d (.ptr d 0), setH st.heap d (some ob)⟩ (a.put (some d) (.pointer (some ⟨w.heap.size, 0, Option.none⟩))) (w.alloc (.cells cs t (0, 0))) := by
  have hbw : Below w.heap.size w (w.alloc (.cells cs t (0, 0))) := (Below.refl _ w).alloc (Nat.le_refl _) _
  have hβd : β d = Option.none := by
    cases hq : β d with
    | none => rfl
    | some g => obtain ⟨ob', h1, _⟩ := h.heap d g hq; rw [hd] at h1; cases h1
  obtain ⟨β', hβ1, hβ2⟩ : ∃ β' : Nat → Option Nat, β' d = some w.heap.size ∧ ∀ b, b ≠ d → β' b = β b :=
    ⟨fun b => if b = d then some w.heap.size else β b, if_pos rfl, fun b hb => if_neg hb⟩
  have hβ : ∀ b g, β b = some g → β' b = some g := fun b g hg => by
    rw [hβ2 b (by rintro rfl; rw [hβd] at hg; cases hg)]; exact hg
  have hs : ∀ g, g < w.heap.size → protB L β' g → protB L β g := by
    rintro g hg (hL | ⟨b, hb⟩)
    · exact .inl hL
    · by_cases hbd : b = d
      · rw [hbd, hβ1] at hb; injection hb with hb; omega
      · exact .inr ⟨b, hβ2 b hbd ▸ hb⟩
  have hk : ∀ p, Keeps p w (w.alloc (.cells cs t (0, 0))) := fun p g hg _ => hbw.block g hg
  refine ⟨β', ?_⟩
  have h1 : SR L w0 β' ⟨st.slots, setH st.heap d (some ob)⟩ a (w.alloc (.cells cs t (0, 0))) := by
    refine ⟨h.defers, h.size, h.below.trans (hbw.mono h.below.size), h.low, ?_, ?_, ?_, ?_, fun t => VR.mono hβ (hk _) hs (h.slots t)⟩
    · intro b b' g hb hb'
      by_cases e1 : b = d <;> by_cases e2 : b' = d
      · rw [e1, e2]
      · exfalso
        rw [e1, hβ1] at hb; rw [hβ2 _ e2] at hb'; injection hb with hb; subst hb
        have := h.lt hb'; omega
      · exfalso
        rw [e2, hβ1] at hb'; rw [hβ2 _ e1] at hb; injection hb' with hb'; subst hb'
        have := h.lt hb; omega
      · exact h.inj b b' g (hβ2 _ e1 ▸ hb) (hβ2 _ e2 ▸ hb')
    · intro b g hb
      by_cases e1 : b = d
      · rw [e1, hβ1] at hb; injection hb with hb; rw [← hb]; exact h.below.size
      · exact h.new b g (hβ2 _ e1 ▸ hb)
    · intro b g hb
      by_cases e1 : b = d
      · rw [e1, hβ1] at hb; injection hb with hb; subst hb
        refine ⟨ob, by show getH (setH _ _ _) _ = _; rw [e1, getH_set_same _ _ _ hl], ?_⟩
        cases ob with
        | arr k n x => exact ⟨t, by rw [show cs = _ from hob]; exact heap_alloc_new w _⟩
        | agg ps => exact ⟨cs.toList, t, heap_alloc_new w _, L2.imp (fun _ _ => LR.mono (hk _) hs) hob⟩
        | row k xs => exact hob
      · obtain ⟨ob', h1, h2⟩ := h.heap b g (hβ2 _ e1 ▸ hb)
        exact ⟨ob', by show getH (setH _ _ _) _ = _; rw [getH_set_ne _ _ _ _ (Ne.symm e1)]; exact h1, OR.mono (hk _) hs (hbw.block g (h.lt (hβ2 _ e1 ▸ hb))) h2⟩
    · intro b ob' hb
      by_cases e1 : b = d
      · exact ⟨_, e1 ▸ hβ1⟩
      · have hb2 : getH (setH st.heap d (some ob)) b = some ob' := hb
        rw [getH_set_ne _ _ _ _ (Ne.symm e1)] at hb2
        obtain ⟨g, hg⟩ := h.back b ob' hb2
        exact ⟨g, hβ b g hg⟩
  exact h1.put (some d) (x := .ptr d 0) ⟨w.heap.size, hβ1, rfl⟩
/-- a block of the call's own is written -/
theorem SR.write (h : SR L w0 β st a w) {b g : Nat} (hb : β b = some g) {ob' : OB} {w' : World} (hg : ∀ g', g' ≠ g → w'.heap[g']? = w.heap[g']?) (hsz : w'.heap.size = w.heap.size)
    (ho : w'.os = w.os) (ht : w'.tape = w.tape) (hout : w'.output = w.output)
    (hob : (∀ (pr : Nat → Prop), Keeps (protB L β) w w' → (∀ x y, LR (protB L β) w x y → LR (protB L β) w' x y) → OR (protB L β) w' g ob')) :
    SR L w0 β ⟨st.slots, setH st.heap b (some ob')⟩ a w' := by
  have hk : Keeps (protB L β) w w' := fun g' _ hp => hg g' (by rintro rfl; exact hp (.inr ⟨b, hb⟩))
  have hbw : Below w0.heap.size w0 w' := h.below.trans ⟨ho, ht, hout, by omega, fun k hk' => hg k (by have := h.new b g hb; omega)⟩
  obtain ⟨ob, hob1, _⟩ := h.heap b g hb
  refine ⟨h.defers, h.size, hbw, h.low, h.inj, h.new, ?_, ?_, fun t => VR.mono (fun _ _ x => x) hk (fun _ _ x => x) (h.slots t)⟩
  · intro b' g' hb'
    by_cases e : b' = b
    · subst e
      rw [hb] at hb'; injection hb' with hb'; subst hb'
      exact ⟨ob', by show getH (setH _ _ _) _ = _; rw [getH_set_same _ _ _ (getH_lt _ _ _ hob1)], hob (protB L β) hk fun _ _ => LR.mono hk (fun _ _ x => x)⟩
    · obtain ⟨o2, h1, h2⟩ := h.heap b' g' hb'
      exact ⟨o2, by show getH (setH _ _ _) _ = _; rw [getH_set_ne _ _ _ _ (Ne.symm e)]; exact h1,
        OR.mono hk (fun _ _ x => x) (hg g' (by rintro rfl; exact e (h.inj _ _ _ hb' hb))) h2⟩
  · intro b' o2 hb'
    by_cases e : b' = b
    · exact ⟨g, e ▸ hb⟩
    · have hb2 : getH (setH st.heap b (some ob')) b' = some o2 := hb'
      rw [getH_set_ne _ _ _ _ (Ne.symm e)] at hb2
      exact h.back b' o2 hb2
end keep
end Go.Proofs.Ytpppedolgipikaa.Eng
