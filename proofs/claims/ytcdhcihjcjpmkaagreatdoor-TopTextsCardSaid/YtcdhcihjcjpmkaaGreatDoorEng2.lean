/- THE ENGINE, part 2: what the evaluator's values say of the machine's, and how that is kept while the world turns. No statement is proved here. -/
import Derived.Test.YtcdhcihjcjpmkaaGreatDoorEng1
import Derived.Laws.AppendOwn
namespace Go.Proofs.YtcdhcihjcjpmkaaGreatDoor.Eng
open Go Go.RowKit
set_option linter.unusedVariables false

theorem getS_set_same : ∀ (l : List AV) (n : Nat) (x : AV), n < l.length → getS (setS l n x) n = x
  | [], n, _, h => by simp at h
  | _ :: _, 0, _, _ => rfl
  | _ :: r, n + 1, x, h => getS_set_same r n x (by simpa using h)
theorem getS_set_ne : ∀ (l : List AV) (n m : Nat) (x : AV), n ≠ m → getS (setS l n x) m = getS l m
  | [], _, _, _, _ => rfl
  | _ :: _, 0, 0, _, h => absurd rfl h
  | _ :: _, 0, _ + 1, _, _ => rfl
  | _ :: _, _ + 1, 0, _, _ => rfl
  | _ :: r, n + 1, m + 1, x, h => getS_set_ne r n m x (by omega)
theorem getS_over : ∀ (l : List AV) (n : Nat), l.length ≤ n → getS l n = .none
  | [], _, _ => rfl
  | _ :: r, 0, h => by simp at h
  | _ :: r, n + 1, h => getS_over r n (by simpa using h)
@[simp] theorem setS_length : ∀ (l : List AV) (n : Nat) (x : AV), (setS l n x).length = l.length
  | [], _, _ => rfl
  | _ :: _, 0, _ => rfl
  | _ :: r, n + 1, x => by simp [setS, setS_length r n x]
theorem setS_same : ∀ (l : List AV) (n : Nat) (x : AV), getS l n = x → setS l n x = l
  | [], _, _, _ => rfl
  | _ :: _, 0, _, h => by simp only [getS] at h; rw [setS, h]
  | _ :: r, n + 1, x, h => by simp only [getS] at h; rw [setS, setS_same r n x h]
theorem setS_comm : ∀ (l : List AV) (n m : Nat) (x y : AV), n ≠ m → setS (setS l n x) m y = setS (setS l m y) n x
  | [], _, _, _, _, _ => rfl
  | _ :: _, 0, 0, _, _, h => absurd rfl h
  | _ :: _, 0, _ + 1, _, _, _ => rfl
  | _ :: _, _ + 1, 0, _, _, _ => rfl
  | _ :: r, n + 1, m + 1, x, y, h => by simp only [setS]; rw [setS_comm r n m x y (by omega)]
theorem getH_set_same : ∀ (l : List (Option OB)) (n : Nat) (x : Option OB), n < l.length → getH (setH l n x) n = x
  | [], n, _, h => by simp at h
  | _ :: _, 0, _, _ => rfl
  | _ :: r, n + 1, x, h => getH_set_same r n x (by simpa using h)
theorem getH_set_ne : ∀ (l : List (Option OB)) (n m : Nat) (x : Option OB), n ≠ m → getH (setH l n x) m = getH l m
  | [], _, _, _, _ => rfl
  | _ :: _, 0, 0, _, h => absurd rfl h
  | _ :: _, 0, _ + 1, _, _ => rfl
  | _ :: _, _ + 1, 0, _, _ => rfl
  | _ :: r, n + 1, m + 1, x, h => getH_set_ne r n m x (by omega)
theorem getH_lt : ∀ (l : List (Option OB)) (n : Nat) (x : OB), getH l n = some x → n < l.length
  | [], _, _, h => by simp [getH] at h
  | _ :: _, 0, _, _ => by simp
  | _ :: r, n + 1, x, h => by have := getH_lt r n x h; simp; omega
@[simp] theorem setH_length : ∀ (l : List (Option OB)) (n : Nat) (x : Option OB), (setH l n x).length = l.length
  | [], _, _ => rfl
  | _ :: _, 0, _ => rfl
  | _ :: r, n + 1, x => by simp [setH, setH_length r n x]
theorem setH_comm : ∀ (l : List (Option OB)) (n m : Nat) (x y : Option OB), n ≠ m → setH (setH l n x) m y = setH (setH l m y) n x
  | [], _, _, _, _, _ => rfl
  | _ :: _, 0, 0, _, _, h => absurd rfl h
  | _ :: _, 0, _ + 1, _, _, _ => rfl
  | _ :: _, _ + 1, 0, _, _, _ => rfl
  | _ :: r, n + 1, m + 1, x, y, h => by simp only [setH]; rw [setH_comm r n m x y (by omega)]

/-- two lists, place by place -/
def L2 {α β : Type} (R : α → β → Prop) : List α → List β → Prop
  | [], [] => True
  | a :: as, b :: bs => R a b ∧ L2 R as bs
  | _, _ => False
theorem L2.imp {α β : Type} {R R' : α → β → Prop} (h : ∀ a b, R a b → R' a b) : ∀ {as : List α} {bs : List β}, L2 R as bs → L2 R' as bs
  | [], [], _ => trivial
  | _ :: _, _ :: _, ⟨h1, h2⟩ => ⟨h _ _ h1, L2.imp h h2⟩
  | [], _ :: _, h => h.elim
  | _ :: _, [], h => h.elim
theorem L2.length {α β : Type} {R : α → β → Prop} : ∀ {as : List α} {bs : List β}, L2 R as bs → as.length = bs.length
  | [], [], _ => rfl
  | _ :: _, _ :: _, ⟨_, h2⟩ => by simp [L2.length h2]
  | [], _ :: _, h => h.elim
  | _ :: _, [], h => h.elim

/-- a slice that reads as a list, out of blocks that nobody writes -/
def LiR (pr : Nat → Prop) (w : World) (k : IntKind) (xs : List Int) (y : Value) : Prop :=
  ∃ A c, y = .slice A xs.length c ∧ (xs.length ≤ c ∧ ∀ a, A = some a → a.spot = Option.none) ∧ ∀ i, i < xs.length → ∃ a, A = some a ∧ w.cell? (a.add i) = some (.int k (xs.getD i 0)) ∧ ¬ pr a.block
/-- one cell -/
def LR (pr : Nat → Prop) (w : World) : AV → Value → Prop
  | .v x, y => y = x
  | .er t e, y => y = errV t e
  | .li k xs, y => LiR pr w k xs y
  | _, _ => False
/-- one part of a struct that may have arrays, cell by cell -/
def PC (pr : Nat → Prop) (w : World) : AV → List Value → Prop
  | .arr k n x, a => a = x.1.map (Value.int k)
  | p, a => ∃ c, a = [c] ∧ LR pr w p c
/-- such parts, one behind another -/
def LL (pr : Nat → Prop) (w : World) : List AV → List Value → Prop
  | [], cs => cs = []
  | p :: ps, cs => ∃ a b, cs = a ++ b ∧ PC pr w p a ∧ LL pr w ps b
/-- a value without a road into the call's own memory -/
def CR (pr : Nat → Prop) (w : World) : AV → Value → Prop
  | .arr k n x, y => y = .agg (x.1.map (Value.int k)).toArray
  | .agg ps, y => ∃ cs : List Value, y = .agg cs.toArray ∧ L2 (LR pr w) ps cs
  | .sta ps, y => ∃ cs : List Value, y = .agg cs.toArray ∧ LL pr w ps cs
  | .v x, y => y = x
  | .er t e, y => y = errV t e
  | .li k xs, y => LiR pr w k xs y
  | _, _ => False
theorem PC.imp {pr pr' : Nat → Prop} {w w' : World} (hh : ∀ x y, LR pr w x y → LR pr' w' x y) {x : AV} {a : List Value} (h : PC pr w x a) : PC pr' w' x a := by
  cases x <;> first | exact h | exact Exists.imp (fun _ h => ⟨h.1, hh _ _ h.2⟩) h
theorem LL.imp {pr pr' : Nat → Prop} {w w' : World} (hh : ∀ x y, LR pr w x y → LR pr' w' x y) : ∀ {ps : List AV} {cs : List Value}, LL pr w ps cs → LL pr' w' ps cs
  | [], _, h => h
  | _ :: _, _, ⟨a, b, h1, h2, h3⟩ => ⟨a, b, h1, PC.imp hh h2, LL.imp hh h3⟩
/-- what a callee tells -/
def TR (pr : Nat → Prop) (w : World) : AV → Value → Prop
  | .tup ps, y => ∃ cs : List Value, y = .tuple cs.toArray ∧ L2 (CR pr w) ps cs
  | .arr k n x, y => CR pr w (.arr k n x) y
  | .agg ps, y => CR pr w (.agg ps) y
  | .sta ps, y => CR pr w (.sta ps) y
  | .v x, y => y = x
  | .er t e, y => y = errV t e
  | .li k xs, y => LiR pr w k xs y
  | _, _ => False

def protB (L : Nat → Prop) (β : Nat → Option Nat) (g : Nat) : Prop := L g ∨ ∃ b, β b = some g

/-- a slot -/
def VR (L : Nat → Prop) (β : Nat → Option Nat) (w : World) : AV → Value → Prop
  | .none, _ => True
  | .ptr b off, y => ∃ g, β b = some g ∧ y = .pointer (some ⟨g, off, Option.none⟩)
  | .pidx b n i, y => ∃ g, β b = some g ∧ y = .pointer (some ⟨g, i.toNat, Option.none⟩) ∧ i.toNat < n
  | .lidx k xs i, y => ∃ a, y = .pointer (some a) ∧ w.cell? a = some (.int k (lrd xs i)) ∧ ¬ protB L β a.block
  | .bor b lo hi, y => ∃ g c, β b = some g ∧ y = .slice (some ⟨g, lo, Option.none⟩) (hi - lo) c ∧ hi - lo ≤ c
  | .tup ps, y => TR (protB L β) w (.tup ps) y
  | .arr k n x, y => CR (protB L β) w (.arr k n x) y
  | .agg ps, y => CR (protB L β) w (.agg ps) y
  | .sta ps, y => CR (protB L β) w (.sta ps) y
  | .v x, y => y = x
  | .er t e, y => y = errV t e
  | .li k xs, y => LiR (protB L β) w k xs y
  | .own _, _ => True
  | .ridx _ _, _ => True

/-- a block of the call's own -/
def OR (pr : Nat → Prop) (w : World) (g : Nat) : OB → Prop
  | .arr k n x => ∃ t, w.heap[g]? = some (.cells (x.1.map (Value.int k)).toArray t (0, 0))
  | .agg ps => ∃ (cs : List Value) (t : TypeId), w.heap[g]? = some (.cells cs.toArray t (0, 0)) ∧ L2 (LR pr w) ps cs
  | .row _ _ _ => ∃ o, w.heap[g]? = some o
  | .dead => False
  | .it s p => w.heap[g]? = some (.stringIter s p)
  | .sta ps => ∃ (cs : List Value) (t : TypeId), w.heap[g]? = some (.cells cs.toArray t (0, 0)) ∧ LL pr w ps cs

/-- blocks that nobody protects stay -/
def Keeps (pr : Nat → Prop) (w w' : World) : Prop := ∀ g, g < w.heap.size → ¬ pr g → w'.heap[g]? = w.heap[g]?

section mono
variable {pr pr' : Nat → Prop} {w w' : World}
theorem add_block (a : Addr) (i : Nat) : (a.add i).block = a.block := by unfold Addr.add; split <;> rfl
theorem cell_keep (hk : Keeps pr w w') {a : Addr} {v : Value} (h : w.cell? a = some v) (hp : ¬ pr a.block) : w'.cell? a = some v := by
  rw [World.cell?_of_block (hk a.block (World.block_lt_of_cell? w a h) hp)]; exact h
theorem LiR.mono (hk : Keeps pr w w') (hs : ∀ g, g < w.heap.size → pr' g → pr g) {k : IntKind} {xs : List Int} {y : Value} (h : LiR pr w k xs y) : LiR pr' w' k xs y := by
  obtain ⟨A, c, rfl, hc, hr⟩ := h
  refine ⟨A, c, rfl, hc, fun i hi => ?_⟩
  obtain ⟨a, rfl, hcell, hp⟩ := hr i hi
  have hlt := World.block_lt_of_cell? w _ hcell
  rw [add_block] at hlt
  exact ⟨a, rfl, cell_keep hk hcell (by rw [add_block]; exact hp), fun h => hp (hs _ hlt h)⟩
theorem LR.mono (hk : Keeps pr w w') (hs : ∀ g, g < w.heap.size → pr' g → pr g) {x : AV} {y : Value} (h : LR pr w x y) : LR pr' w' x y := by
  cases x <;> first | exact h | exact LiR.mono hk hs h
theorem PC.mono (hk : Keeps pr w w') (hs : ∀ g, g < w.heap.size → pr' g → pr g) {x : AV} {a : List Value} (h : PC pr w x a) : PC pr' w' x a := by
  cases x <;> first | exact h | exact Exists.imp (fun _ h => ⟨h.1, LR.mono hk hs h.2⟩) h
theorem LL.mono (hk : Keeps pr w w') (hs : ∀ g, g < w.heap.size → pr' g → pr g) : ∀ {ps : List AV} {cs : List Value}, LL pr w ps cs → LL pr' w' ps cs
  | [], _, h => h
  | _ :: _, _, ⟨a, b, h1, h2, h3⟩ => ⟨a, b, h1, PC.mono hk hs h2, LL.mono hk hs h3⟩
theorem CR.mono (hk : Keeps pr w w') (hs : ∀ g, g < w.heap.size → pr' g → pr g) {x : AV} {y : Value} (h : CR pr w x y) : CR pr' w' x y := by
  cases x with
  | agg ps => obtain ⟨cs, rfl, h2⟩ := h; exact ⟨cs, rfl, h2.imp fun _ _ => LR.mono hk hs⟩
  | sta ps => obtain ⟨cs, rfl, h2⟩ := h; exact ⟨cs, rfl, LL.mono hk hs h2⟩
  | li k xs => exact LiR.mono hk hs h
  | _ => exact h
theorem TR.mono (hk : Keeps pr w w') (hs : ∀ g, g < w.heap.size → pr' g → pr g) {x : AV} {y : Value} (h : TR pr w x y) : TR pr' w' x y := by
  cases x with
  | tup ps => obtain ⟨cs, rfl, h2⟩ := h; exact ⟨cs, rfl, h2.imp fun _ _ => CR.mono hk hs⟩
  | agg ps => exact CR.mono (x := .agg ps) hk hs h
  | sta ps => exact CR.mono (x := .sta ps) hk hs h
  | li k xs => exact LiR.mono hk hs h
  | _ => exact h
theorem OR.mono (hk : Keeps pr w w') (hs : ∀ g, g < w.heap.size → pr' g → pr g) {g : Nat} {ob : OB} (hg : w'.heap[g]? = w.heap[g]?) (h : OR pr w g ob) : OR pr' w' g ob := by
  cases ob with
  | arr k n x => obtain ⟨t, ht⟩ := h; exact ⟨t, hg.trans ht⟩
  | agg ps => obtain ⟨cs, t, ht, h2⟩ := h; exact ⟨cs, t, hg.trans ht, h2.imp fun _ _ => LR.mono hk hs⟩
  | row k e xs => obtain ⟨o, ho⟩ := h; exact ⟨o, hg.trans ho⟩
  | dead => exact h
  | it s p => exact hg.trans h
  | sta ps => obtain ⟨cs, t, ht, h2⟩ := h; exact ⟨cs, t, hg.trans ht, LL.mono hk hs h2⟩
end mono

theorem VR.mono {L L' : Nat → Prop} {β β' : Nat → Option Nat} {w w' : World} (hβ : ∀ b g, β b = some g → β' b = some g) (hk : Keeps (protB L β) w w')
    (hs : ∀ g, g < w.heap.size → protB L' β' g → protB L β g) {x : AV} {y : Value} (h : VR L β w x y) : VR L' β' w' x y := by
  cases x with
  | none => trivial
  | ptr b off => obtain ⟨g, hg, rfl⟩ := h; exact ⟨g, hβ _ _ hg, rfl⟩
  | pidx b n i => obtain ⟨g, hg, rfl, hn⟩ := h; exact ⟨g, hβ _ _ hg, rfl, hn⟩
  | bor b lo hi => obtain ⟨g, c, hg, rfl, hc⟩ := h; exact ⟨g, c, hβ _ _ hg, rfl, hc⟩
  | lidx k xs i =>
    obtain ⟨a, rfl, hc, hp⟩ := h
    exact ⟨a, rfl, cell_keep hk hc hp, fun h => hp (hs _ (World.block_lt_of_cell? w _ hc) h)⟩
  | tup ps => exact TR.mono (x := .tup ps) hk hs h
  | arr k n x => exact h
  | agg ps => exact CR.mono (x := .agg ps) hk hs h
  | sta ps => exact CR.mono (x := .sta ps) hk hs h
  | v x => exact h
  | er t e => exact h
  | li k xs => exact LiR.mono hk hs h
  | own b => exact h
  | ridx b i => exact h

/-- a row, or one that has been let go -/
def isRD : OB → Bool
  | .row _ _ _ | .dead => true
  | _ => false
/-- a slot that leads to a block -/
def RR (h : List (Option OB)) (β : Nat → Option Nat) (base : Nat) (w : World) : AV → Value → Prop
  | .own b, y => ∃ ob, getH h b = some ob ∧ isRD ob = true ∧ ∀ k e xs, ob = .row k e xs → w.ownsRow base e 1 y xs.length (xs.map (Value.int k)) ∧ y.ownBlock = β b
  | .ridx b i, y => ∃ ob, getH h b = some ob ∧ isRD ob = true ∧ ∀ k e xs, ob = .row k e xs → i.toNat < xs.length ∧ ∃ g, β b = some g ∧ y = .pointer (some ⟨g, i.toNat, Option.none⟩) ∧
      ∃ c, w.ownsRow base e 1 (.slice (some ⟨g, 0, Option.none⟩) xs.length c) xs.length (xs.map (Value.int k))
  | .ptr b _, _ => ∃ ob, getH h b = some ob ∧ isRD ob = false
  | .pidx b _ _, _ => ∃ ob, getH h b = some ob ∧ isRD ob = false
  | .bor b _ _, _ => ∃ ob, getH h b = some ob ∧ isRD ob = false
  | _, _ => True
theorem RR.free {h : List (Option OB)} {β : Nat → Option Nat} {base : Nat} {w : World} {x : AV} {y : Value} (hx : noRef x = true) : RR h β base w x y := by
  cases x <;> first | trivial | cases hx
/-- the blocks of rows turn in no way -/
theorem RR.mono {h h' : List (Option OB)} {β β' : Nat → Option Nat} {base : Nat} {w w' : World} {x : AV} {y : Value}
    (hh : ∀ b, refOf x = some b → (∀ k e xs, getH h b = some (.row k e xs) → (getH h' b = some (.row k e xs) ∧ β' b = β b ∧ ∀ g, β b = some g → w'.heap[g]? = w.heap[g]?) ∨ getH h' b = some .dead) ∧
      (getH h b = some .dead → getH h' b = some .dead) ∧ (∀ ob, getH h b = some ob → isRD ob = false → ∃ ob', getH h' b = some ob' ∧ isRD ob' = false))
    (hr : RR h β base w x y) : RR h' β' base w' x y := by
  have kept : ∀ {e : TypeId} {n : Nat} {v : Value} {l : List Value}, (∀ g, v.ownBlock = some g → w'.heap[g]? = w.heap[g]?) → w.ownsRow base e 1 v n l → w'.ownsRow base e 1 v n l := by
    rintro e n v l hg ⟨h1, h2 | ⟨g, cap, cur, rfl, h3, h4, h5⟩⟩
    · exact ⟨h1, .inl h2⟩
    · exact ⟨h1, .inr ⟨g, cap, cur, rfl, h3, (hg g rfl).trans h4, h5⟩⟩
  cases x with
  | own b =>
    obtain ⟨ob, h1, h2, h3⟩ := hr
    obtain ⟨ha, hb, hc⟩ := hh b rfl
    cases ob with
    | row k e xs =>
      rcases ha k e xs h1 with ⟨a1, a2, a3⟩ | hdead
      rotate_left
      · exact ⟨_, hdead, rfl, fun k e xs he => by cases he⟩
      obtain ⟨b1, b2⟩ := h3 k e xs rfl
      refine ⟨_, a1, rfl, fun k' e' xs' he => ?_⟩
      injection he with e1 e2 e3
      subst e1; subst e2; subst e3
      exact ⟨kept (fun g hg => a3 g (b2 ▸ hg)) b1, b2.trans a2.symm⟩
    | dead => exact ⟨_, hb h1, rfl, fun k e xs he => by cases he⟩
    | arr k n x => cases h2
    | agg ps => cases h2
    | it s p => cases h2
    | sta ps => cases h2
  | ridx b i =>
    obtain ⟨ob, h1, h2, h3⟩ := hr
    obtain ⟨ha, hb, hc⟩ := hh b rfl
    cases ob with
    | row k e xs =>
      rcases ha k e xs h1 with ⟨a1, a2, a3⟩ | hdead
      rotate_left
      · exact ⟨_, hdead, rfl, fun k e xs he => by cases he⟩
      obtain ⟨b0, g, b1, b2, c, b3⟩ := h3 k e xs rfl
      refine ⟨_, a1, rfl, fun k' e' xs' he => ?_⟩
      injection he with e1 e2 e3
      subst e1; subst e2; subst e3
      refine ⟨b0, g, a2.trans b1, b2, c, kept (fun g' hg => ?_) b3⟩
      simp [Value.ownBlock] at hg
      subst hg
      exact a3 g b1
    | dead => exact ⟨_, hb h1, rfl, fun k e xs he => by cases he⟩
    | arr k n x => cases h2
    | agg ps => cases h2
    | it s p => cases h2
    | sta ps => cases h2
  | ptr b off => obtain ⟨ob, h1, h2⟩ := hr; exact (hh b rfl).2.2 ob h1 h2
  | pidx b n i => obtain ⟨ob, h1, h2⟩ := hr; exact (hh b rfl).2.2 ob h1 h2
  | bor b lo hi => obtain ⟨ob, h1, h2⟩ := hr; exact (hh b rfl).2.2 ob h1 h2
  | _ => trivial

/-- package-level variables that callees read, and what they hold -/
def gvals : List (Addr × Value) := [(⟨5, 15, Option.none⟩, .int .u8 4)]
/-- whole tables -/
def gtabs : List (Nat × List Value) := [(0, [.int .u64 1, .int .u64 10, .int .u64 100, .int .u64 1000, .int .u64 10000, .int .u64 100000, .int .u64 1000000, .int .u64 10000000, .int .u64 100000000, .int .u64 1000000000, .int .u64 10000000000, .int .u64 100000000000, .int .u64 1000000000000, .int .u64 10000000000000, .int .u64 100000000000000, .int .u64 1000000000000000, .int .u64 10000000000000000, .int .u64 100000000000000000, .int .u64 1000000000000000000, .int .u64 10000000000000000000])]
def GV (w : World) : Prop := (∀ p, p ∈ gvals → w.cell? p.1 = some p.2) ∧ ∀ p, p ∈ gtabs → ∃ t m, w.heap[p.1]? = some (.cells p.2.toArray t m)
def GX (X : Nat → Prop) : Prop := (∀ p, p ∈ gvals → ¬ X p.1.block) ∧ ∀ p, p ∈ gtabs → ¬ X p.1
theorem GV.turn {w w' : World} (h : Below w.heap.size w w') (hg : GV w) : GV w' := by
  refine ⟨fun p hp => ?_, fun p hp => ?_⟩
  · have := hg.1 p hp
    rw [World.cell?_of_block (h.block p.1.block (World.block_lt_of_cell? w _ this))]; exact this
  · obtain ⟨t, m, this⟩ := hg.2 p hp
    exact ⟨t, m, by rw [h.block p.1 (Array.getElem?_eq_some_iff.1 this).1]; exact this⟩
/-- where a call began, and the blocks there that it may write -/
structure Base where
  w : World
  X : Nat → Prop
/-- all below a number stays, but blocks that may be written -/
structure BelowX (X : Nat → Prop) (B : Nat) (w w' : World) : Prop where
  os : w'.os = w.os
  tape : w'.tape = w.tape
  output : w'.output = w.output
  size : w.heap.size ≤ w'.heap.size
  block : ∀ k, k < B → ¬ X k → w'.heap[k]? = w.heap[k]?
theorem BelowX.trans {X : Nat → Prop} {B : Nat} {a b c : World} (h : BelowX X B a b) (k : BelowX X B b c) : BelowX X B a c :=
  ⟨k.os.trans h.os, k.tape.trans h.tape, k.output.trans h.output, Nat.le_trans h.size k.size, fun i hi hx => (k.block i hi hx).trans (h.block i hi hx)⟩
theorem BelowX.of {X : Nat → Prop} {B : Nat} {a b : World} (h : Below B a b) : BelowX X B a b := ⟨h.os, h.tape, h.output, h.size, fun k hk _ => h.block k hk⟩
theorem BelowX.plain {X : Nat → Prop} {B : Nat} {a b : World} (h : BelowX X B a b) (hx : ∀ g, ¬ X g) : Below B a b := ⟨h.os, h.tape, h.output, h.size, fun k hk => h.block k hk (hx k)⟩
/-- the evaluator's state and the machine's -/
structure SR (L : Nat → Prop) (w0 : Base) (β : Nat → Option Nat) (st : St) (a : Act) (w : World) : Prop where
  defers : a.defers = []
  size : a.tmps.size = st.slots.length
  below : BelowX w0.X w0.w.heap.size w0.w w
  low : (∀ g, L g → g < w0.w.heap.size ∧ ¬ w0.X g) ∧ GV w0.w ∧ GX w0.X
  inj : ∀ b b' g, β b = some g → β b' = some g → b = b'
  new : ∀ b g, β b = some g → w0.w.heap.size ≤ g ∨ w0.X g
  heap : ∀ b g, β b = some g → ∃ ob, getH st.heap b = some ob ∧ OR (protB L β) w g ob
  back : ∀ b ob, getH st.heap b = some ob → (∃ g, β b = some g) ∨ isRD ob = true
  rows : ∀ t, RR st.heap β 0 w (getS st.slots t) (a.tmps.getD t undef)
  slots : ∀ t, VR L β w (getS st.slots t) (a.tmps.getD t undef)

theorem OR.lt {pr : Nat → Prop} {w : World} {g : Nat} {ob : OB} (h : OR pr w g ob) : g < w.heap.size := by
  cases ob with
  | arr k n x => obtain ⟨t, ht⟩ := h; exact (Array.getElem?_eq_some_iff.1 ht).1
  | agg ps => obtain ⟨cs, t, ht, _⟩ := h; exact (Array.getElem?_eq_some_iff.1 ht).1
  | row k e xs => obtain ⟨o, ho⟩ := h; exact (Array.getElem?_eq_some_iff.1 ho).1
  | dead => exact h.elim
  | sta ps => obtain ⟨cs, t, ht, _⟩ := h; exact (Array.getElem?_eq_some_iff.1 ht).1
  | it s p => exact (Array.getElem?_eq_some_iff.1 (show w.heap[g]? = some (.stringIter s p) from h)).1
theorem SR.gv {L : Nat → Prop} {w0 : Base} {β : Nat → Option Nat} {st : St} {a : Act} {w : World} (h : SR L w0 β st a w) : GV w := by
  refine ⟨fun p hp => ?_, fun p hp => ?_⟩
  · have := h.low.2.1.1 p hp
    rw [World.cell?_of_block (h.below.block p.1.block (World.block_lt_of_cell? _ _ this) (h.low.2.2.1 p hp))]; exact this
  · obtain ⟨t, m, this⟩ := h.low.2.1.2 p hp
    exact ⟨t, m, by rw [h.below.block p.1 (Array.getElem?_eq_some_iff.1 this).1 (h.low.2.2.2 p hp)]; exact this⟩
theorem SR.newL {L : Nat → Prop} {w0 : Base} {β : Nat → Option Nat} {st : St} {a : Act} {w : World} (h : SR L w0 β st a w) {b g : Nat} (hL : L g) (hg : β b = some g) : False := by
  rcases h.new b g hg with h1 | h1
  · have := (h.low.1 g hL).1; omega
  · exact (h.low.1 g hL).2 h1
theorem SR.lt {L : Nat → Prop} {w0 : Base} {β : Nat → Option Nat} {st : St} {a : Act} {w : World} (h : SR L w0 β st a w) {b g : Nat} (hb : β b = some g) : g < w.heap.size := by
  obtain ⟨ob, _, ho⟩ := h.heap b g hb; exact ho.lt

theorem getD_put (a : Act) (d t : Nat) (v : Value) (hd : d < a.tmps.size) : (a.put (some d) v).tmps.getD t undef = if d = t then v else a.tmps.getD t undef := by
  simp only [Act.put, Array.getD_eq_getD_getElem?, Array.getElem?_setIfInBounds]
  by_cases h : d = t
  · subst h; simp [hd]
  · simp [h]

section keep
variable {L : Nat → Prop} {w0 : Base} {β : Nat → Option Nat} {st : St} {a : Act} {w : World}
/-- a value put into a slot -/
theorem SR.put (h : SR L w0 β st a w) (d : Option Tmp) {x : AV} {v : Value} (hx : VR L β w x v) (hr : RR st.heap β 0 w x v) : SR L w0 β (st.put d x) (a.put d v) w := by
  cases d with
  | none => exact h
  | some d =>
    refine ⟨h.defers, by simpa [Act.put, St.put] using h.size, h.below, h.low, h.inj, h.new, h.heap, h.back, fun t => ?_, fun t => ?_⟩
    · show RR _ β _ w (getS (setS st.slots d x) t) _
      by_cases hd : d < st.slots.length
      · rw [getD_put a d t v (Nat.lt_of_lt_of_eq hd h.size.symm)]
        by_cases hdt : d = t
        · subst hdt; rw [getS_set_same _ _ _ hd, if_pos rfl]; exact hr
        · rw [getS_set_ne _ _ _ _ hdt, if_neg hdt]; exact h.rows t
      · have e1 : setS st.slots d x = st.slots := SR.put.setS_over _ _ _ (Nat.le_of_not_lt hd)
        have e2 : (a.put (some d) v).tmps = a.tmps := by
          simp only [Act.put]; rw [Array.setIfInBounds_eq_of_size_le (Nat.le_trans (Nat.le_of_eq h.size) (Nat.le_of_not_lt hd))]
        rw [e1, e2]; exact h.rows t
    show VR L β w (getS (setS st.slots d x) t) _
    by_cases hd : d < st.slots.length
    · rw [getD_put a d t v (Nat.lt_of_lt_of_eq hd h.size.symm)]
      by_cases hdt : d = t
      · subst hdt; rw [getS_set_same _ _ _ hd, if_pos rfl]; exact hx
      · rw [getS_set_ne _ _ _ _ hdt, if_neg hdt]; exact h.slots t
    · have e1 : setS st.slots d x = st.slots := setS_over _ _ _ (Nat.le_of_not_lt hd)
      have e2 : (a.put (some d) v).tmps = a.tmps := by
        simp only [Act.put]; rw [Array.setIfInBounds_eq_of_size_le (Nat.le_trans (Nat.le_of_eq h.size) (Nat.le_of_not_lt hd))]
      rw [e1, e2]; exact h.slots t
where
  setS_over : ∀ (l : List AV) (n : Nat) (x : AV), l.length ≤ n → setS l n x = l
    | [], _, _, _ => rfl
    | _ :: r, 0, _, h => by simp at h
    | _ :: r, n + 1, x, h => by simp only [setS]; rw [setS_over r n x (by simpa using h)]
/-- the world turns, and no block of the call's own does -/
theorem SR.turn (h : SR L w0 β st a w) {w' : World} (hb : Below w.heap.size w w') : SR L w0 β st a w' := by
  have hk : ∀ p, Keeps p w w' := fun p g hg _ => hb.block g hg
  exact ⟨h.defers, h.size, h.below.trans (BelowX.of (hb.mono h.below.size)), h.low, h.inj, h.new,
    fun b g hg => let ⟨ob, h1, h2⟩ := h.heap b g hg; ⟨ob, h1, OR.mono (hk _) (fun _ _ x => x) (hb.block g (h.lt hg)) h2⟩, h.back,
    fun t => RR.mono (fun b _ => ⟨fun k e xs hx => .inl ⟨hx, rfl, fun g hg => hb.block g (h.lt hg)⟩, fun hx => hx, fun ob hx hr => ⟨ob, hx, hr⟩⟩) (h.rows t),
    fun t => VR.mono (fun _ _ x => x) (hk _) (fun _ _ x => x) (h.slots t)⟩
/-- what a new block holds -/
def Init (pr : Nat → Prop) (w : World) (cs : Array Value) : OB → Prop
  | .arr k n x => cs = (x.1.map (Value.int k)).toArray
  | .agg ps => L2 (LR pr w) ps cs.toList
  | .row _ _ _ => False
  | .dead => False
  | .it _ _ => False
  | .sta ps => LL pr w ps cs.toList
theorem Init.rd {pr : Nat → Prop} {w : World} {cs : Array Value} {ob : OB} (h : Init pr w cs ob) : isRD ob = false := by
  cases ob <;> first | rfl | exact h.elim
/-- a new block -/
theorem SR.allocG (h : SR L w0 β st a w) {d : Tmp} {ob : OB} {obj : Obj} (hd : getH st.heap d = Option.none) (hl : d < st.heap.length)
    (hrd : isRD ob = false) (hob : ∀ (pr' : Nat → Prop), (∀ g, g < w.heap.size → pr' g → protB L β g) → OR pr' (w.alloc obj) w.heap.size ob) :
    ∃ β', SR L w0 β' ⟨setS st.slots d (.ptr d 0), setH st.heap d (some ob)⟩ (a.put (some d) (.pointer (some ⟨w.heap.size, 0, Option.none⟩))) (w.alloc obj) := by
  have hbw : Below w.heap.size w (w.alloc obj) := (Below.refl _ w).alloc (Nat.le_refl _) _
  have hβd : β d = Option.none := by
    cases hq : β d with
    | none => rfl
    | some g => obtain ⟨ob', h1, _⟩ := h.heap d g hq; rw [hd] at h1; cases h1
  obtain ⟨β', hβ1, hβ2⟩ : ∃ β' : Nat → Option Nat, β' d = some w.heap.size ∧ ∀ b, b ≠ d → β' b = β b :=
    ⟨fun b => if b = d then some w.heap.size else β b, if_pos rfl, fun b hb => if_neg hb⟩
  have hβ : ∀ b g, β b = some g → β' b = some g := fun b g hg => by
    rw [hβ2 b (by rintro rfl; rw [hβd] at hg; cases hg)]; exact hg
  have hs : ∀ g, g < w.heap.size → protB L β' g → protB L β g := by
    rintro g hg (hL | ⟨b, hb⟩)
    · exact .inl hL
    · by_cases hbd : b = d
      · rw [hbd, hβ1] at hb; injection hb with hb; omega
      · exact .inr ⟨b, hβ2 b hbd ▸ hb⟩
  have hk : ∀ p, Keeps p w (w.alloc obj) := fun p g hg _ => hbw.block g hg
  refine ⟨β', ?_⟩
  have h1 : SR L w0 β' ⟨st.slots, setH st.heap d (some ob)⟩ a (w.alloc obj) := by
    refine ⟨h.defers, h.size, h.below.trans (BelowX.of (hbw.mono h.below.size)), h.low, ?_, ?_, ?_, ?_, fun t => ?_, fun t => VR.mono hβ (hk _) hs (h.slots t)⟩
    · intro b b' g hb hb'
      by_cases e1 : b = d <;> by_cases e2 : b' = d
      · rw [e1, e2]
      · exfalso
        rw [e1, hβ1] at hb; rw [hβ2 _ e2] at hb'; injection hb with hb; subst hb
        have := h.lt hb'; omega
      · exfalso
        rw [e2, hβ1] at hb'; rw [hβ2 _ e1] at hb; injection hb' with hb'; subst hb'
        have := h.lt hb; omega
      · exact h.inj b b' g (hβ2 _ e1 ▸ hb) (hβ2 _ e2 ▸ hb')
    · intro b g hb
      by_cases e1 : b = d
      · rw [e1, hβ1] at hb; injection hb with hb; rw [← hb]; exact .inl h.below.size
      · exact h.new b g (hβ2 _ e1 ▸ hb)
    · intro b g hb
      by_cases e1 : b = d
      · rw [e1, hβ1] at hb; injection hb with hb; subst hb
        refine ⟨ob, by show getH (setH _ _ _) _ = _; rw [e1, getH_set_same _ _ _ hl], ?_⟩
        exact hob _ hs
      · obtain ⟨ob', h1, h2⟩ := h.heap b g (hβ2 _ e1 ▸ hb)
        exact ⟨ob', by show getH (setH _ _ _) _ = _; rw [getH_set_ne _ _ _ _ (Ne.symm e1)]; exact h1, OR.mono (hk _) hs (hbw.block g (h.lt (hβ2 _ e1 ▸ hb))) h2⟩
    · intro b ob' hb
      by_cases e1 : b = d
      · exact .inl ⟨_, e1 ▸ hβ1⟩
      · have hb2 : getH (setH st.heap d (some ob)) b = some ob' := hb
        rw [getH_set_ne _ _ _ _ (Ne.symm e1)] at hb2
        rcases h.back b ob' hb2 with ⟨g, hg⟩ | hr
        · exact .inl ⟨g, hβ b g hg⟩
        · exact .inr hr
    · refine RR.mono (fun b _ => ?_) (h.rows t)
      by_cases e1 : b = d
      · rw [e1, hd]
        exact ⟨fun k e xs hx => (by cases hx), fun hx => (by cases hx), fun ob hx => (by cases hx)⟩
      · show (∀ k e xs, _ → (getH (setH _ _ _) b = _ ∧ _) ∨ getH (setH _ _ _) b = _) ∧ (_ → getH (setH _ _ _) b = _) ∧ ∀ ob', _ → _ → ∃ ob'', getH (setH _ _ _) b = _ ∧ _
        rw [getH_set_ne _ _ _ _ (Ne.symm e1)]
        exact ⟨fun k e xs hx => .inl ⟨hx, hβ2 b e1, fun g hg => hbw.block g (h.lt hg)⟩, fun hx => hx, fun ob' hx hr => ⟨ob', hx, hr⟩⟩
  exact h1.put (some d) (x := .ptr d 0) ⟨w.heap.size, hβ1, rfl⟩ ⟨ob, getH_set_same _ _ _ hl, hrd⟩
theorem SR.alloc (h : SR L w0 β st a w) {d : Tmp} {ob : OB} {cs : Array Value} {t : TypeId} (hd : getH st.heap d = Option.none) (hl : d < st.heap.length)
    (hob : Init (protB L β) w cs ob) :
    ∃ β', SR L w0 β' ⟨setS st.slots d (.ptr d 0), setH st.heap d (some ob)⟩ (a.put (some d) (.pointer (some ⟨w.heap.size, 0, Option.none⟩))) (w.alloc (.cells cs t (0, 0))) := by
  refine h.allocG hd hl hob.rd fun pr' hs => ?_
  have hk : ∀ p, Keeps p w (w.alloc (.cells cs t (0, 0))) := fun p g hg _ => ((Below.refl _ w).alloc (Nat.le_refl _) _).block g hg
  cases ob with
  | arr k n x => exact ⟨t, by rw [show cs = _ from hob]; exact heap_alloc_new w _⟩
  | agg ps => exact ⟨cs.toList, t, heap_alloc_new w _, L2.imp (fun _ _ => LR.mono (hk _) hs) hob⟩
  | row k e xs => exact hob.elim
  | dead => exact hob.elim
  | it s p => exact hob.elim
  | sta ps => exact ⟨cs.toList, t, heap_alloc_new w _, LL.mono (hk _) hs hob⟩
/-- an iterator over a string -/
theorem SR.iter (h : SR L w0 β st a w) {d : Tmp} (s : ByteArray) (hd : getH st.heap d = Option.none) (hl : d < st.heap.length) :
    ∃ β', SR L w0 β' ⟨setS st.slots d (.ptr d 0), setH st.heap d (some (.it s 0))⟩ (a.put (some d) (.pointer (some ⟨w.heap.size, 0, Option.none⟩))) (w.alloc (.stringIter s 0)) :=
  h.allocG hd hl rfl fun pr' hs => heap_alloc_new w _
/-- a block of the call's own is written -/
theorem SR.write (h : SR L w0 β st a w) {b g : Nat} (hb : β b = some g) {ob' : OB} {w' : World} (hg : ∀ g', g' ≠ g → w'.heap[g']? = w.heap[g']?) (hsz : w'.heap.size = w.heap.size)
    (ho : w'.os = w.os) (ht : w'.tape = w.tape) (hout : w'.output = w.output)
    (hrd : ∀ ob, getH st.heap b = some ob → isRD ob = false) (hrd' : isRD ob' = false)
    (hob : (∀ (pr : Nat → Prop), Keeps (protB L β) w w' → (∀ x y, LR (protB L β) w x y → LR (protB L β) w' x y) → OR (protB L β) w' g ob')) :
    SR L w0 β ⟨st.slots, setH st.heap b (some ob')⟩ a w' := by
  have hk : Keeps (protB L β) w w' := fun g' _ hp => hg g' (by rintro rfl; exact hp (.inr ⟨b, hb⟩))
  have hbw : BelowX w0.X w0.w.heap.size w0.w w' := h.below.trans ⟨ho, ht, hout, by omega, fun k hk' hx => hg k (by rintro rfl; rcases h.new b k hb with h1 | h1; omega; exact hx h1)⟩
  obtain ⟨ob, hob1, _⟩ := h.heap b g hb
  refine ⟨h.defers, h.size, hbw, h.low, h.inj, h.new, ?_, ?_, fun t => ?_, fun t => VR.mono (fun _ _ x => x) hk (fun _ _ x => x) (h.slots t)⟩
  · intro b' g' hb'
    by_cases e : b' = b
    · subst e
      rw [hb] at hb'; injection hb' with hb'; subst hb'
      exact ⟨ob', by show getH (setH _ _ _) _ = _; rw [getH_set_same _ _ _ (getH_lt _ _ _ hob1)], hob (protB L β) hk fun _ _ => LR.mono hk (fun _ _ x => x)⟩
    · obtain ⟨o2, h1, h2⟩ := h.heap b' g' hb'
      exact ⟨o2, by show getH (setH _ _ _) _ = _; rw [getH_set_ne _ _ _ _ (Ne.symm e)]; exact h1,
        OR.mono hk (fun _ _ x => x) (hg g' (by rintro rfl; exact e (h.inj _ _ _ hb' hb))) h2⟩
  · intro b' o2 hb'
    by_cases e : b' = b
    · exact .inl ⟨g, e ▸ hb⟩
    · have hb2 : getH (setH st.heap b (some ob')) b' = some o2 := hb'
      rw [getH_set_ne _ _ _ _ (Ne.symm e)] at hb2
      exact h.back b' o2 hb2
  · refine RR.mono (fun b' _ => ?_) (h.rows t)
    by_cases e : b' = b
    · subst e
      refine ⟨fun k e xs hx => ?_, fun hx => ?_, fun ob2 hx hr => ⟨ob', getH_set_same _ _ _ (getH_lt _ _ _ hob1), hrd'⟩⟩
      · cases hrd _ hx
      · cases hrd _ hx
    · show (∀ k e xs, _ → (getH (setH _ _ _) b' = _ ∧ _) ∨ getH (setH _ _ _) b' = _) ∧ (_ → getH (setH _ _ _) b' = _) ∧ ∀ ob', _ → _ → ∃ ob'', getH (setH _ _ _) b' = _ ∧ _
      rw [getH_set_ne _ _ _ _ (Ne.symm e)]
      exact ⟨fun k e2 xs hx => .inl ⟨hx, rfl, fun g' hg' => hg g' (by rintro rfl; exact e (h.inj _ _ _ hg' hb))⟩, fun hx => hx, fun ob2 hx hr => ⟨ob2, hx, hr⟩⟩
theorem getH_killH : ∀ (ks : List Nat) (h : List (Option OB)) (b : Nat), (∀ k ∈ ks, k < h.length) → getH (killH h ks) b = if b ∈ ks then some .dead else getH h b
  | [], h, b, _ => by simp [killH]
  | k :: r, h, b, hk => by
    have hl : ∀ (l : List (Option OB)) (n : Nat) (x : Option OB), (setH l n x).length = l.length := by
      intro l
      induction l with
      | nil => intro n x; rfl
      | cons y r ih => intro n x; cases n with
        | zero => rfl
        | succ n => simp [setH, ih]
    rw [killH, getH_killH r _ b (fun j hj => by rw [hl]; exact hk j (by simp [hj]))]
    by_cases h1 : b ∈ r
    · rw [if_pos h1, if_pos (by simp [h1])]
    · rw [if_neg h1]
      by_cases h2 : k = b
      · subst h2; rw [getH_set_same _ _ _ (hk k (by simp)), if_pos (by simp)]
      · rw [getH_set_ne _ _ _ _ h2, if_neg (by simp [h1, Ne.symm h2])]
theorem getH_killH.lenK : ∀ (ks : List Nat) (h : List (Option OB)), (killH h ks).length = h.length
  | [], _ => rfl
  | k :: r, h => by
    have hl : ∀ (l : List (Option OB)) (n : Nat) (x : Option OB), (setH l n x).length = l.length := by
      intro l
      induction l with
      | nil => intro n x; rfl
      | cons y r ih => intro n x; cases n with
        | zero => rfl
        | succ n => simp [setH, ih]
    rw [killH, getH_killH.lenK r, hl]
/-- 'VR.mono', where rows may go -/
theorem VR.mono2 {L L' : Nat → Prop} {β β' : Nat → Option Nat} {w w' : World} {x : AV} {y : Value} (hβ : ∀ b g, (∃ off, x = .ptr b off) ∨ (∃ n i, x = .pidx b n i) ∨ (∃ lo hi, x = .bor b lo hi) → β b = some g → β' b = some g)
    (hk : Keeps (protB L β) w w') (hs : ∀ g, g < w.heap.size → protB L' β' g → protB L β g) (h : VR L β w x y) : VR L' β' w' x y := by
  cases x with
  | none => trivial
  | ptr b off => obtain ⟨g, hg, rfl⟩ := h; exact ⟨g, hβ _ _ (.inl ⟨_, rfl⟩) hg, rfl⟩
  | pidx b n i => obtain ⟨g, hg, rfl, hn⟩ := h; exact ⟨g, hβ _ _ (.inr (.inl ⟨_, _, rfl⟩)) hg, rfl, hn⟩
  | bor b lo hi => obtain ⟨g, c, hg, rfl, hc⟩ := h; exact ⟨g, c, hβ _ _ (.inr (.inr ⟨_, _, rfl⟩)) hg, rfl, hc⟩
  | lidx k xs i =>
    obtain ⟨a, rfl, hc, hp⟩ := h
    exact ⟨a, rfl, cell_keep hk hc hp, fun h => hp (hs _ (World.block_lt_of_cell? w _ hc) h)⟩
  | tup ps => exact TR.mono (x := .tup ps) hk hs h
  | arr k n x => exact h
  | agg ps => exact CR.mono (x := .agg ps) hk hs h
  | sta ps => exact CR.mono (x := .sta ps) hk hs h
  | v x => exact h
  | er t e => exact h
  | li k xs => exact LiR.mono hk hs h
  | own b => trivial
  | ridx b i => trivial
/-- no pointer leads into a row -/
theorem RR.notRow {h : List (Option OB)} {β : Nat → Option Nat} {base : Nat} {w : World} {x : AV} {y : Value} {b : Nat} (hr : RR h β base w x y)
    (hx : (∃ off, x = .ptr b off) ∨ (∃ n i, x = .pidx b n i) ∨ (∃ lo hi, x = .bor b lo hi)) : ∃ ob, getH h b = some ob ∧ isRD ob = false := by
  rcases hx with ⟨off, rfl⟩ | ⟨n, i, rfl⟩ | ⟨lo, hi, rfl⟩ <;> exact hr
/-- rows are let go -/
theorem SR.kill (h : SR L w0 β st a w) {ks : List Nat} (hks : ∀ b ∈ ks, ∃ k e xs, getH st.heap b = some (.row k e xs)) :
    SR L w0 (fun b => if b ∈ ks then Option.none else β b) ⟨st.slots, killH st.heap ks⟩ a w := by
  have hlt : ∀ b ∈ ks, b < st.heap.length := fun b hb => let ⟨_, _, _, h1⟩ := hks b hb; getH_lt _ _ _ h1
  have hg := getH_killH ks st.heap
  have hs : ∀ g, g < w.heap.size → protB L (fun b => if b ∈ ks then Option.none else β b) g → protB L β g := by
    rintro g _ (hL | ⟨b, hb⟩)
    · exact .inl hL
    · simp only at hb
      split at hb
      · cases hb
      · exact .inr ⟨b, hb⟩
  have hk : ∀ p, Keeps p w w := fun _ _ _ _ => rfl
  refine ⟨h.defers, h.size, h.below, h.low, ?_, ?_, ?_, ?_, fun t => ?_, fun t => ?_⟩
  · intro b b' g hb hb'
    split at hb <;> split at hb' <;> first | (cases hb; done) | (cases hb'; done) | exact h.inj b b' g hb hb'
  · intro b g hb
    split at hb
    · cases hb
    · exact h.new b g hb
  · intro b g hb
    split at hb
    · cases hb
    · rename_i hn
      obtain ⟨ob, h1, h2⟩ := h.heap b g hb
      exact ⟨ob, by show getH (killH _ _) b = _; rw [hg b hlt, if_neg hn]; exact h1, OR.mono (hk _) hs rfl h2⟩
  · intro b ob hb
    have hb2 : getH (killH st.heap ks) b = some ob := hb
    rw [hg b hlt] at hb2
    split at hb2
    · injection hb2 with hb2; subst hb2; exact .inr rfl
    · rename_i hn
      rcases h.back b ob hb2 with ⟨g, hg'⟩ | hr
      · exact .inl ⟨g, by simp only [if_neg hn]; exact hg'⟩
      · exact .inr hr
  · refine RR.mono (fun b _ => ?_) (h.rows t)
    show (∀ k e xs, _ → (getH (killH _ _) b = _ ∧ _) ∨ getH (killH _ _) b = _) ∧ (_ → getH (killH _ _) b = _) ∧ ∀ ob', _ → _ → ∃ ob'', getH (killH _ _) b = _ ∧ _
    rw [hg b hlt]
    by_cases hb : b ∈ ks
    · rw [if_pos hb]
      refine ⟨fun _ _ _ _ => .inr rfl, fun _ => rfl, fun ob h1 h2 => ?_⟩
      obtain ⟨k, e, xs, h3⟩ := hks b hb
      rw [h1] at h3; injection h3 with h3; subst h3; cases h2
    · rw [if_neg hb, if_neg hb]
      exact ⟨fun _ _ _ hx => .inl ⟨hx, rfl, fun _ _ => rfl⟩, fun hx => hx, fun ob h1 h2 => ⟨ob, h1, h2⟩⟩
  · refine VR.mono2 (fun b g hx hb => ?_) (hk _) hs (h.slots t)
    obtain ⟨ob, h1, h2⟩ := (h.rows t).notRow hx
    have hn : b ∉ ks := fun hb' => by
      obtain ⟨k, e, xs, h3⟩ := hks b hb'
      rw [h1] at h3; injection h3 with h3; subst h3; cases h2
    simp only [if_neg hn]; exact hb
/-- a row comes, out of rows that go -/
theorem SR.rowOut (h : SR L w0 β st a w) {d : Tmp} {ks : List Nat} {k : IntKind} {e : TypeId} {xs : List Int} {v : Value} {w' : World} (hd : getH st.heap d = Option.none) (hl : d < st.heap.length)
    (hks : ∀ b ∈ ks, ∃ k e xs, getH st.heap b = some (.row k e xs)) (hown : w'.ownsRow 0 e 1 v xs.length (xs.map (Value.int k)))
    (hos : w'.os = w.os) (htape : w'.tape = w.tape) (hout : w'.output = w.output) (hsz : w.heap.size ≤ w'.heap.size)
    (hw : ∀ g, g < w.heap.size → (∀ b ∈ ks, β b ≠ some g) → w'.heap[g]? = w.heap[g]?)
    (hfr : ∀ g, v.ownBlock = some g → (∃ b ∈ ks, β b = some g) ∨ w.heap.size ≤ g) :
    ∃ β', SR L w0 β' ⟨setS st.slots d (.own d), setH (killH st.heap ks) d (some (.row k e xs))⟩ (a.put (some d) v) w' := by
  have hlt : ∀ b ∈ ks, b < st.heap.length := fun b hb => let ⟨_, _, _, h1⟩ := hks b hb; getH_lt _ _ _ h1
  have hdk : d ∉ ks := fun hb => by obtain ⟨_, _, _, h1⟩ := hks d hb; rw [hd] at h1; cases h1
  have hβd : β d = Option.none := by
    cases hq : β d with
    | none => rfl
    | some g => obtain ⟨ob', h1, _⟩ := h.heap d g hq; rw [hd] at h1; cases h1
  obtain ⟨β', hβ1, hβ2, hβ3⟩ : ∃ β' : Nat → Option Nat, β' d = v.ownBlock ∧ (∀ b, b ∈ ks → β' b = Option.none) ∧ ∀ b, b ≠ d → b ∉ ks → β' b = β b :=
    ⟨fun b => if b = d then v.ownBlock else if b ∈ ks then Option.none else β b, if_pos rfl, fun b hb => by
      show (if b = d then v.ownBlock else if b ∈ ks then Option.none else β b) = Option.none
      rw [if_neg (fun (he : b = d) => hdk (he ▸ hb)), if_pos hb], fun b h1 h2 => by
      show (if b = d then v.ownBlock else if b ∈ ks then Option.none else β b) = β b
      rw [if_neg h1, if_neg h2]⟩
  have hheap : ∀ b, getH (setH (killH st.heap ks) d (some (.row k e xs))) b = if b = d then some (.row k e xs) else if b ∈ ks then some .dead else getH st.heap b := by
    intro b
    by_cases h1 : b = d
    · rw [if_pos h1, h1, getH_set_same]
      exact getH_killH.lenK ks st.heap ▸ hl
    · rw [if_neg h1, getH_set_ne _ _ _ _ (Ne.symm h1), getH_killH ks st.heap b hlt]
  have hgd : ∀ g, v.ownBlock = some g → (w0.w.heap.size ≤ g ∨ w0.X g) ∧ g < w'.heap.size := fun g hg => ⟨by
    rcases hfr g hg with ⟨b', _, h2⟩ | h2
    · exact h.new b' g h2
    · exact .inl (Nat.le_trans h.below.size h2), (hown.lt g hg).2⟩
  have hs : ∀ g, g < w.heap.size → protB L β' g → protB L β g := by
    rintro g hg (hL | ⟨b, hb⟩)
    · exact .inl hL
    · by_cases h1 : b = d
      · rw [h1, hβ1] at hb
        rcases hfr g hb with ⟨b', _, hb'⟩ | h2
        · exact .inr ⟨b', hb'⟩
        · omega
      · by_cases h2 : b ∈ ks
        · rw [hβ2 b h2] at hb; cases hb
        · exact .inr ⟨b, hβ3 b h1 h2 ▸ hb⟩
  have hk : Keeps (protB L β) w w' := fun g hg hp => hw g hg fun b _ hb => hp (.inr ⟨b, hb⟩)
  have hold : ∀ b g, b ∉ ks → β b = some g → w'.heap[g]? = w.heap[g]? := fun b g hb hg => hw g (h.lt hg) fun b' hb' hg' => hb (h.inj b b' g hg hg' ▸ hb')
  refine ⟨β', ?_⟩
  have h1 : SR L w0 β' ⟨st.slots, setH (killH st.heap ks) d (some (.row k e xs))⟩ a w' := by
    refine ⟨h.defers, h.size, h.below.trans ⟨hos, htape, hout, hsz, fun g hg hx => hw g (Nat.lt_of_lt_of_le hg h.below.size) fun b _ hb => by rcases h.new b g hb with h1 | h1; omega; exact hx h1⟩, h.low, ?_, ?_, ?_, ?_, fun t => ?_, fun t => ?_⟩
    · intro b b' g hb hb'
      have key : ∀ b, b ≠ d → β' b = some g → β' d = some g → False := by
        intro b h1 hb hb'
        have h2 : b ∉ ks := fun h2 => by rw [hβ2 b h2] at hb; cases hb
        rw [hβ3 b h1 h2] at hb
        rw [hβ1] at hb'
        rcases hfr g hb' with ⟨b2, h3, h4⟩ | h3
        · exact h2 (h.inj b b2 g hb h4 ▸ h3)
        · have := h.lt hb; omega
      by_cases e1 : b = d <;> by_cases e2 : b' = d
      · rw [e1, e2]
      · exact (key b' e2 hb' (e1 ▸ hb)).elim
      · exact (key b e1 hb (e2 ▸ hb')).elim
      · have n1 : b ∉ ks := fun h2 => by rw [hβ2 b h2] at hb; cases hb
        have n2 : b' ∉ ks := fun h2 => by rw [hβ2 b' h2] at hb'; cases hb'
        exact h.inj b b' g (hβ3 b e1 n1 ▸ hb) (hβ3 b' e2 n2 ▸ hb')
    · intro b g hb
      by_cases e1 : b = d
      · rw [e1, hβ1] at hb; exact (hgd g hb).1
      · have n1 : b ∉ ks := fun h2 => by rw [hβ2 b h2] at hb; cases hb
        exact h.new b g (hβ3 b e1 n1 ▸ hb)
    · intro b g hb
      show ∃ ob, getH (setH (killH _ _) _ _) b = some ob ∧ _
      rw [hheap b]
      by_cases e1 : b = d
      · rw [if_pos e1]
        rw [e1, hβ1] at hb
        exact ⟨_, rfl, _, Array.getElem?_eq_getElem (hgd g hb).2⟩
      · have n1 : b ∉ ks := fun h2 => by rw [hβ2 b h2] at hb; cases hb
        rw [if_neg e1, if_neg n1]
        rw [hβ3 b e1 n1] at hb
        obtain ⟨ob, h1, h2⟩ := h.heap b g hb
        exact ⟨ob, h1, OR.mono hk hs (hold b g n1 hb) h2⟩
    · intro b ob hb
      have hb2 : getH (setH (killH st.heap ks) d (some (.row k e xs))) b = some ob := hb
      rw [hheap b] at hb2
      split at hb2
      · injection hb2 with hb2; subst hb2; exact .inr rfl
      · rename_i e1
        split at hb2
        · injection hb2 with hb2; subst hb2; exact .inr rfl
        · rename_i n1
          rcases h.back b ob hb2 with ⟨g, hg⟩ | hr
          · exact .inl ⟨g, (hβ3 b e1 n1).trans hg⟩
          · exact .inr hr
    · refine RR.mono (fun b _ => ?_) (h.rows t)
      show (∀ k e xs, _ → (getH (setH (killH _ _) _ _) b = _ ∧ _) ∨ getH (setH (killH _ _) _ _) b = _) ∧ (_ → getH (setH (killH _ _) _ _) b = _) ∧ ∀ ob', _ → _ → ∃ ob'', getH (setH (killH _ _) _ _) b = _ ∧ _
      rw [hheap b]
      by_cases e1 : b = d
      · rw [e1, hd]
        exact ⟨fun k e xs hx => (by cases hx), fun hx => (by cases hx), fun ob hx => (by cases hx)⟩
      · rw [if_neg e1]
        by_cases hb : b ∈ ks
        · rw [if_pos hb]
          refine ⟨fun _ _ _ _ => .inr rfl, fun _ => rfl, fun ob h1 h2 => ?_⟩
          obtain ⟨k, e, xs, h3⟩ := hks b hb
          rw [h1] at h3; injection h3 with h3; subst h3; cases h2
        · rw [if_neg hb]
          exact ⟨fun _ _ _ hx => .inl ⟨hx, hβ3 b e1 hb, fun g hg => hold b g hb hg⟩, fun hx => hx, fun ob h1 h2 => ⟨ob, h1, h2⟩⟩
    · refine VR.mono2 (fun b g hx hb => ?_) hk hs (h.slots t)
      obtain ⟨ob, h1, h2⟩ := (h.rows t).notRow hx
      have hn : b ∉ ks := fun hb' => by
        obtain ⟨k, e, xs, h3⟩ := hks b hb'
        rw [h1] at h3; injection h3 with h3; subst h3; cases h2
      rw [hβ3 b (fun e1 => by rw [e1, hd] at h1; cases h1) hn]; exact hb
  refine h1.put (some d) (x := .own d) trivial ⟨.row k e xs, by rw [hheap d, if_pos rfl], rfl, fun k' e' xs' he => ?_⟩
  injection he with a1 a2 a3
  subst a1; subst a2; subst a3
  exact ⟨hown, hβ1.symm⟩
/-- a row of the call's own is written -/
theorem SR.rowWrite (h : SR L w0 β st a w) {b g : Nat} (hb : β b = some g) {k : IntKind} {e : TypeId} {xs xs' : List Int} (hob : getH st.heap b = some (.row k e xs)) (hlen : xs'.length = xs.length) {w' : World} {cur cur' : Array Value}
    (hg : ∀ g', g' < w.heap.size → g' ≠ g → w'.heap[g']? = w.heap[g']?) (hsz : w.heap.size ≤ w'.heap.size) (ho : w'.os = w.os) (ht : w'.tape = w.tape) (hout : w'.output = w.output)
    (hc : w.heap[g]? = some (.cells cur e (0, 0))) (hc' : w'.heap[g]? = some (.cells cur' e (0, 0))) (hcs : cur'.size = cur.size) (htake : cur'.toList.take xs'.length = xs'.map (Value.int k)) :
    SR L w0 β ⟨st.slots, setH st.heap b (some (.row k e xs'))⟩ a w' := by
  have hk : Keeps (protB L β) w w' := fun g' hl hp => hg g' hl (by rintro rfl; exact hp (.inr ⟨b, hb⟩))
  have hbw : BelowX w0.X w0.w.heap.size w0.w w' := h.below.trans ⟨ho, ht, hout, hsz, fun k hk' hx => hg k (Nat.lt_of_lt_of_le hk' h.below.size) (by rintro rfl; rcases h.new b k hb with h1 | h1; omega; exact hx h1)⟩
  have hrow : ∀ {y : Value}, w.ownsRow 0 e 1 y xs.length (xs.map (Value.int k)) → y.ownBlock = some g → w'.ownsRow 0 e 1 y xs'.length (xs'.map (Value.int k)) := by
    rintro y ⟨h1, ⟨rfl, _⟩ | ⟨g2, cap, cur2, rfl, h3, h4, h5, h6, h7, h8⟩⟩ hy
    · cases hy
    · simp [Value.ownBlock] at hy
      subst hy
      rw [hc] at h4; injection h4 with h4; injection h4 with h4
      subst h4
      exact ⟨by simp, .inr ⟨g2, cap, cur', by rw [hlen], h3, hc', by rw [hlen]; exact h5, h6, by rw [hcs]; exact h7, by rw [Nat.mul_one]; exact htake⟩⟩
  refine ⟨h.defers, h.size, hbw, h.low, h.inj, h.new, ?_, ?_, fun t => ?_, fun t => VR.mono (fun _ _ x => x) hk (fun _ _ x => x) (h.slots t)⟩
  · intro b' g' hb'
    by_cases e1 : b' = b
    · subst e1
      rw [hb] at hb'; injection hb' with hb'; subst hb'
      exact ⟨_, getH_set_same _ _ _ (getH_lt _ _ _ hob), _, hc'⟩
    · obtain ⟨o2, h1, h2⟩ := h.heap b' g' hb'
      exact ⟨o2, by show getH (setH _ _ _) _ = _; rw [getH_set_ne _ _ _ _ (Ne.symm e1)]; exact h1,
        OR.mono hk (fun _ _ x => x) (hg g' (h.lt hb') (by rintro rfl; exact e1 (h.inj _ _ _ hb' hb))) h2⟩
  · intro b' o2 hb'
    by_cases e1 : b' = b
    · exact .inl ⟨g, e1 ▸ hb⟩
    · have hb2 : getH (setH st.heap b (some (.row k e xs'))) b' = some o2 := hb'
      rw [getH_set_ne _ _ _ _ (Ne.symm e1)] at hb2
      exact h.back b' o2 hb2
  · have hr := h.rows t
    have other : ∀ b', b' ≠ b → getH (setH st.heap b (some (.row k e xs'))) b' = getH st.heap b' := fun b' e1 => getH_set_ne _ _ _ _ (Ne.symm e1)
    have same : getH (setH st.heap b (some (.row k e xs'))) b = some (.row k e xs') := getH_set_same _ _ _ (getH_lt _ _ _ hob)
    have gen : ∀ {x : AV} {y : Value}, refOf x ≠ some b → RR st.heap β 0 w x y → RR (setH st.heap b (some (.row k e xs'))) β 0 w' x y := by
      intro x y hx hr
      refine RR.mono (fun b' hb' => ?_) hr
      have e1 : b' ≠ b := fun e1 => hx (e1 ▸ hb')
      rw [other b' e1]
      exact ⟨fun k e2 xs hx => .inl ⟨hx, rfl, fun g' hg' => hg g' (h.lt hg') (by rintro rfl; exact e1 (h.inj _ _ _ hg' hb))⟩, fun hx => hx, fun ob2 hx hr => ⟨ob2, hx, hr⟩⟩
    show RR (setH st.heap b (some (.row k e xs'))) β 0 w' (getS st.slots t) _
    generalize getS st.slots t = x at *
    generalize a.tmps.getD t undef = y at *
    by_cases hx : refOf x = some b
    · cases x <;> simp only [refOf, Option.some.injEq, reduceCtorEq] at hx
      case own b' =>
        subst hx
        obtain ⟨ob, h1, _, h3⟩ := hr
        rw [hob] at h1; injection h1 with h1
        obtain ⟨h4, h5⟩ := h3 k e xs h1.symm
        refine ⟨_, same, rfl, fun k2 e2 xs2 he => ?_⟩
        injection he with a1 a2 a3
        subst a1; subst a2; subst a3
        exact ⟨hrow h4 (h5.trans hb), h5⟩
      case ridx b' i =>
        subst hx
        obtain ⟨ob, h1, _, h3⟩ := hr
        rw [hob] at h1; injection h1 with h1
        obtain ⟨h4, g2, h5, h6, c, h7⟩ := h3 k e xs h1.symm
        rw [hb] at h5; injection h5 with h5; subst h5
        refine ⟨_, same, rfl, fun k2 e2 xs2 he => ?_⟩
        injection he with a1 a2 a3
        subst a1; subst a2; subst a3
        refine ⟨by omega, g, hb, h6, c, ?_⟩
        have := hrow h7 rfl
        rwa [hlen] at this ⊢
      all_goals
        subst hx
        obtain ⟨ob, h1, h2⟩ := hr
        rw [hob] at h1; injection h1 with h1
        subst h1; cases h2
    · exact gen hx hr
end keep
end Go.Proofs.YtcdhcihjcjpmkaaGreatDoor.Eng
