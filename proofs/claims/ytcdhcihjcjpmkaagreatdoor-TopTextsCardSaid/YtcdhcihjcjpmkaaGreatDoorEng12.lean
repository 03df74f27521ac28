/- THE ENGINE, part 12: what a function takes and answers, in plain Lean types; a table of callees; the program's types; the library's own words. No statement is proved here. -/
import Derived.Test.YtcdhcihjcjpmkaaGreatDoorEng11
import Derived.Laws.Externs
namespace Go.Proofs.YtcdhcihjcjpmkaaGreatDoor.Eng
open Go Go.RowKit
set_option linter.unusedVariables false
set_option linter.unusedSimpArgs false

/-- one value: a plain Lean type and the evaluator's values -/
structure Cd (α : Type) where
  enc : α → AV
  dec : AV → Option α
  ok : ∀ x a, dec x = some a → ∀ (pr : Nat → Prop) (w : World) (v : Value), CR pr w x v → CR pr w (enc a) v
  cell : ∀ a, cellC (enc a) = true
def cInt (k : IntKind) : Cd Int where
  enc n := .v (.int k n)
  dec
    | .v (.int k' n) => cond (ikEq k k') (some n) Option.none
    | _ => Option.none
  ok x a h pr w v hv := by
    split at h
    · obtain ⟨hk, h2⟩ := cond_some h
      clear h
      injection h2 with h2
      rw [ikEq_iff] at hk
      subst hk; subst h2; exact hv
    · cases h
  cell _ := rfl
def cBool : Cd Bool where
  enc b := .v (.bool b)
  dec
    | .v (.bool b) => some b
    | _ => Option.none
  ok x a h pr w v hv := by
    split at h
    · injection h with h; subst h; exact hv
    · cases h
  cell _ := rfl
def cStr : Cd ByteArray where
  enc b := .v (.string b)
  dec
    | .v (.string b) => some b
    | _ => Option.none
  ok x a h pr w v hv := by
    split at h
    · injection h with h; subst h; exact hv
    · cases h
  cell _ := rfl
def cErr (t : TypeId) : Cd (Option Int) where
  enc e := .er t e
  dec
    | .er t' e => cond (Nat.beq t t') (some e) Option.none
    | .v .nilIface => some Option.none
    | _ => Option.none
  ok x a h pr w v hv := by
    split at h
    · obtain ⟨hk, h2⟩ := cond_some h
      clear h
      injection h2 with h2
      rw [nbeq] at hk
      subst hk; subst h2; exact hv
    · injection h with h; subst h; exact hv
    · cases h
  cell _ := rfl
def cFun (k : Nat) : Cd Unit where
  enc _ := .v (.func (.func k) #[] #[])
  dec
    | .v (.func (.func k') ⟨[]⟩ ⟨[]⟩) => cond (Nat.beq k k') (some ()) Option.none
    | _ => Option.none
  ok x a h pr w v hv := by
    split at h
    · obtain ⟨hk, h2⟩ := cond_some h
      rw [nbeq] at hk
      subst hk; exact hv
    · cases h
  cell _ := rfl
def vecCast {n m : Nat} (x : Vec n) : Option (Vec m) := if h : n = m then some ⟨x.1, x.2.trans h⟩ else Option.none
def cVec (k : IntKind) (n : Nat) : Cd (Vec n) where
  enc x := .arr k n x
  dec
    | .arr k' m x => cond (ikEq k k') (vecCast x) Option.none
    | _ => Option.none
  ok x a h pr w v hv := by
    split at h
    · obtain ⟨hk, h2⟩ := cond_some h
      clear h
      rw [ikEq_iff] at hk
      subst hk
      unfold vecCast at h2
      split at h2
      · injection h2 with h2; subst h2; exact hv
      · cases h2
    · cases h
  cell _ := rfl
def cLi (k : IntKind) : Cd (List Int) where
  enc x := .li k x
  dec
    | .li k' x => cond (ikEq k k') (some x) Option.none
    | .v (.slice Option.none 0 0) => some []
    | _ => Option.none
  ok x a h pr w v hv := by
    split at h
    · obtain ⟨hk, h2⟩ := cond_some h
      clear h
      injection h2 with h2
      rw [ikEq_iff] at hk
      subst hk; subst h2; exact hv
    · injection h with h; subst h
      exact ⟨Option.none, 0, hv, ⟨Nat.le_refl _, fun a ha => by cases ha⟩, fun i hi => by simp at hi⟩
    · cases h
  cell _ := rfl

/-- a part of a struct: one cell -/
structure Lf (α : Type) where
  enc : α → AV
  dec : AV → Option α
  ok : ∀ x a, dec x = some a → ∀ (pr : Nat → Prop) (w : World) (v : Value), LR pr w x v → LR pr w (enc a) v
def lInt (k : IntKind) : Lf Int where
  enc := (cInt k).enc
  dec := (cInt k).dec
  ok x a h pr w v hv := by
    unfold cInt at h ⊢
    simp only at h ⊢
    split at h
    · obtain ⟨hk, h2⟩ := cond_some h
      clear h
      injection h2 with h2
      rw [ikEq_iff] at hk
      subst hk; subst h2; exact hv
    · cases h
def lBool : Lf Bool where
  enc := cBool.enc
  dec := cBool.dec
  ok x a h pr w v hv := by
    unfold cBool at h ⊢
    simp only at h ⊢
    split at h
    · injection h with h; subst h; exact hv
    · cases h
def lStr : Lf ByteArray where
  enc := cStr.enc
  dec := cStr.dec
  ok x a h pr w v hv := by
    unfold cStr at h ⊢
    simp only at h ⊢
    split at h
    · injection h with h; subst h; exact hv
    · cases h
def lLi (k : IntKind) : Lf (List Int) where
  enc := (cLi k).enc
  dec := (cLi k).dec
  ok x a h pr w v hv := by
    unfold cLi at h ⊢
    simp only at h ⊢
    split at h
    · obtain ⟨hk, h2⟩ := cond_some h
      clear h
      injection h2 with h2
      rw [ikEq_iff] at hk
      subst hk; subst h2; exact hv
    · injection h with h; subst h
      exact ⟨Option.none, 0, hv, ⟨Nat.le_refl _, fun a ha => by cases ha⟩, fun i hi => by simp at hi⟩
    · cases h
/-- the parts of a struct -/
structure Fl (α : Type) where
  enc : α → List AV
  dec : List AV → Option α
  ok : ∀ l a, dec l = some a → ∀ (pr : Nat → Prop) (w : World) (vs : List Value), L2 (LR pr w) l vs → L2 (LR pr w) (enc a) vs
def fO {α : Type} (c : Lf α) : Fl α where
  enc a := [c.enc a]
  dec
    | [x] => c.dec x
    | _ => Option.none
  ok l a h pr w vs hv := by
    split at h
    · rcases vs with _ | ⟨v, _ | ⟨v2, vs⟩⟩
      · exact hv.elim
      · exact ⟨c.ok _ _ h _ _ _ hv.1, trivial⟩
      · exact hv.2.elim
    · cases h
def fC {α β : Type} (c : Lf α) (r : Fl β) : Fl (α × β) where
  enc p := c.enc p.1 :: r.enc p.2
  dec
    | x :: l => match c.dec x, r.dec l with
      | some a, some b => some (a, b)
      | _, _ => Option.none
    | [] => Option.none
  ok l a h pr w vs hv := by
    rcases l with _ | ⟨x, l⟩
    · cases h
    · simp only at h
      split at h
      · rename_i h1 h2
        injection h with h; subst h
        rcases vs with _ | ⟨v, vs⟩
        · exact hv.elim
        · exact ⟨c.ok _ _ h1 _ _ _ hv.1, r.ok _ _ h2 _ _ _ hv.2⟩
      · cases h
def cSt {α : Type} (f : Fl α) : Cd α where
  enc a := .agg (f.enc a)
  dec
    | .agg ps => f.dec ps
    | _ => Option.none
  ok x a h pr w v hv := by
    split at h
    · obtain ⟨cs, h1, h2⟩ := hv
      exact ⟨cs, h1, f.ok _ _ h _ _ _ h2⟩
    · cases h
  cell _ := rfl

/-- a part of a struct that may have arrays -/
structure Pt (α : Type) where
  enc : α → AV
  dec : AV → Option α
  ok : ∀ x a, dec x = some a → ∀ (pr : Nat → Prop) (w : World) (c : List Value), PC pr w x c → PC pr w (enc a) c
def pL {α : Type} (c : Lf α) (hc : ∀ a, partW (c.enc a) = 1 ∧ ∀ k n y, c.enc a ≠ .arr k n y) : Pt α where
  enc := c.enc
  dec
    | .arr _ _ _ => Option.none
    | x => c.dec x
  ok x a h pr w cs hv := by
    split at h
    · cases h
    · rename_i hx
      have h1 : ∃ c, cs = [c] ∧ LR pr w x c := by cases x <;> first | exact hv | exact (hx _ _ _ rfl).elim
      obtain ⟨c', rfl, h2⟩ := h1
      have h3 := c.ok x a h pr w c' h2
      have h4 := (hc a).2
      revert h3 h4
      cases c.enc a <;> intro h3 h4 <;> first | exact ⟨c', rfl, h3⟩ | exact (h4 _ _ _ rfl).elim
def pInt (k : IntKind) : Pt Int := pL (lInt k) fun a => ⟨rfl, fun _ _ _ h => by cases h⟩
def pBool : Pt Bool := pL lBool fun a => ⟨rfl, fun _ _ _ h => by cases h⟩
def pVec (k : IntKind) (n : Nat) : Pt (Vec n) where
  enc := (cVec k n).enc
  dec := (cVec k n).dec
  ok x a h pr w v hv := by
    unfold cVec at h ⊢
    simp only at h ⊢
    split at h
    · obtain ⟨hk, h2⟩ := cond_some h
      clear h
      rw [ikEq_iff] at hk
      subst hk
      unfold vecCast at h2
      split at h2
      · injection h2 with h2; subst h2; exact hv
      · cases h2
    · cases h
structure Fs (α : Type) where
  enc : α → List AV
  dec : List AV → Option α
  ok : ∀ l a, dec l = some a → ∀ (pr : Nat → Prop) (w : World) (vs : List Value), LL pr w l vs → LL pr w (enc a) vs
def sO {α : Type} (c : Pt α) : Fs α where
  enc a := [c.enc a]
  dec
    | [x] => c.dec x
    | _ => Option.none
  ok l a h pr w vs hv := by
    split at h
    · obtain ⟨u, v, rfl, h2, h3⟩ := hv
      exact ⟨u, v, rfl, c.ok _ _ h _ _ _ h2, h3⟩
    · cases h
def sC {α β : Type} (c : Pt α) (r : Fs β) : Fs (α × β) where
  enc p := c.enc p.1 :: r.enc p.2
  dec
    | x :: l => match c.dec x, r.dec l with
      | some a, some b => some (a, b)
      | _, _ => Option.none
    | [] => Option.none
  ok l a h pr w vs hv := by
    rcases l with _ | ⟨x, l⟩
    · cases h
    · simp only at h
      split at h
      · rename_i h1 h2
        injection h with h; subst h
        obtain ⟨u, v, rfl, h3, h4⟩ := hv
        exact ⟨u, v, rfl, c.ok _ _ h1 _ _ _ h3, r.ok _ _ h2 _ _ _ h4⟩
      · cases h
def cSta {α : Type} (f : Fs α) : Cd α where
  enc a := .sta (f.enc a)
  dec
    | .sta ps => f.dec ps
    | _ => Option.none
  ok x a h pr w v hv := by
    split at h
    · obtain ⟨cs, h1, h2⟩ := hv
      exact ⟨cs, h1, f.ok _ _ h _ _ _ h2⟩
    · cases h
  cell _ := rfl

/-- what is told: one value, or several -/
structure Rd (α : Type) where
  enc : α → AV
  dec : AV → Option α
  ok : ∀ x a, dec x = some a → ∀ (pr : Nat → Prop) (w : World) (v : Value), TR pr w x v → TR pr w (enc a) v
theorem TR.cr {pr : Nat → Prop} {w : World} {x : AV} {v : Value} (hx : ∀ ps, x ≠ .tup ps) (h : TR pr w x v) : CR pr w x v := by
  cases x <;> first | exact h | exact absurd rfl (hx _)
def r1 {α : Type} (c : Cd α) : Rd α where
  enc := c.enc
  dec
    | .tup _ => Option.none
    | x => c.dec x
  ok x a h pr w v hv := by
    split at h
    · cases h
    · rename_i hx
      have h1 := c.ok x a h pr w v (TR.cr hx hv)
      have h2 := c.cell a
      revert h1 h2
      cases c.enc a <;> simp only [cellC, Bool.false_eq_true] <;> intro h1 h2 <;> first | exact h1 | (exact absurd h2 (by simp))
def r2 {α β : Type} (c : Cd α) (d : Cd β) : Rd (α × β) where
  enc p := .tup [c.enc p.1, d.enc p.2]
  dec
    | .tup [x, y] => match c.dec x with
      | some a => match d.dec y with
        | some b => some (a, b)
        | Option.none => Option.none
      | Option.none => Option.none
    | _ => Option.none
  ok x a h pr w v hv := by
    split at h
    · split at h
      · split at h
        · injection h with h; subst h
          obtain ⟨cs, rfl, h2⟩ := hv
          rcases cs with _ | ⟨v1, _ | ⟨v2, _ | ⟨v3, cs⟩⟩⟩
          · exact h2.elim
          · exact h2.2.elim
          · exact ⟨[v1, v2], rfl, c.ok _ _ (by assumption) pr w _ h2.1, d.ok _ _ (by assumption) pr w _ h2.2.1, trivial⟩
          · exact h2.2.2.elim
        · cases h
      · cases h
    · cases h
def r3 {α β γ : Type} (c : Cd α) (d : Cd β) (e : Cd γ) : Rd (α × β × γ) where
  enc p := .tup [c.enc p.1, d.enc p.2.1, e.enc p.2.2]
  dec
    | .tup [x, y, z] => match c.dec x with
      | some a => match d.dec y with
        | some b => match e.dec z with
          | some g => some (a, b, g)
          | Option.none => Option.none
        | Option.none => Option.none
      | Option.none => Option.none
    | _ => Option.none
  ok x a h pr w v hv := by
    split at h
    · split at h
      · split at h
        · split at h
          · injection h with h; subst h
            obtain ⟨cs, rfl, h2⟩ := hv
            rcases cs with _ | ⟨v1, _ | ⟨v2, _ | ⟨v3, _ | ⟨v4, cs⟩⟩⟩⟩
            · exact h2.elim
            · exact h2.2.elim
            · exact h2.2.2.elim
            · exact ⟨[v1, v2, v3], rfl, c.ok _ _ (by assumption) pr w _ h2.1, d.ok _ _ (by assumption) pr w _ h2.2.1, e.ok _ _ (by assumption) pr w _ h2.2.2.1, trivial⟩
            · exact h2.2.2.2.elim
          · cases h
        · cases h
      · cases h
    · cases h

def r4 {α β γ δ : Type} (c : Cd α) (d : Cd β) (e : Cd γ) (f : Cd δ) : Rd (α × β × γ × δ) where
  enc p := .tup [c.enc p.1, d.enc p.2.1, e.enc p.2.2.1, f.enc p.2.2.2]
  dec
    | .tup [x, y, z, u] => match c.dec x with
      | some a => match d.dec y with
        | some b => match e.dec z with
          | some g => match f.dec u with
            | some k => some (a, b, g, k)
            | Option.none => Option.none
          | Option.none => Option.none
        | Option.none => Option.none
      | Option.none => Option.none
    | _ => Option.none
  ok x a h pr w v hv := by
    split at h
    · split at h
      · split at h
        · split at h
          · split at h
            · injection h with h; subst h
              obtain ⟨cs, rfl, h2⟩ := hv
              rcases cs with _ | ⟨v1, _ | ⟨v2, _ | ⟨v3, _ | ⟨v4, _ | ⟨v5, cs⟩⟩⟩⟩⟩
              · exact h2.elim
              · exact h2.2.elim
              · exact h2.2.2.elim
              · exact h2.2.2.2.elim
              · exact ⟨[v1, v2, v3, v4], rfl, c.ok _ _ (by assumption) pr w _ h2.1, d.ok _ _ (by assumption) pr w _ h2.2.1, e.ok _ _ (by assumption) pr w _ h2.2.2.1, f.ok _ _ (by assumption) pr w _ h2.2.2.2.1, trivial⟩
              · exact h2.2.2.2.2.elim
            · cases h
          · cases h
        · cases h
      · cases h
    · cases h
/-- the arguments -/
structure Ad (α : Type) where
  enc : α → List AV
  dec : List AV → Option α
  ok : ∀ l a, dec l = some a → ∀ (pr : Nat → Prop) (w : World) (vs : List Value), L2 (CR pr w) l vs → L2 (CR pr w) (enc a) vs
def a0 : Ad Unit where
  enc _ := []
  dec
    | [] => some ()
    | _ => Option.none
  ok l a h pr w vs hv := by
    split at h
    · exact hv
    · cases h
def aC {α β : Type} (c : Cd α) (r : Ad β) : Ad (α × β) where
  enc p := c.enc p.1 :: r.enc p.2
  dec
    | x :: l => match c.dec x with
      | some a => match r.dec l with
        | some b => some (a, b)
        | Option.none => Option.none
      | Option.none => Option.none
    | [] => Option.none
  ok l a h pr w vs hv := by
    split at h
    · split at h
      · split at h
        · injection h with h; subst h
          cases vs with
          | nil => exact hv.elim
          | cons v vs => exact ⟨c.ok _ _ (by assumption) pr w _ hv.1, r.ok _ _ (by assumption) pr w _ hv.2⟩
        · cases h
      · cases h
    · cases h

/-- a callee is right: what its plain function answers, its call does -/
def FnOK (P : Program) {A B : Type} (k : FuncId) (ad : Ad A) (rd : Rd B) (f : A → Option B) : Prop := ∀ a p, f a = some p → Inv P k (ad.enc a) (rd.enc p)
def gOf {A B R : Type} (ad : Ad A) (rd : Rd B) (f : A → Option B) : List AV → (AV → Option R) → Option R := fun args K =>
  match ad.dec args with
  | some a => (f a).bind fun p => K (rd.enc p)
  | Option.none => Option.none
def gNil {R : Type} : FuncId → List AV → (AV → Option R) → Option R := fun _ _ _ => Option.none
def gCons {R : Type} (k : FuncId) (g : List AV → (AV → Option R) → Option R) (G : FuncId → List AV → (AV → Option R) → Option R) : FuncId → List AV → (AV → Option R) → Option R := fun f args K =>
  cond (Nat.beq f k) (g args K) (G f args K)
theorem gNil_ok {P : Program} {R : Type} : GOK P (gNil (R := R)) := fun _ _ _ _ h => by cases h
theorem gCons_ok {P : Program} {A B R : Type} {k : FuncId} {ad : Ad A} {rd : Rd B} {f : A → Option B} (hf : FnOK P k ad rd f) {G : FuncId → List AV → (AV → Option R) → Option R} (hG : GOK P G) : GOK P (gCons k (gOf ad rd f) G) := by
  intro i args K r h
  unfold gCons at h
  cases hb : Nat.beq i k with
  | false => rw [hb] at h; exact hG i args K r h
  | true =>
    rw [hb] at h
    have := nbeq.1 hb
    subst this
    have h' : gOf ad rd f args K = some r := h
    unfold gOf at h'
    cases hd : ad.dec args with
    | none => rw [hd] at h'; cases h'
    | some a =>
      rw [hd] at h'
      obtain ⟨p, h1, h2⟩ := Option.bind_eq_some_iff.1 h'
      refine ⟨_, h2, ?_⟩
      intro vals w L hL hGV hargs
      exact hf a p h1 vals w L hL hGV (ad.ok _ _ hd _ _ _ hargs)
/-- a function of the program -/
theorem fn_ok {P : Program} {T : Tb} {A B : Type} {G : FuncId → List AV → (AV → Option B) → Option B} {N : Nat} {live : List (Nat × List (Nat × HK))} (hT : TOK P T) (hm : P.follows .mixedOrders = true) (hG : GOK P G) {k : FuncId} {fn : Func} {code : Code}
    (hf : P.funcs[k]? = some fn) (hb : fn.body = some code) (hn : (fn.name == "runtime.NumGoroutine") = false) (hok : codeOK T code = true) {ad : Ad A} {rd : Rd B} {f : A → Option B}
    (hrun : ∀ a p, f a = some p → run T G N live code fn.results.toList fn.ntmps (ad.enc a) rd.dec = some p) : FnOK P k ad rd f := by
  intro a p h
  obtain ⟨av, h1, h2⟩ := fn_sound hT hm hG hf hb hn hok (hrun a p h)
  intro vals w L hL hGV hargs o act next Q hnext
  exact h2 vals w L hL hGV hargs o act next Q fun v w' hbw htr => hnext v w' hbw (rd.ok _ _ h1 _ _ _ htr)

/-- a callee that writes a row, out of its plain function -/
def wOf {A B : Type} (kd : IntKind) (ed : TypeId) (ad : Ad A) (rd : Rd B) (f : List Int → A → Option (List Int × B)) : ∀ R : Type, TypeId → List AV → (List Int → AV → Option R) → Option R := fun R e args K =>
  match args with
  | .li k xs :: rest => cond (ikEq k kd && Nat.beq e ed) (match ad.dec rest with
    | some a => (f xs a).bind fun p => K p.1 (rd.enc p.2)
    | Option.none => Option.none) Option.none
  | _ => Option.none
def FnwOK (P : Program) {A B : Type} (k : FuncId) (kd : IntKind) (ed : TypeId) (ad : Ad A) (rd : Rd B) (f : List Int → A → Option (List Int × B)) : Prop := ∀ xs a p, f xs a = some p → WInv P k kd ed xs (ad.enc a) p.1 (rd.enc p.2)
theorem wOf_ok {P : Program} {A B : Type} {k : FuncId} {kd : IntKind} {ed : TypeId} {ad : Ad A} {rd : Rd B} {f : List Int → A → Option (List Int × B)} (hf : FnwOK P k kd ed ad rd f) : WrOK P k (wOf kd ed ad rd f) := by
  intro R e kk xs rest K p h
  unfold wOf at h
  simp only at h
  obtain ⟨h1, h2⟩ := cond_some h
  simp only [Bool.and_eq_true, nbeq, ikEq_iff] at h1
  obtain ⟨rfl, rfl⟩ := h1
  cases hd : ad.dec rest with
  | none => rw [hd] at h2; cases h2
  | some a =>
    rw [hd] at h2
    obtain ⟨q, h3, h4⟩ := Option.bind_eq_some_iff.1 h2
    refine ⟨_, _, h4, ?_⟩
    obtain ⟨h5, h6⟩ := hf xs a q h3
    exact ⟨h5, fun w base y vals hown hargs => h6 w base y vals hown (ad.ok _ _ hd _ _ _ hargs)⟩
def kW {B : Type} (rd : Rd B) : List Int → AV → Option (List Int × B) := fun ys r => match rd.dec r with
  | some b => some (ys, b)
  | Option.none => Option.none
/-- a function of the program that writes a row -/
theorem fnw_ok {P : Program} {T : Tb} {A B : Type} {G : FuncId → List AV → (AV → Option (List Int × B)) → Option (List Int × B)} {N : Nat} {live : List (Nat × List (Nat × HK))} (hT : TOK P T) (hm : P.follows .mixedOrders = true) (hG : GOK P G) {k : FuncId} {fn : Func} {code : Code}
    (hf : P.funcs[k]? = some fn) (hb : fn.body = some code) (hn : (fn.name == "runtime.NumGoroutine") = false) (hok : codeOK T code = true) (hw0 : noW0 code = true) (hnt : Nat.blt 0 fn.ntmps = true) {kd : IntKind} {ed : TypeId} {ad : Ad A} {rd : Rd B} {f : List Int → A → Option (List Int × B)}
    (hrun : ∀ xs a p, f xs a = some p → runW T G N live code fn.results.toList fn.ntmps kd ed xs (ad.enc a) (kW rd) = some p) : FnwOK P k kd ed ad rd f := by
  intro xs a p h
  obtain ⟨ys, av, h1, h2, h3⟩ := fn_soundW hT hm hG hf hb hn hok hw0 hnt (hrun xs a p h)
  unfold kW at h1
  cases hd : rd.dec av with
  | none => rw [hd] at h1; cases h1
  | some b =>
    rw [hd] at h1
    injection h1 with h1
    subst h1
    refine ⟨h2, fun w base y vals hown hargs hGV hgv o act next Q hnext => ?_⟩
    exact h3 w base y vals hown hargs hGV hgv o act next Q fun v w' htr => hnext v w' (rd.ok _ _ hd _ _ _ htr)

/-- an answer that the kernel does not look into while the fuel is a variable -/
def guardN {B : Type} : Nat → Option B → Option B
  | 0, _ => none
  | _ + 1, x => x
theorem guard_some {B : Type} {N : Nat} {x : Option B} {p : B} (h : guardN N x = some p) : x = some p := by
  cases N with
  | zero => cases h
  | succ n => exact h
/-! the program's types -/
def tyOf : List (Nat × TD) → TypeId → TD
  | [], _ => .other
  | (i, d) :: r, t => cond (Nat.beq i t) d (tyOf r t)
theorem tyOf_td {P : Program} : ∀ {l : List (Nat × TD)}, (∀ p ∈ l, tdP P p.1 p.2) → ∀ t, tdP P t (tyOf l t)
  | [], _, t => trivial
  | (i, d) :: r, h, t => by
    show tdP P t (cond (Nat.beq i t) d (tyOf r t))
    cases hb : Nat.beq i t with
    | false => exact tyOf_td (fun p hp => h p (by simp [hp])) t
    | true =>
      have := nbeq.1 hb
      subst this
      exact h (i, d) (by simp)
/-- callees that write into their first argument -/
def wrNil : Nat → Option (∀ R : Type, TypeId → List AV → (List Int → AV → Option R) → Option R) := fun _ => Option.none
def wrCons (k : Nat) (F : (∀ R : Type, TypeId → List AV → (List Int → AV → Option R) → Option R)) (r : Nat → Option (∀ R : Type, TypeId → List AV → (List Int → AV → Option R) → Option R)) : Nat → Option (∀ R : Type, TypeId → List AV → (List Int → AV → Option R) → Option R) := fun f => cond (Nat.beq f k) (some F) (r f)
def WrsOK (P : Program) (wr : Nat → Option (∀ R : Type, TypeId → List AV → (List Int → AV → Option R) → Option R)) : Prop := ∀ f F, wr f = some F → WrOK P f F
theorem wrNil_ok {P : Program} : WrsOK P wrNil := fun _ _ h => by cases h
theorem wrCons_ok {P : Program} {k : Nat} {F : (∀ R : Type, TypeId → List AV → (List Int → AV → Option R) → Option R)} {r : Nat → Option (∀ R : Type, TypeId → List AV → (List Int → AV → Option R) → Option R)} (h1 : WrOK P k F) (h2 : WrsOK P r) : WrsOK P (wrCons k F r) := by
  intro f F' h
  unfold wrCons at h
  cases hb : Nat.beq f k with
  | false => rw [hb] at h; exact h2 f F' h
  | true =>
    rw [hb] at h
    injection h with h
    rw [nbeq.1 hb, ← h]; exact h1
theorem tyOf_ok {P : Program} {l : List (Nat × TD)} (h : ∀ p ∈ l, tdP P p.1 p.2) (rt : List (Nat × Nat)) (kl : List Nat) {wr : Nat → Option (∀ R : Type, TypeId → List AV → (List Int → AV → Option R) → Option R)} (hw : WrsOK P wr) : TOK P ⟨tyOf l, rt, kl, wr⟩ := ⟨tyOf_td h, hw⟩
def fieldsOK (P : Program) (fs : Array Field) : Bool := fs.toList.all fun f => match P.underlying f.type, P.info? f.type with
  | some d, some i => notAgg d && Nat.beq i.size 1
  | _, _ => false
def allOne : List Value → Bool
  | [] => true
  | z :: r => z.oneCell' && allOne r
theorem tdP_st {P : Program} {t : TypeId} {fs : Array Field} {zs : List Value} (h1 : P.underlying t = some (.struct fs)) (h2 : fs.toList.map (·.offset) = List.range zs.length) (h3 : fieldsOK P fs = true) (h4 : szP P t zs.length (.agg zs.toArray)) (h5 : allOne zs = true) (h6 : (!cmpZs zs || eqStB P t zs) = true) : tdP P t (.st zs) := by
  refine ⟨fs, h1, h2, fun f hf => ?_, h4, ?_, fun hc => by rw [hc] at h6; simpa using h6⟩
  · have := List.all_eq_true.1 h3 f hf
    cases h6 : P.underlying f.type <;> cases h7 : P.info? f.type <;> simp only [h6, h7, Bool.false_eq_true] at this
    simp only [Bool.and_eq_true, nbeq] at this
    exact ⟨by simp [this.1], by simp [this.2]⟩
  · clear h2 h4 h6
    induction zs with
    | nil => intro z hz; cases hz
    | cons x zs ih =>
      simp only [allOne, Bool.and_eq_true] at h5
      intro z hz
      rcases List.mem_cons.1 hz with rfl | hz
      · exact h5.1
      · exact ih h5.2 z hz

theorem tdP_sta {P : Program} {t : TypeId} {fs : Array Field} {ds : List FD} (h1 : P.underlying t = some (.struct fs)) (h2 : fdsB P fs.toList ds 0 = true) (h4 : szP P t (totW ds) (.agg (zsOf ds).toArray)) : tdP P t (.sta ds) := ⟨fs, h1, h2, h4⟩
theorem szP_mk {P : Program} {t : TypeId} {n : Nat} {z : Value} (h : (P.info? t).map (fun i => (i.size, i.zero)) = some (n, some z)) : szP P t n z := h
def fieldsOf (P : Program) (t : TypeId) : Array Field := match P.underlying t with
  | some (.struct fs) => fs
  | _ => #[]
def methodsOf (P : Program) (t : TypeId) : Array (String × TypeId) := match P.underlying t with
  | some (.interface ms) => ms
  | _ => #[]

/-! math/bits, which the model stands in for -/
def add64 (x y c : Int) : Option (Int × Int) := cond (leI 0 x && leI 0 y && leI 0 c && leI c 1) (some ((x + y + c) % 18446744073709551616, (x + y + c) / 18446744073709551616)) Option.none
def sub64 (x y b : Int) : Option (Int × Int) := cond (leI 0 x && leI 0 y && leI 0 b && leI b 1 && ltI x 18446744073709551616 && ltI y 18446744073709551616) (some ((x - y - b) % 18446744073709551616, cond (ltI x (y + b)) 1 0)) Option.none
/-- the model's own word for Sub64 -/
def sub64Entry : Array Value → Sem Value := (Extern.MathBitsCarry.rows.getD 1 ("", fun _ => stuck "")).2
theorem run_sub64 {P : Program} (x y b : Nat) (hb : b ≤ 1) (w : World) :
    (sub64Entry #[.int .u64 x, .int .u64 y, .int .u64 b]).run P w =
      .ok (.tuple #[.int .u64 (((x + 18446744073709551616 - y - b) % 18446744073709551616 : Nat) : Int), .int .u64 ((if x < y + b then 1 else 0 : Nat) : Int)]) w := by
  have : b = 0 ∨ b = 1 := by omega
  rcases this with rfl | rfl <;> rfl
def aI3 (k : IntKind) : Ad (Int × Int × Int × Unit) := aC (cInt k) (aC (cInt k) (aC (cInt k) a0))
theorem extern_ok {P : Program} {k : FuncId} {fn : Func} {e : Array Value → Sem Value} {A B : Type} {ad : Ad A} {rd : Rd B} {f : A → Option B} (hf : P.funcs[k]? = some fn) (hname : (fn.name == "runtime.NumGoroutine") = false)
    (hb : fn.body.isNone = true) (hn : Extern.findNext fn = Option.none) (he : Extern.find fn = some e)
    (h : ∀ a p, f a = some p → ∀ (L : Nat → Prop) (w : World) (vs : List Value), L2 (CR L w) (ad.enc a) vs → ∃ v, (e vs.toArray).run P w = .ok v w ∧ TR L w (rd.enc p) v) : FnOK P k ad rd f := by
  intro a p hap vals w L hL hGV hargs o act next Q hnext
  obtain ⟨v, h1, h2⟩ := h a p hap L w vals hargs
  rw [run_callFunc_extern hf hname hb hn he, h1, Result.andThen_ok, Oper.upon_value]
  exact hnext v w (Below.refl _ w) h2
theorem args3 {L : Nat → Prop} {w : World} {k : IntKind} {a : Int × Int × Int × Unit} {vs : List Value} (h : L2 (CR L w) ((aI3 k).enc a) vs) : vs = [.int k a.1, .int k a.2.1, .int k a.2.2.1] := by
  rcases vs with _ | ⟨v1, _ | ⟨v2, _ | ⟨v3, _ | ⟨v4, vs⟩⟩⟩⟩
  · exact h.elim
  · exact h.2.elim
  · exact h.2.2.elim
  · obtain ⟨h1, h2, h3, _⟩ := h
    rw [show v1 = _ from h1, show v2 = _ from h2, show v3 = _ from h3]
  · exact h.2.2.2.elim
theorem add64_ok {P : Program} {k : FuncId} {fn : Func} (hf : P.funcs[k]? = some fn) (hname : (fn.name == "runtime.NumGoroutine") = false) (hb : fn.body.isNone = true) (hn : Extern.findNext fn = Option.none)
    (he : Extern.find fn = some add64Entry) : FnOK P k (aI3 .u64) (r2 (cInt .u64) (cInt .u64)) (fun a => add64 a.1 a.2.1 a.2.2.1) := by
  refine extern_ok hf hname hb hn he fun a p hap L w vs hargs => ?_
  rw [args3 hargs]
  obtain ⟨hc, hp⟩ := cond_some hap
  simp only [Bool.and_eq_true, leI_iff] at hc
  injection hp with hp
  subst hp
  exact ⟨_, run_add64 _ _ _ hc.1.1.1 hc.1.1.2 hc.1.2 hc.2 w, [_, _], rfl, rfl, rfl, trivial⟩
theorem sub64_ok {P : Program} {k : FuncId} {fn : Func} (hf : P.funcs[k]? = some fn) (hname : (fn.name == "runtime.NumGoroutine") = false) (hb : fn.body.isNone = true) (hn : Extern.findNext fn = Option.none)
    (he : Extern.find fn = some sub64Entry) : FnOK P k (aI3 .u64) (r2 (cInt .u64) (cInt .u64)) (fun a => sub64 a.1 a.2.1 a.2.2.1) := by
  refine extern_ok hf hname hb hn he fun a p hap L w vs hargs => ?_
  rw [args3 hargs]
  obtain ⟨x, y, b, _⟩ := a
  obtain ⟨hc, hp⟩ := cond_some hap
  simp only [Bool.and_eq_true, leI_iff, ltI_iff] at hc
  injection hp with hp
  subst hp
  obtain ⟨⟨⟨⟨⟨h1, h2⟩, h3⟩, h4⟩, h5⟩, h6⟩ := hc
  obtain ⟨x, rfl⟩ := Int.eq_ofNat_of_zero_le h1
  obtain ⟨y, rfl⟩ := Int.eq_ofNat_of_zero_le h2
  obtain ⟨b, rfl⟩ := Int.eq_ofNat_of_zero_le h3
  refine ⟨_, run_sub64 x y b (by omega) w, [_, _], rfl, ?_, ?_, trivial⟩
  · show Value.int .u64 _ = Value.int .u64 _
    congr 1; simp only; omega
  · show Value.int .u64 _ = Value.int .u64 _
    congr 1
    by_cases hlt : x < y + b
    · rw [if_pos hlt, show ltI (x : Int) ((y : Int) + (b : Int)) = true from ltI_iff.2 (by omega)]; rfl
    · rw [if_neg hlt, show ltI (x : Int) ((y : Int) + (b : Int)) = false from ltI_not.2 (by omega)]; rfl
end Go.Proofs.YtcdhcihjcjpmkaaGreatDoor.Eng
