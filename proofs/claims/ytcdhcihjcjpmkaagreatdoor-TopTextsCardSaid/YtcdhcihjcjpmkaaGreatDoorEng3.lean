/- THE ENGINE, part 3: each operation of the evaluator is the machine's. No statement is proved here. -/
import Derived.Test.YtcdhcihjcjpmkaaGreatDoorEng2
import Derived.Laws.StructEq
namespace Go.Proofs.YtcdhcihjcjpmkaaGreatDoor.Eng
open Go Go.RowKit
set_option linter.unusedVariables false

theorem nbeq {a b : Nat} : Nat.beq a b = true ↔ a = b := ⟨Nat.eq_of_beq_eq_true, fun h => by subst h; simp⟩
theorem nblt {a b : Nat} : Nat.blt a b = true ↔ a < b := by simp [Nat.blt]; omega
def notAgg : TypeDesc → Bool
  | .struct _ | .array _ _ => false
  | _ => true
def szP (P : Program) (t : TypeId) (n : Nat) (z : Value) : Prop := (P.info? t).map (fun i => (i.size, i.zero)) = some (n, some z)
/-- a struct's type, where two of its values may be held against each other part by part -/
def eqFs (P : Program) : List Field → List Value → Nat → Bool
  | [], [], _ => true
  | f :: fs, .int _ _ :: zs, i => (f.name != "_" && Nat.beq f.offset i && (match P.underlying f.type with | some (.int _) => true | _ => false)) && eqFs P fs zs (i + 1)
  | f :: fs, .bool _ :: zs, i => (f.name != "_" && Nat.beq f.offset i && (match P.underlying f.type with | some .bool => true | _ => false)) && eqFs P fs zs (i + 1)
  | _, _, _ => false
def eqStB (P : Program) (t : TypeId) (zs : List Value) : Bool := !P.stoodInHeld t && !P.eqGuardType P.depth t && eqFs P (P.fieldsOf t).toList zs 0 && (match P.underlying t with | some (.struct _) => true | _ => false)
/-! structs that may have arrays -/
def FD.cells : FD → List Value
  | .one z => [z]
  | .arr k n => List.replicate n (.int k 0)
def zsOf : List FD → List Value
  | [] => []
  | f :: r => f.cells ++ zsOf r
def totW : List FD → Nat
  | [] => 0
  | f :: r => f.w + totW r
def fdB (P : Program) (f : Field) : FD → Bool
  | .one z => z.oneCell' && (match P.underlying f.type, P.info? f.type with | some d, some i => notAgg d && Nat.beq i.size 1 | _, _ => false)
  | .arr _ n => match P.underlying f.type, P.info? f.type with
    | some (.array _ _), some i => Nat.beq i.size n && !(Nat.beq n 0)
    | _, _ => false
def fdsB (P : Program) : List Field → List FD → Nat → Bool
  | [], [], _ => true
  | f :: fs, d :: ds, o => (Nat.beq f.offset o && fdB P f d) && fdsB P fs ds (o + d.w)
  | _, _, _ => false
/-- what the evaluator's word on a type says of the program's table -/
def tdP (P : Program) (t : TypeId) : TD → Prop
  | .int k => P.underlying t = some (.int k) ∧ szP P t 1 (.int k 0)
  | .bool => P.underlying t = some .bool ∧ szP P t 1 (.bool false)
  | .str => P.underlying t = some .string ∧ szP P t 1 (.string ⟨#[]⟩)
  | .arr k n => ∃ e, P.underlying t = some (.array n e) ∧ P.underlying e = some (.int k) ∧ szP P e 1 (.int k 0) ∧ szP P t n (.agg (List.replicate n (.int k 0)).toArray) ∧ P.eqGuardType P.depth t = false
  | .st zs => ∃ fs, P.underlying t = some (.struct fs) ∧ fs.toList.map (·.offset) = List.range zs.length ∧
      (∀ f ∈ fs.toList, (P.underlying f.type).map notAgg = some true ∧ (P.info? f.type).map (·.size) = some 1) ∧ szP P t zs.length (.agg zs.toArray) ∧ (∀ z ∈ zs, z.oneCell' = true) ∧ (cmpZs zs = true → eqStB P t zs = true)
  | .sta fs => ∃ flds, P.underlying t = some (.struct flds) ∧ fdsB P flds.toList fs 0 = true ∧ szP P t (totW fs) (.agg (zsOf fs).toArray)
  | .sl k e => P.underlying t = some (.slice e) ∧ P.underlying e = some (.int k) ∧ szP P e 1 (.int k 0) ∧ szP P t 1 (.slice Option.none 0 0) ∧ (P.info? e).map (fun i => Nat.ble i.bytes 8) = some true
  | .one z => ∃ d, P.underlying t = some d ∧ notAgg d = true ∧ szP P t 1 z ∧ z.oneCell' = true
  | .err => ∃ ms, P.underlying t = some (.interface ms) ∧ szP P t 1 .nilIface
  | .other => True

theorem sz_parts {P : Program} {t : TypeId} {n : Nat} {z : Value} (h : szP P t n z) : ∃ i, P.info? t = some i ∧ i.size = n ∧ i.zero = some z := by
  unfold szP at h
  cases hi : P.info? t with
  | none => simp [hi] at h
  | some i => rw [hi] at h; simp at h; exact ⟨i, rfl, h.1, h.2⟩
theorem run_zero {P : Program} {t : TypeId} {n : Nat} {z : Value} (h : szP P t n z) (w : World) : (zeroValue t).run P w = .ok z w := by
  obtain ⟨i, hi, _, hz⟩ := sz_parts h
  simp [zeroValue, typeInfo, hi, hz]
theorem run_size {P : Program} {t : TypeId} {n : Nat} {z : Value} (h : szP P t n z) (w : World) : (sizeOf t).run P w = .ok n w := by
  obtain ⟨i, hi, hs, _⟩ := sz_parts h
  simp [sizeOf, typeInfo, hi, hs]
theorem run_isAgg {P : Program} {t : TypeId} {d : TypeDesc} (h : P.underlying t = some d) (w : World) : (isAgg t).run P w = .ok (!notAgg d) w := by
  unfold isAgg
  rw [Sem.run_bind, run_underlying h w]
  cases d <;> rfl
theorem scal_facts {P : Program} {t : TypeId} {td : TD} {z : Value} (h : tdP P t td) (hs : scal td = some z) : ∃ d, P.underlying t = some d ∧ notAgg d = true ∧ szP P t 1 z ∧ z.oneCell' = true := by
  cases td <;> simp only [scal, Option.some.injEq, reduceCtorEq] at hs
  case int k => subst hs; exact ⟨_, h.1, rfl, h.2, rfl⟩
  case bool => subst hs; exact ⟨_, h.1, rfl, h.2, rfl⟩
  case str => subst hs; exact ⟨_, h.1, rfl, h.2, rfl⟩
  case sl k e => subst hs; obtain ⟨h1, _, _, h2, _⟩ := h; exact ⟨_, h1, rfl, h2, rfl⟩
  case one z' => subst hs; exact h
  case err => subst hs; obtain ⟨ms, h1, h2⟩ := h; exact ⟨_, h1, rfl, h2, rfl⟩

section ops
variable {P : Program} {L : Nat → Prop} {w0 : Base} {β : Nat → Option Nat} {st : St} {a : Act} {w : World}
theorem SR.ev (h : SR L w0 β st a w) (x : Operand) : VR L β w (st.ev x) (a.eval x) := by
  cases x with
  | tmp t => exact h.slots t
  | const c => exact rfl
  | global g => trivial
  | func f => exact rfl
theorem SR.evR (h : SR L w0 β st a w) (x : Operand) : RR st.heap β 0 w (st.ev x) (a.eval x) := by
  cases x with
  | tmp t => exact h.rows t
  | const c => trivial
  | global g => trivial
  | func f => trivial

theorem wp_val {o : Oper} {next : Act → World → Prop} {Q : Exit → Act → World → Prop} {v : Value} {w' : World} (h : (execOp a.eval o).run P w = .ok (.value v) w') (hn : next (a.put o.dst v) w') :
    o.wp P a w next Q := by
  unfold Oper.wp; rw [h]; exact hn
theorem wp_skip' {o : Oper} {next : Act → World → Prop} {Q : Exit → Act → World → Prop} {w' : World} (h : (execOp a.eval o).run P w = .ok .skip w') (hn : next (a.put o.dst undef) w') :
    o.wp P a w next Q := by
  unfold Oper.wp; rw [h]; exact hn

theorem VR.int {k : IntKind} {n : Int} {y : Value} (h : VR L β w (.v (.int k n)) y) : y = .int k n := h
theorem LR.cell {pr : Nat → Prop} {x : AV} {y : Value} (hx : leaf x = true) (h : LR pr w x y) : y.oneCell' = true ∧ y.cells = #[y] := by
  cases x with
  | v z => cases z <;> simp only [leaf, reduceCtorEq] at hx <;> (cases (show y = _ from h); exact ⟨rfl, rfl⟩)
  | er t e => cases (show y = _ from h); cases e <;> exact ⟨rfl, rfl⟩
  | li k xs => obtain ⟨A, c, rfl, _⟩ := h; exact ⟨rfl, rfl⟩
  | _ => simp [leaf] at hx
theorem VR.leaf {x : AV} {y : Value} (hx : leaf x = true) (h : VR L β w x y) : LR (protB L β) w x y := by
  cases x <;> first | exact h | simp [Eng.leaf] at hx
theorem LR.vr {x : AV} {y : Value} (h : LR (protB L β) w x y) : VR L β w x y := by
  cases x <;> first | exact h | exact h.elim
theorem L2.get {pr : Nat → Prop} : ∀ {ps : List AV} {cs : List Value}, L2 (LR pr w) ps cs → ∀ n, n < ps.length → ∃ c, cs[n]? = some c ∧ LR pr w (getS ps n) c
  | [], [], _, n, hn => by simp at hn
  | p :: ps, c :: cs, ⟨h1, h2⟩, 0, _ => ⟨c, rfl, h1⟩
  | p :: ps, c :: cs, ⟨h1, h2⟩, n + 1, hn => L2.get h2 n (by simpa using hn)
  | [], _ :: _, h, _, _ => h.elim
  | _ :: _, [], h, _, _ => h.elim
theorem L2.set {pr : Nat → Prop} {x : AV} {y : Value} (hx : LR pr w x y) : ∀ {ps : List AV} {cs : List Value}, L2 (LR pr w) ps cs → ∀ n, L2 (LR pr w) (setS ps n x) (cs.set n y)
  | [], [], _, n => trivial
  | p :: ps, c :: cs, ⟨h1, h2⟩, 0 => ⟨hx, h2⟩
  | p :: ps, c :: cs, ⟨h1, h2⟩, n + 1 => ⟨h1, L2.set hx h2 n⟩
  | [], _ :: _, h, _ => h.elim
  | _ :: _, [], h, _ => h.elim
theorem L2.zs {pr : Nat → Prop} : ∀ zs : List Value, L2 (LR pr w) (zs.map .v) zs
  | [] => trivial
  | z :: zs => ⟨rfl, L2.zs zs⟩
theorem add0 (g off j : Nat) : (⟨g, off, Option.none⟩ : Addr).add j = ⟨g, off + j, Option.none⟩ := by unfold Addr.add; split <;> simp_all

theorem fds_at {P : Program} : ∀ {l : List Field} {fs : List FD} {o f : Nat}, fdsB P l fs o = true → f < fs.length → ∃ fd d, l[f]? = some fd ∧ getFD fs f = some d ∧ fd.offset = o + offAt fs f ∧ fdB P fd d = true
  | [], [], _, _, _, h => by simp at h
  | fd :: l, d :: fs, o, 0, hb, _ => by
    simp only [fdsB, Bool.and_eq_true, nbeq] at hb
    exact ⟨fd, d, rfl, rfl, hb.1.1, hb.1.2⟩
  | fd :: l, d :: fs, o, f + 1, hb, h => by
    simp only [fdsB, Bool.and_eq_true, nbeq] at hb
    obtain ⟨fd', d', h1, h2, h3, h4⟩ := fds_at hb.2 (f := f) (by simpa using h)
    exact ⟨fd', d', h1, h2, by rw [h3, offAt]; omega, h4⟩
  | [], _ :: _, _, _, hb, _ => by simp [fdsB] at hb
  | _ :: _, [], _, _, hb, _ => by simp [fdsB] at hb
theorem PC.len {pr : Nat → Prop} {p : AV} {a : List Value} (h : PC pr w p a) : a.length = partW p := by
  cases p <;> first | (obtain ⟨c, rfl, _⟩ := h; rfl) | skip
  rename_i k n x
  rw [show a = x.1.map (Value.int k) from h, List.length_map, x.2]; rfl
theorem LL.at {pr : Nat → Prop} : ∀ {ps : List AV} {cs : List Value} {off : Nat} {p : AV}, LL pr w ps cs → atOff ps off = some p → ∃ pre a post, cs = pre ++ (a ++ post) ∧ pre.length = off ∧ PC pr w p a
  | [], _, _, _, _, h => by simp [atOff] at h
  | q :: ps, cs, 0, p, ⟨a, b, h1, h2, h3⟩, h => by
    simp only [atOff, Option.some.injEq] at h
    subst h
    exact ⟨[], a, b, h1, rfl, h2⟩
  | q :: ps, cs, off + 1, p, ⟨a, b, h1, h2, h3⟩, h => by
    simp only [atOff] at h
    cases hb : Nat.ble (partW q) (off + 1) <;> rw [hb] at h <;> simp only [cond_true, cond_false, reduceCtorEq] at h
    obtain ⟨pre, a', post, e1, e2, e3⟩ := LL.at h3 h
    have := h2.len
    have hle := Nat.le_of_ble_eq_true hb
    exact ⟨a ++ pre, a', post, by rw [h1, e1, List.append_assoc], by rw [List.length_append]; omega, e3⟩
theorem LL.setO {pr : Nat → Prop} {x : AV} {c : List Value} (hx : PC pr w x c) : ∀ {ps qs : List AV} {cs : List Value} {off : Nat} {p : AV}, LL pr w ps cs → atOff ps off = some p → setOff ps off x = some qs → partW x = partW p →
    ∃ pre a post, cs = pre ++ (a ++ post) ∧ pre.length = off ∧ a.length = c.length ∧ LL pr w qs (pre ++ (c ++ post))
  | [], _, _, _, _, _, h, _, _ => by simp [atOff] at h
  | q :: ps, qs, cs, 0, p, ⟨a, b, h1, h2, h3⟩, h, hs, hw => by
    simp only [atOff, Option.some.injEq] at h
    subst h
    simp only [setOff, Option.some.injEq] at hs
    subst hs
    exact ⟨[], a, b, h1, rfl, by rw [h2.len, hx.len, hw], c, b, rfl, hx, h3⟩
  | q :: ps, qs, cs, off + 1, p, ⟨a, b, h1, h2, h3⟩, h, hs, hw => by
    simp only [atOff] at h
    simp only [setOff] at hs
    cases hb : Nat.ble (partW q) (off + 1) <;> rw [hb] at h hs <;> simp only [cond_true, cond_false, reduceCtorEq] at h hs
    cases hq : setOff ps (off + 1 - partW q) x <;> rw [hq] at hs <;> simp only [reduceCtorEq, Option.some.injEq] at hs
    subst hs
    obtain ⟨pre, a', post, e1, e2, e3, e4⟩ := LL.setO hx h3 h hq hw
    have := h2.len
    have hle := Nat.le_of_ble_eq_true hb
    exact ⟨a ++ pre, a', post, by rw [h1, e1, List.append_assoc], by rw [List.length_append]; omega, e3, a, pre ++ (c ++ post), by rw [List.append_assoc], h2, e4⟩
theorem LL.tot {pr : Nat → Prop} : ∀ {fs : List FD} {ps : List AV} {cs : List Value}, partsOK fs ps = true → LL pr w ps cs → cs.length = totW fs
  | [], [], cs, _, h => by rw [show cs = [] from h]; rfl
  | f :: fs, p :: ps, cs, hp, ⟨a, b, h1, h2, h3⟩ => by
    simp only [partsOK, Bool.and_eq_true] at hp
    have e := LL.tot hp.2 h3
    have hw : partW p = f.w := by
      cases f with
      | one z => cases p <;> first | rfl | simp [partOK, leaf] at hp
      | arr k n =>
        cases p <;> simp only [partOK, Bool.false_eq_true, false_and] at hp
        simp only [Bool.and_eq_true, nbeq] at hp
        exact hp.1.2.symm
    rw [h1, List.length_append, h2.len, hw, e]; rfl
  | [], _ :: _, _, hp, _ => by simp [partsOK] at hp
  | _ :: _, [], _, hp, _ => by simp [partsOK] at hp
theorem PC.cells {pr : Nat → Prop} {f : FD} {p : AV} {a : List Value} (hp : partOK f p = true) (h : PC pr w p a) : ∀ u ∈ a, u.oneCell' = true := by
  cases f with
  | one z =>
    have hl : leaf p = true := by cases p <;> exact hp
    cases p <;> first | (obtain ⟨c, rfl, h2⟩ := h; intro u hu; rw [List.mem_singleton.1 hu]; exact (LR.cell hl h2).1) | simp [leaf] at hl
  | arr k n =>
    cases p <;> simp only [partOK, Bool.false_eq_true] at hp
    intro u hu
    rw [show a = _ from h] at hu
    obtain ⟨z, _, rfl⟩ := List.mem_map.1 hu
    rfl
theorem LL.cells {pr : Nat → Prop} : ∀ {fs : List FD} {ps : List AV} {cs : List Value}, partsOK fs ps = true → LL pr w ps cs → ∀ u ∈ cs, u.oneCell' = true
  | [], [], cs, _, h, u, hu => by rw [show cs = [] from h] at hu; cases hu
  | f :: fs, p :: ps, cs, hp, ⟨a, b, h1, h2, h3⟩, u, hu => by
    simp only [partsOK, Bool.and_eq_true] at hp
    rw [h1] at hu
    rcases List.mem_append.1 hu with hu | hu
    · exact PC.cells hp.1 h2 u hu
    · exact LL.cells hp.2 h3 u hu
  | [], _ :: _, _, hp, _, _, _ => by simp [partsOK] at hp
  | _ :: _, [], _, hp, _, _, _ => by simp [partsOK] at hp
theorem LL.zs {pr : Nat → Prop} : ∀ fs : List FD, LL pr w (fs.map FD.z) (zsOf fs)
  | [] => rfl
  | .one z :: fs => ⟨[z], zsOf fs, rfl, ⟨z, rfl, rfl⟩, LL.zs fs⟩
  | .arr k n :: fs => ⟨List.replicate n (.int k 0), zsOf fs, rfl, by show _ = _; simp [Vec.zero], LL.zs fs⟩
theorem LL.fld {pr : Nat → Prop} : ∀ {fs : List FD} {ps : List AV} {cs : List Value} {f : Nat}, partsOK fs ps = true → LL pr w ps cs → f < fs.length → ∃ d pre a post, getFD fs f = some d ∧ partOK d (getS ps f) = true ∧ cs = pre ++ (a ++ post) ∧ pre.length = offAt fs f ∧ PC pr w (getS ps f) a
  | [], _, _, _, _, _, h => by simp at h
  | d :: fs, p :: ps, cs, 0, hp, ⟨a, b, h1, h2, h3⟩, _ => by
    simp only [partsOK, Bool.and_eq_true] at hp
    exact ⟨d, [], a, b, rfl, hp.1, h1, rfl, h2⟩
  | d :: fs, p :: ps, cs, f + 1, hp, ⟨a, b, h1, h2, h3⟩, h => by
    have hp0 := hp
    simp only [partsOK, Bool.and_eq_true] at hp
    obtain ⟨d', pre, a', post, e1, e2, e3, e4, e5⟩ := LL.fld hp.2 h3 (f := f) (by simpa using h)
    have hw : a.length = d.w := by
      have t1 := LL.tot (fs := [d]) (ps := [p]) (cs := a) (by simp [partsOK, hp.1]) ⟨a, [], by simp, h2, rfl⟩
      rw [t1]; simp [totW]
    exact ⟨d', a ++ pre, a', post, e1, e2, by rw [h1, e3, List.append_assoc], by rw [List.length_append, hw, e4]; rfl, e5⟩
  | _ :: _, [], _, _, hp, _, _ => by simp [partsOK] at hp
theorem PC.vr {p : AV} {a : List Value} {v : Value} (hl : leaf p = true) (h : PC (protB L β) w p a) : ∃ c, a = [c] ∧ LR (protB L β) w p c := by
  cases p <;> first | exact h | simp [leaf] at hl
/-- a variable is read -/
theorem run_whole {td : TD} {t : TypeId} {ob : OB} {off g : Nat} {y : AV} (ht : tdP P t td) (ho : OR (protB L β) w g ob) (hy : whole td ob off = some y) :
    ∃ v, (loadVar t ⟨g, off, Option.none⟩).run P w = .ok v w ∧ VR L β w y v := by
  have scalar : ∀ z, scal td = some z → ∀ ps, ob = .agg ps → off < ps.length → y = getS ps off → ∃ v, (loadVar t ⟨g, off, Option.none⟩).run P w = .ok v w ∧ VR L β w y v := by
    intro z hz ps hob hoff hyy
    subst hob
    obtain ⟨d, hd, hn, hs, _⟩ := scal_facts ht hz
    obtain ⟨cs, t', hg, h2⟩ := ho
    obtain ⟨c, hc, hl⟩ := h2.get off hoff
    refine ⟨c, ?_, by rw [hyy]; exact hl.vr⟩
    have hcell : w.cell? ⟨g, off, Option.none⟩ = some c := by rw [cell_of_row w g off _ t' _ hg]; simpa using hc
    simp [loadVar, run_isAgg hd, hn, hcell]
  cases ob with
  | row k e xs => cases td <;> simp [whole] at hy
  | it s p => cases td <;> simp [whole] at hy
  | sta ps =>
    obtain ⟨cs, t', hg, h2⟩ := ho
    have one : ∀ z, scal td = some z → (match scal td, atOff ps off with
        | some _, some x => cond (leaf x) (some x) Option.none
        | _, _ => Option.none) = some y → ∃ v, (loadVar t ⟨g, off, Option.none⟩).run P w = .ok v w ∧ VR L β w y v := by
      intro z hz hy
      rw [hz] at hy
      cases hp : atOff ps off <;> rw [hp] at hy <;> simp only [reduceCtorEq] at hy
      rename_i p
      obtain ⟨hl, hy⟩ : leaf p = true ∧ some p = some y := by
        cases hl : leaf p <;> rw [hl] at hy
        · cases hy
        · exact ⟨rfl, hy⟩
      injection hy with hy
      subst hy
      obtain ⟨pre, a, post, e1, e2, e3⟩ := h2.at hp
      obtain ⟨c, rfl, hlr⟩ := e3.vr (v := undef) hl
      obtain ⟨d, hd, hn, hs, _⟩ := scal_facts ht hz
      refine ⟨c, ?_, hlr.vr⟩
      have hcell : w.cell? ⟨g, off, Option.none⟩ = some c := by
        rw [cell_of_row w g off _ t' _ hg, e1, ← e2]; simp
      simp [loadVar, run_isAgg hd, hn, hcell]
    cases td with
    | sta fs =>
      simp only [whole] at hy
      cases hb : (Nat.beq off 0 && partsOK fs ps) <;> rw [hb] at hy <;> simp only [cond_true, cond_false, reduceCtorEq, Option.some.injEq] at hy
      subst hy
      simp only [Bool.and_eq_true, nbeq] at hb
      obtain ⟨rfl, hpo⟩ := hb
      obtain ⟨flds, h1, _, h4⟩ := ht
      obtain ⟨i, hi, hs, _⟩ := sz_parts h4
      refine ⟨.agg cs.toArray, ?_, ⟨cs, rfl, h2⟩⟩
      exact run_loadVar_row w g t' t cs.toArray (0, 0) _ hg h1 rfl (by rw [hi]; simp [hs, h2.tot hpo])
    | arr k n =>
      simp only [whole] at hy
      cases hp : atOff ps off <;> rw [hp] at hy <;> try (simp only [reduceCtorEq] at hy; done)
      rename_i p
      cases p <;> try (simp only [reduceCtorEq] at hy; done)
      rename_i k' n' x
      replace hy : (cond (ikEq k k' && Nat.beq n n') (some (AV.arr k' n' x)) Option.none) = some y := hy
      cases hb : (ikEq k k' && Nat.beq n n') <;> rw [hb] at hy <;> simp only [cond_true, cond_false, reduceCtorEq, Option.some.injEq] at hy
      subst hy
      simp only [Bool.and_eq_true, nbeq, ikEq_iff] at hb
      obtain ⟨rfl, rfl⟩ := hb
      obtain ⟨pre, a, post, e1, e2, e3⟩ := h2.at hp
      obtain ⟨e, h1, _, _, h4, _⟩ := ht
      have ha : a = x.1.map (Value.int k) := e3
      have hl : a.length = n := by rw [ha, List.length_map, x.2]
      have := run_loadCells_list (P := P) w ⟨g, off, Option.none⟩ a (fun j v hv => by
        rw [add0, cell_of_row w g _ _ t' _ hg, e1, ← e2]
        have hj := (List.getElem?_eq_some_iff.1 hv).1
        simp [List.getElem?_append_right, List.getElem?_append_left, hj]
        exact (List.getElem?_eq_some_iff.1 hv).2)
      rw [hl] at this
      refine ⟨.agg a.toArray, ?_, by rw [ha]; rfl⟩
      simp [loadVar, run_isAgg h1, notAgg, run_size h4, this]
    | int k => exact one _ rfl hy
    | bool => exact one _ rfl hy
    | str => exact one _ rfl hy
    | sl k e => exact one _ rfl hy
    | one z => exact one _ rfl hy
    | err => exact one _ rfl hy
    | st zs => simp [whole, scal] at hy
    | other => simp [whole, scal] at hy
  | dead => exact ho.elim
  | arr k' n' x =>
    cases td <;> simp only [whole, reduceCtorEq] at hy
    case arr k n =>
      obtain ⟨e, h1, h2, h3, h4, _⟩ := ht
      obtain ⟨t', hg⟩ := ho
      cases hk : ikEq k k' <;> rw [hk] at hy <;> simp only [cond_true, cond_false, reduceCtorEq] at hy
      have hk' := ikEq_iff.1 hk; subst hk'
      have base : ∀ m o, o + m ≤ n' → n = m → (loadVar t ⟨g, o, Option.none⟩).run P w = .ok (.agg (((x.1.drop o).take m).map (Value.int k)).toArray) w := by
        intro m o hle hnm
        subst hnm
        have hl : (((x.1.drop o).take n).map (Value.int k)).length = n := by simp [x.2]; omega
        have := run_loadCells_list (P := P) w ⟨g, o, Option.none⟩ (((x.1.drop o).take n).map (Value.int k)) (fun j v hv => by
          rw [add0, cell_of_row w g _ _ t' _ hg]
          rw [List.getElem?_map, List.getElem?_take] at hv
          split at hv
          · rw [List.getElem?_drop] at hv; simpa using hv
          · simp at hv)
        rw [hl] at this
        simp [loadVar, run_isAgg h1, notAgg, run_size h4, this]
      by_cases hb : (Nat.beq n n' && Nat.beq off 0) = true
      · rw [hb] at hy
        simp only [cond_true, Option.some.injEq] at hy
        subst hy
        simp only [Bool.and_eq_true, nbeq] at hb
        obtain ⟨rfl, rfl⟩ := hb
        refine ⟨_, base n 0 (by omega) rfl, ?_⟩
        show _ = _
        rw [List.drop_zero, List.take_of_length_le (by rw [x.2]; omega)]
      · rw [Bool.eq_false_iff.2 (fun h => hb h)] at hy
        simp only [cond_false] at hy
        split at hy
        · rename_i hle
          simp only [Option.some.injEq] at hy
          subst hy
          exact ⟨_, base n off hle rfl, rfl⟩
        · cases hy
  | agg ps =>
    cases td <;> simp only [whole, scal, reduceCtorEq] at hy
    case st zs =>
      cases hb : (Nat.beq off 0 && Nat.beq zs.length ps.length) <;> rw [hb] at hy <;> simp only [cond_true, cond_false, reduceCtorEq, Option.some.injEq] at hy
      subst hy
      simp only [Bool.and_eq_true, nbeq] at hb
      obtain ⟨rfl, hlen⟩ := hb
      obtain ⟨fs, h1, _, _, h4, _⟩ := ht
      obtain ⟨cs, t', hg, h2⟩ := ho
      refine ⟨.agg cs.toArray, ?_, ⟨cs, rfl, h2⟩⟩
      obtain ⟨i, hi, hs, _⟩ := sz_parts h4
      exact run_loadVar_row w g t' t cs.toArray (0, 0) _ hg h1 rfl (by rw [hi]; simp [hs, hlen, h2.length])
    all_goals
      cases hb : Nat.blt off ps.length <;> rw [hb] at hy <;> simp only [cond_true, cond_false, reduceCtorEq, Option.some.injEq] at hy
      exact scalar _ rfl ps rfl (nblt.1 hb) hy.symm

/-- what a new variable holds -/
theorem init_block {td : TD} {t : TypeId} {ob : OB} {x : AV} {v : Value} (hy : blockOf td x = some ob) (hx : VR L β w x v) : Init (protB L β) w v.cells ob := by
  have scalar : ∀ z, scal td = some z → leaf x = true → ob = .agg [x] → Init (protB L β) w v.cells ob := by
    intro z hz hl hob
    subst hob
    have hlr := VR.leaf hl hx
    rw [(hlr.cell hl).2]
    exact ⟨hlr, trivial⟩
  have fin : ∀ z, scal td = some z → (cond (leaf x) (some (OB.agg [x])) Option.none) = some ob → Init (protB L β) w v.cells ob := by
    intro z hz h
    cases hl : leaf x <;> rw [hl] at h <;> simp only [cond_true, cond_false, reduceCtorEq, Option.some.injEq] at h
    exact scalar z hz hl h.symm
  cases td with
  | arr k n =>
    cases x <;> simp only [blockOf, scal, reduceCtorEq] at hy
    rename_i k' n' y
    cases hb : (ikEq k k' && Nat.beq n n') <;> rw [hb] at hy <;> simp only [cond_true, cond_false, reduceCtorEq, Option.some.injEq] at hy
    subst hy
    cases (show v = _ from hx); rfl
  | st zs =>
    cases x <;> simp only [blockOf, scal, reduceCtorEq] at hy
    cases hb : Nat.beq zs.length _ <;> rw [hb] at hy <;> simp only [cond_true, cond_false, reduceCtorEq, Option.some.injEq] at hy
    subst hy
    obtain ⟨cs, rfl, h2⟩ := hx
    exact h2
  | sta fs =>
    cases x <;> simp only [blockOf, scal, reduceCtorEq] at hy
    rename_i ps
    cases hb : partsOK fs ps <;> rw [hb] at hy <;> simp only [cond_true, cond_false, reduceCtorEq, Option.some.injEq] at hy
    subst hy
    obtain ⟨cs, rfl, h2⟩ := hx
    exact h2
  | int k => exact fin (.int k 0) rfl hy
  | bool => exact fin (.bool false) rfl hy
  | str => exact fin (.string ⟨#[]⟩) rfl hy
  | sl k e => exact fin (.slice Option.none 0 0) rfl hy
  | one z => exact fin z rfl hy
  | err => exact fin .nilIface rfl hy
  | other => simp [blockOf, scal] at hy
theorem init_zero {td : TD} {t : TypeId} {ob : OB} (ht : tdP P t td) (hy : zeroOf td = some ob) (pr : Nat → Prop) : ∃ n z, szP P t n z ∧ Init pr w z.cells ob := by
  have scalar : ∀ z, scal td = some z → ob = .agg [.v z] → ∃ n z, szP P t n z ∧ Init pr w z.cells ob := by
    intro z hz hob
    obtain ⟨d, _, _, hs, h1⟩ := scal_facts ht hz
    refine ⟨1, z, hs, ?_⟩
    subst hob
    have : z.cells = #[z] := by cases z <;> first | rfl | simp [Value.oneCell'] at h1
    rw [this]; exact ⟨rfl, trivial⟩
  cases td <;> simp only [zeroOf, scal, Option.some.injEq, reduceCtorEq] at hy
  case arr k n =>
    obtain ⟨e, _, _, _, h4, _⟩ := ht
    subst hy
    exact ⟨n, _, h4, by show _ = _; simp [Vec.zero, Value.cells]⟩
  case st zs =>
    obtain ⟨fs, _, _, _, h4, _⟩ := ht
    subst hy
    exact ⟨_, _, h4, L2.zs zs⟩
  case sta fs =>
    obtain ⟨flds, _, _, h4⟩ := ht
    subst hy
    exact ⟨_, _, h4, LL.zs fs⟩
  all_goals exact scalar _ rfl hy.symm

theorem setRow_other (w : World) (g g' : Nat) (cs : Array Value) (h : g' ≠ g) : (w.setRow g cs).heap[g']? = w.heap[g']? := by
  simp only [World.setRow, Array.getElem?_modify]; rw [if_neg (Ne.symm h)]
theorem setRow_size (w : World) (g : Nat) (cs : Array Value) : (w.setRow g cs).heap.size = w.heap.size := by simp [World.setRow]

/-- cells are written into a block of the call's own -/
theorem run_put {t : TypeId} {off g n : Nat} {z v : Value} {cur : Array Value} {t' : TypeId} (hs : szP P t n z) (hg : w.heap[g]? = some (.cells cur t' (0, 0))) (hn : v.cells.size = n) (hfit : off + n ≤ cur.size)
    (h1 : ∀ u ∈ v.cells.toList, u.oneCell' = true) :
    (storeVar t ⟨g, off, Option.none⟩ v).run P w = .ok () (w.setRow g (cur.toList.take off ++ v.cells.toList ++ cur.toList.drop (off + n)).toArray) := by
  have := run_storeCells_at P g off t' v.cells.toList 0 cur w hg (by simp; omega) h1
  simp only [Nat.add_zero, Array.length_toList, hn] at this
  simp [storeVar, run_size hs, hn, this]
theorem OR.put {g : Nat} {cur cs : Array Value} {t' : TypeId} {ob' : OB} (hg : w.heap[g]? = some (.cells cur t' (0, 0)))
    (hi : Init (protB L β) w cs ob') (h2 : ∀ x y, LR (protB L β) w x y → LR (protB L β) (w.setRow g cs) x y) (h3 : ∀ {ps : List AV} {cs' : List Value}, LL (protB L β) w ps cs' → LL (protB L β) (w.setRow g cs) ps cs') : OR (protB L β) (w.setRow g cs) g ob' := by
  have := setRow_heap w g cur cs t' (0, 0) hg
  cases ob' with
  | arr k n x => exact ⟨t', by rw [this, show cs = _ from hi]⟩
  | agg ps => exact ⟨cs.toList, t', this, L2.imp h2 hi⟩
  | row k e xs => exact hi.elim
  | dead => exact hi.elim
  | it s p => exact hi.elim
  | sta ps => exact ⟨cs.toList, t', this, h3 hi⟩
theorem SR.put_row (h : SR L w0 β st a w) {b g : Nat} (hb : β b = some g) {cur cs : Array Value} {t' : TypeId} {ob' : OB} (hg : w.heap[g]? = some (.cells cur t' (0, 0))) (hi : Init (protB L β) w cs ob')
    (hrd : ∀ ob, getH st.heap b = some ob → isRD ob = false) :
    SR L w0 β ⟨st.slots, setH st.heap b (some ob')⟩ a (w.setRow g cs) :=
  h.write hb (fun g' hg' => setRow_other w g g' cs hg') (setRow_size w g cs) rfl rfl rfl hrd hi.rd fun _ hk h2 => OR.put hg hi h2 (LL.mono hk (fun _ _ x => x))

theorem L2.put {pr : Nat → Prop} {x : AV} {y : Value} (hx : LR pr w x y) {ps : List AV} {cs : List Value} (h : L2 (LR pr w) ps cs) {n : Nat} (hn : n < ps.length) : L2 (LR pr w) (setS ps n x) (cs.take n ++ [y] ++ cs.drop (n + 1)) := by
  have := L2.set hx h n
  rwa [List.set_eq_take_append_cons_drop, if_pos (by rw [← h.length]; exact hn), show cs.take n ++ y :: cs.drop (n + 1) = cs.take n ++ [y] ++ cs.drop (n + 1) by simp] at this

/-- a part of such a struct is written -/
theorem LL.single {pr : Nat → Prop} {f : FD} {x : AV} {v : Value} (hp : partOK f x = true) (hx : PC pr w x v.cells.toList) : ∀ u ∈ v.cells.toList, u.oneCell' = true := PC.cells hp hx
theorem run_writS {td : TD} {t : TypeId} {ps : List AV} {ob' : OB} {off b g : Nat} {x : AV} {v : Value} (h : SR L w0 β st a w) (ht : tdP P t td) (hb : β b = some g) (hob : getH st.heap b = some (.sta ps))
    (hy : writS td ps off x = some ob') (hx : VR L β w x v) :
    ∃ w', (storeVar t ⟨g, off, Option.none⟩ v).run P w = .ok () w' ∧ SR L w0 β ⟨st.slots, setH st.heap b (some ob')⟩ a w' := by
  obtain ⟨ob2, hob2, ho⟩ := h.heap b g hb
  rw [hob] at hob2; injection hob2 with hob2; subst hob2
  obtain ⟨cs, t', hg, h2⟩ := ho
  have hrd : ∀ ob, getH st.heap b = some ob → isRD ob = false := fun ob2 hob2 => by rw [hob] at hob2; injection hob2 with hob2; subst hob2; rfl
  have fin : ∀ {n : Nat} {z : Value} {c : List Value} {p : AV} {qs : List AV}, szP P t n z → v.cells.toList = c → PC (protB L β) w x c → c.length = n → (∀ u ∈ c, u.oneCell' = true) → atOff ps off = some p → setOff ps off x = some qs →
      partW x = partW p → ob' = .sta qs → ∃ w', (storeVar t ⟨g, off, Option.none⟩ v).run P w = .ok () w' ∧ SR L w0 β ⟨st.slots, setH st.heap b (some ob')⟩ a w' := by
    intro n z c p qs hs hc hpc hcn h1 hp hq hw hob'
    obtain ⟨pre, a0, post, e1, e2, e3, e4⟩ := LL.setO hpc h2 hp hq hw
    have hvn : v.cells.size = n := by rw [← Array.length_toList, hc, hcn]
    have hr := run_put (P := P) (off := off) (v := v) hs hg hvn (by rw [e1]; simp; omega) (by rw [hc]; exact h1)
    refine ⟨_, hr, h.put_row hb hg ?_ hrd⟩
    subst hob'
    show LL _ _ _ _
    rw [hc, e1]
    have k1 : (pre ++ (a0 ++ post)).take off = pre := by rw [← e2]; simp
    have k2 : (pre ++ (a0 ++ post)).drop (off + n) = post := by
      rw [← List.append_assoc, show off + n = (pre ++ a0).length by rw [List.length_append]; omega]; simp
    have : (pre ++ (a0 ++ post)).toArray.toList = pre ++ (a0 ++ post) := rfl
    rw [this, k1, k2, List.append_assoc]
    exact e4
  have one : ∀ z, scal td = some z → writ1 td ps off x = some ob' → ∃ w', (storeVar t ⟨g, off, Option.none⟩ v).run P w = .ok () w' ∧ SR L w0 β ⟨st.slots, setH st.heap b (some ob')⟩ a w' := by
    intro z hz hy
    unfold writ1 at hy
    rw [hz] at hy
    cases hp : atOff ps off <;> rw [hp] at hy <;> try (simp only [reduceCtorEq] at hy; done)
    rename_i p
    cases hq : setOff ps off x <;> rw [hq] at hy <;> try (simp only [reduceCtorEq] at hy; done)
    rename_i qs
    replace hy : (cond (leaf p && leaf x) (some (OB.sta qs)) Option.none) = some ob' := hy
    cases hc : (leaf p && leaf x) <;> rw [hc] at hy <;> simp only [cond_true, cond_false, reduceCtorEq, Option.some.injEq] at hy
    simp only [Bool.and_eq_true] at hc
    have hlr := VR.leaf hc.2 hx
    obtain ⟨h1, hcells⟩ := hlr.cell hc.2
    obtain ⟨d, _, _, hs, _⟩ := scal_facts ht hz
    have hw1 : ∀ {y : AV}, leaf y = true → partW y = 1 := fun {y} hy => by cases y <;> first | rfl | simp [leaf] at hy
    refine fin (c := [v]) (p := p) (qs := qs) hs (by rw [hcells]) ?_ rfl (by simpa using h1) hp hq (by rw [hw1 hc.1, hw1 hc.2]) hy.symm
    cases x <;> first | exact ⟨v, rfl, hlr⟩ | simp [leaf] at hc
  cases td with
  | sta fs =>
    cases x <;> simp only [writS, reduceCtorEq] at hy
    rename_i qs
    cases hc : (Nat.beq off 0 && partsOK fs ps && partsOK fs qs) <;> rw [hc] at hy <;> simp only [cond_true, cond_false, reduceCtorEq, Option.some.injEq] at hy
    simp only [Bool.and_eq_true, nbeq] at hc
    obtain ⟨⟨rfl, hp⟩, hq⟩ := hc
    obtain ⟨flds, _, _, h4⟩ := ht
    obtain ⟨ds, rfl, h3⟩ := hx
    have e1 := h2.tot hp
    have e2 := h3.tot hq
    have hr := run_put (P := P) (off := 0) (v := .agg ds.toArray) h4 hg (by simp [Value.cells]; omega) (by simp; omega) (by simpa [Value.cells] using LL.cells hq h3)
    refine ⟨_, hr, h.put_row hb hg ?_ hrd⟩
    subst hy
    show LL _ _ _ _
    simp only [Value.cells, List.take_zero, List.nil_append, Nat.zero_add]
    have e3 : cs.drop (totW fs) = [] := List.drop_of_length_le (by omega)
    rw [e3, List.append_nil]
    exact h3
  | arr k n =>
    cases x <;> try (simp only [writS, reduceCtorEq] at hy; done)
    rename_i k2 n2 y
    simp only [writS] at hy
    cases hp : atOff ps off <;> rw [hp] at hy <;> try (simp only [reduceCtorEq] at hy; done)
    rename_i p
    cases hq : setOff ps off (.arr k2 n2 y) <;> rw [hq] at hy <;> cases p <;> try (simp only [reduceCtorEq] at hy; done)
    rename_i qs k' n' y'
    replace hy : (cond (ikEq k k' && Nat.beq n n' && ikEq k k2 && Nat.beq n n2) (some (OB.sta qs)) Option.none) = some ob' := hy
    cases hc : (ikEq k k' && Nat.beq n n' && ikEq k k2 && Nat.beq n n2) <;> rw [hc] at hy <;> simp only [cond_true, cond_false, reduceCtorEq, Option.some.injEq] at hy
    simp only [Bool.and_eq_true, nbeq, ikEq_iff] at hc
    obtain ⟨⟨⟨rfl, rfl⟩, rfl⟩, rfl⟩ := hc
    obtain ⟨e, _, _, _, h4, _⟩ := ht
    cases (show v = _ from hx)
    exact fin (c := y.1.map (Value.int k)) h4 rfl rfl (by simp [y.2]) (by intro u hu; obtain ⟨z, _, rfl⟩ := List.mem_map.1 hu; rfl) hp hq rfl hy.symm
  | int k => exact one _ rfl hy
  | bool => exact one _ rfl hy
  | str => exact one _ rfl hy
  | sl k e => exact one _ rfl hy
  | one z => exact one _ rfl hy
  | err => exact one _ rfl hy
  | st zs => simp [writS, writ1, scal] at hy
  | other => simp [writS, writ1, scal] at hy

theorem run_writO {td : TD} {t : TypeId} {ob ob' : OB} {off b g : Nat} {x : AV} {v : Value} (h : SR L w0 β st a w) (ht : tdP P t td) (hb : β b = some g) (hob : getH st.heap b = some ob)
    (hy : writO td ob off x = some ob') (hx : VR L β w x v) :
    ∃ w', (storeVar t ⟨g, off, Option.none⟩ v).run P w = .ok () w' ∧ SR L w0 β ⟨st.slots, setH st.heap b (some ob')⟩ a w' := by
  obtain ⟨ob2, hob2, ho⟩ := h.heap b g hb
  rw [hob] at hob2; injection hob2 with hob2; subst hob2
  have scalar : ∀ z, scal td = some z → ∀ ps, ob = .agg ps → (cond (Nat.blt off ps.length && leaf x) (some (OB.agg (setS ps off x))) Option.none) = some ob' →
      ∃ w', (storeVar t ⟨g, off, Option.none⟩ v).run P w = .ok () w' ∧ SR L w0 β ⟨st.slots, setH st.heap b (some ob')⟩ a w' := by
    intro z hz ps hobp hc
    subst hobp
    cases hcc : (Nat.blt off ps.length && leaf x) <;> rw [hcc] at hc <;> simp only [cond_true, cond_false, reduceCtorEq, Option.some.injEq] at hc
    simp only [Bool.and_eq_true] at hcc
    have hoff := nblt.1 hcc.1
    obtain ⟨d, _, _, hs, _⟩ := scal_facts ht hz
    have hlr := VR.leaf hcc.2 hx
    obtain ⟨h1, hcells⟩ := hlr.cell hcc.2
    obtain ⟨cs, t', hg, h2⟩ := ho
    have hlen := h2.length
    have hr := run_put (P := P) (off := off) (v := v) hs hg (by rw [hcells]; rfl) (by simp; omega) (by rw [hcells]; simpa using h1)
    refine ⟨_, hr, h.put_row hb hg ?_ (fun ob2 hob2 => by rw [hob] at hob2; injection hob2 with hob2; subst hob2; rfl)⟩
    subst hc
    rw [hcells]
    show L2 _ _ _
    have := L2.put hlr h2 hoff
    simpa using this
  cases td with
  | arr k n =>
    cases ob <;> simp only [writO, scal, reduceCtorEq] at hy
    rename_i k' n' x'
    cases x <;> simp only [reduceCtorEq] at hy
    rename_i k2 n2 y
    cases hc : (Nat.beq off 0 && ikEq k k' && Nat.beq n n' && ikEq k k2 && Nat.beq n n2) <;> rw [hc] at hy <;> simp only [cond_true, cond_false, reduceCtorEq, Option.some.injEq] at hy
    simp only [Bool.and_eq_true, nbeq, ikEq_iff] at hc
    obtain ⟨⟨⟨⟨rfl, rfl⟩, rfl⟩, rfl⟩, rfl⟩ := hc
    obtain ⟨e, _, _, _, h4, _⟩ := ht
    obtain ⟨t', hg⟩ := ho
    cases (show v = _ from hx)
    have hr := run_put (P := P) (off := 0) (v := .agg (y.1.map (Value.int k)).toArray) h4 hg (by simp [Value.cells, y.2]) (by simp [x'.2]) (by simp [Value.cells, Value.oneCell'])
    refine ⟨_, hr, h.put_row hb hg ?_ (fun ob2 hob2 => by rw [hob] at hob2; injection hob2 with hob2; subst hob2; rfl)⟩
    subst hy
    show _ = _
    simp [Value.cells, x'.2]
  | st zs =>
    cases ob <;> simp only [writO, scal, reduceCtorEq] at hy
    rename_i ps
    cases x <;> simp only [reduceCtorEq] at hy
    rename_i qs
    cases hc : (Nat.beq off 0 && Nat.beq ps.length qs.length && Nat.beq zs.length ps.length && allLeaf qs) <;> rw [hc] at hy <;> simp only [cond_true, cond_false, reduceCtorEq, Option.some.injEq] at hy
    simp only [Bool.and_eq_true, nbeq] at hc
    obtain ⟨⟨⟨rfl, hl1⟩, hl2⟩, hleaf⟩ := hc
    obtain ⟨fs, _, _, _, h4, _⟩ := ht
    obtain ⟨cs, t', hg, h2⟩ := ho
    obtain ⟨ds, rfl, h3⟩ := hx
    have e1 := h2.length
    have e2 := h3.length
    have one : ∀ (qs : List AV) (ds : List Value), allLeaf qs = true → L2 (LR (protB L β) w) qs ds → ∀ u ∈ ds, u.oneCell' = true := by
      intro qs
      induction qs with
      | nil => intro ds _ h u hu; cases ds with | nil => simp at hu | cons _ _ => exact h.elim
      | cons q qs ih =>
        intro ds hq h u hu
        simp only [allLeaf, Bool.and_eq_true] at hq
        cases ds with
        | nil => simp at hu
        | cons d ds =>
          rcases List.mem_cons.1 hu with rfl | hu
          · exact (LR.cell hq.1 h.1).1
          · exact ih ds hq.2 h.2 u hu
    have hr := run_put (P := P) (off := 0) (v := .agg ds.toArray) h4 hg (by simp [Value.cells]; omega) (by simp; omega) (by simpa [Value.cells] using one qs ds hleaf h3)
    refine ⟨_, hr, h.put_row hb hg ?_ (fun ob2 hob2 => by rw [hob] at hob2; injection hob2 with hob2; subst hob2; rfl)⟩
    subst hy
    show L2 _ _ _
    simp only [Value.cells, List.take_zero, List.nil_append, Nat.zero_add]
    rw [List.drop_of_length_le (by omega), List.append_nil]
    exact h3
  | int k => cases ob <;> simp only [writO, scal, reduceCtorEq] at hy; exact scalar _ rfl _ rfl hy
  | bool => cases ob <;> simp only [writO, scal, reduceCtorEq] at hy; exact scalar _ rfl _ rfl hy
  | str => cases ob <;> simp only [writO, scal, reduceCtorEq] at hy; exact scalar _ rfl _ rfl hy
  | sl k e => cases ob <;> simp only [writO, scal, reduceCtorEq] at hy; exact scalar _ rfl _ rfl hy
  | one z => cases ob <;> simp only [writO, scal, reduceCtorEq] at hy; exact scalar _ rfl _ rfl hy
  | err => cases ob <;> simp only [writO, scal, reduceCtorEq] at hy; exact scalar _ rfl _ rfl hy
  | sta fs => cases ob <;> cases x <;> first | (simp [writO, scal] at hy; done) | (simp only [writO, reduceCtorEq] at hy)
  | other => cases ob <;> cases x <;> first | (simp [writO, scal] at hy; done) | (simp only [writO, reduceCtorEq] at hy)
/-- a variable is written -/
theorem run_writ {td : TD} {t : TypeId} {ob ob' : OB} {off b g : Nat} {x : AV} {v : Value} (h : SR L w0 β st a w) (ht : tdP P t td) (hb : β b = some g) (hob : getH st.heap b = some ob)
    (hy : writ td ob off x = some ob') (hx : VR L β w x v) :
    ∃ w', (storeVar t ⟨g, off, Option.none⟩ v).run P w = .ok () w' ∧ SR L w0 β ⟨st.slots, setH st.heap b (some ob')⟩ a w' := by
  cases ob with
  | sta ps => exact run_writS h ht hb hob hy hx
  | _ => exact run_writO h ht hb hob hy hx
end ops
end Go.Proofs.YtcdhcihjcjpmkaaGreatDoor.Eng
