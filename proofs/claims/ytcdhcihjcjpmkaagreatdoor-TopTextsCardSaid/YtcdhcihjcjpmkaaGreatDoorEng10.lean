/- THE ENGINE, part 10: regions. No statement is proved here. -/
import Derived.Test.YtcdhcihjcjpmkaaGreatDoorEng9
namespace Go.Proofs.YtcdhcihjcjpmkaaGreatDoor.Eng
open Go Go.RowKit
set_option linter.unusedVariables false
set_option linter.unusedSimpArgs false

section told
variable {P : Program} {T : Tb} {R : Type} {G : FuncId → List AV → (AV → Option R) → Option R} {ops : Array Oper}
theorem guarded_told {l : List Oper} {o : Oper} {st : St} {yes no : St → Option R} {r : R} (h : guarded l o st yes no = some r) :
    (aw l o st.slots = some true ∧ yes st = some r) ∨ (aw l o st.slots = some false ∧ no st = some r) := by
  unfold guarded at h
  unfold aw
  cases hg : o.guard with
  | none => rw [hg] at h; exact .inl ⟨rfl, h⟩
  | some p =>
    obtain ⟨j, want⟩ := p
    rw [hg] at h
    simp only at h ⊢
    cases hd : (l[j]?).bind (·.dst) with
    | none => rw [hd] at h; cases h
    | some d =>
      rw [hd] at h
      simp only at h ⊢
      cases hs : getS st.slots d <;> rw [hs] at h <;> (try simp only [reduceCtorEq] at h)
      case tup ps =>
        cases ps with
        | nil => exact .inr ⟨rfl, h⟩
        | cons p ps => cases h
      rename_i v
      cases v <;> (try simp only [reduceCtorEq] at h)
      rename_i b
      cases b
      · rw [setS_same _ _ _ hs] at h
        cases want
        · exact .inl ⟨rfl, h⟩
        · exact .inr ⟨rfl, h⟩
      · rw [setS_same _ _ _ hs] at h
        cases want
        · exact .inr ⟨rfl, h⟩
        · exact .inl ⟨rfl, h⟩

theorem execOps_told (hT : TOK P T) (hG : GOK P G) : ∀ (l : List Oper) (st : St) (K : St → Option R) (r : R) (o m : Nat), (∀ i, i < l.length → ops[o + i]? = l[i]?) → l.length = m → execOps T G ops.toList l st K = some r →
    ∃ st', RunI P T ops (List.range' o m) st st' ∧ K st' = some r
  | [], st, K, r, o, m, _, hm, h => by
    simp at hm; subst hm
    exact ⟨st, rfl, h⟩
  | x :: l, st, K, r, o, m, hi, hm, h => by
    obtain ⟨m', rfl⟩ : ∃ m', m = m' + 1 := ⟨l.length, by simpa using hm.symm⟩
    simp only [execOps] at h
    have hx : ops[o]? = some x := by have := hi 0 (by simp); simpa using this
    have next : ∀ i, i < l.length → ops[o + 1 + i]? = l[i]? := fun i h' => by have := hi (i + 1) (by simpa using h'); rw [show o + 1 + i = o + (i + 1) by omega, this]; simp
    rw [List.range'_succ]
    rcases guarded_told h with ⟨ha, h⟩ | ⟨ha, h⟩
    · obtain ⟨out, h1, h2⟩ := res_told hT hG h
      obtain ⟨st', h3, h4⟩ := execOps_told hT hG l _ K r (o + 1) m' next (by simpa using hm) h2
      exact ⟨st', ⟨x, _, hx, ⟨out, .inl ⟨ha, h1⟩, rfl⟩, h3⟩, h4⟩
    · obtain ⟨st', h3, h4⟩ := execOps_told hT hG l _ K r (o + 1) m' next (by simpa using hm) h
      exact ⟨st', ⟨x, _, hx, ⟨.val (.tup []), .inr ⟨ha, rfl⟩, rfl⟩, h3⟩, h4⟩
end told

section sound
variable {P : Program} {T : Tb} {ops : Array Oper} {L : Nat → Prop} {w0 : Base} {Q : Exit → Act → World → Prop}
theorem aw_sound {β : Nat → Option Nat} {st : St} {a : Act} {w : World} (h : SR L w0 β st a w) {o : Oper} {b : Bool} (ha : aw ops.toList o st.slots = some b) : Region.wanted o (yielded ops a.tmps) = b := by
  unfold aw at ha
  unfold Region.wanted
  cases hg : o.guard with
  | none => rw [hg] at ha; simpa using ha
  | some p =>
    obtain ⟨j, want⟩ := p
    rw [hg] at ha
    simp only at ha ⊢
    unfold yielded
    rw [Array.getElem?_toList] at ha
    cases hd : (ops[j]?).bind (·.dst) with
    | none => rw [hd] at ha; cases ha
    | some d =>
      rw [hd] at ha
      simp only at ha
      have hs := h.slots d
      cases hv : getS st.slots d <;> rw [hv] at ha hs <;> (try simp only [reduceCtorEq] at ha)
      case tup ps =>
        cases ps with
        | cons p ps => cases ha
        | nil =>
          injection ha with ha
          obtain ⟨cs, hcs, h2⟩ := hs
          have : ∀ b', a.tmps[d]? ≠ some (.bool b') := fun b' e => by
            rw [Array.getD_eq_getD_getElem?, e] at hcs; simp at hcs
          rw [← ha]
          simp only [Option.bind_some]
          cases hq : a.tmps[d]? with
          | none => rfl
          | some u =>
            cases u <;> first | rfl | exact absurd hq (this _)
      rename_i v
      cases v <;> (try simp only [reduceCtorEq, Option.some.injEq] at ha)
      rename_i b'
      have hs' : a.tmps.getD d undef = .bool b' := hs
      have : a.tmps[d]? = some (.bool b') := by
        rw [Array.getD_eq_getD_getElem?] at hs'
        cases hq : a.tmps[d]? with
        | none => rw [hq] at hs'; simp [undef] at hs'
        | some u => rw [hq] at hs'; simpa using hs'
      simp only [Option.bind_some, this]
      cases b' <;> cases want <;> simp_all

/-- a slot that nothing is put into: what the machine has there stays -/
def FxOK (fx : Option Value) (a : Act) : Prop := ∀ y, fx = some y → a.tmps.getD 0 undef = y
def opsFx (fx : Option Value) (ops : Array Oper) : Prop := fx = Option.none ∨ ∀ (i : Nat) (o : Oper), ops[i]? = some o → o.dst ≠ some 0
theorem FxOK.put {fx : Option Value} {a : Act} {d : Option Tmp} (h : FxOK fx a) (hd : fx = Option.none ∨ d ≠ some 0) (v : Value) : FxOK fx (a.put d v) := by
  intro y hy
  rcases hd with rfl | hd
  · cases hy
  · rw [← h y hy]
    cases d with
    | none => rfl
    | some d =>
      show (a.tmps.setIfInBounds d v).getD 0 undef = a.tmps.getD 0 undef
      rw [Array.getD_eq_getD_getElem?, Array.getD_eq_getD_getElem?, Array.getElem?_setIfInBounds_ne (fun e => hd (by rw [e]))]
theorem wp_fx {fx : Option Value} {o : Oper} {a : Act} {w : World} {K : Act → World → Prop} (h : o.wp P a w K Q) (hf : FxOK fx a) (hd : fx = Option.none ∨ o.dst ≠ some 0) : o.wp P a w (fun a' w' => FxOK fx a' ∧ K a' w') Q := by
  have hf' : ∀ l, FxOK fx { a with defers := l } := fun l => hf
  unfold Oper.wp at *
  generalize (execOp a.eval o).run P w = r at *
  cases r with
  | ok n w' =>
    cases n <;> simp only [Oper.upon] at h ⊢ <;>
      first
        | exact ⟨hf.put hd _, h⟩
        | exact ⟨FxOK.put (hf' _) hd _, h⟩
        | exact Calls.mono h (fun e w'' he => by cases e <;> first | exact ⟨hf.put hd _, he⟩ | exact he)
        | exact Rows.mono h (fun _ _ he => ⟨hf.put hd _, he⟩)
  | halt x w' => cases x <;> simp only [Oper.upon] at h ⊢ <;> exact h
theorem step_sound (hT : TOK P T) {fx : Option Value} (hfx : opsFx fx ops) {β : Nat → Option Nat} {st st' : St} {a : Act} {w : World} (h : SR L w0 β st a w) (hf : FxOK fx a) {o : Oper} {i : Nat} (ho : ops[i]? = some o) (hs : Step1 P T ops o st st')
    {K : Act → World → Prop} (hK : ∀ β' a' w', SR L w0 β' st' a' w' → FxOK fx a' → K a' w') : wpOp P ops Q i K a w := by
  obtain ⟨out, hd, rfl⟩ := hs
  unfold wpOp
  rw [ho]
  simp only
  rcases hd with ⟨h1, h2⟩ | ⟨h1, rfl⟩
  · rw [aw_sound h h1]
    simp only [if_true]
    refine .inl (Oper.wp_mono (fun a' w' hh => ?_) (wp_fx (op_sound hT h h2 (next := fun a' w' => ∃ β', SR L w0 β' (apply o st out) a' w') fun β' a' w' hs => ⟨β', hs⟩) hf (hfx.imp id fun h => h _ _ ho)))
    obtain ⟨h3, β', h4⟩ := hh
    exact hK β' a' w' h4 h3
  · rw [aw_sound h h1]
    simp only [Bool.false_eq_true, if_false]
    exact hK β _ _ (h.put (x := .tup []) o.dst ⟨[], rfl, trivial⟩ trivial) (hf.put (hfx.imp id fun h => h _ _ ho) _)

theorem run_sound (hT : TOK P T) {fx : Option Value} (hfx : opsFx fx ops) : ∀ (l : List Nat) (β : Nat → Option Nat) (st st' : St) (a : Act) (w : World), SR L w0 β st a w → FxOK fx a → RunI P T ops l st st' → (∀ β' a' w', SR L w0 β' st' a' w' → FxOK fx a' → Q .normal a' w') → wpOps P ops Q l a w
  | [], β, st, st', a, w, h, hf, hr, hQ => by cases (show st' = st from hr); exact hQ β a w h hf
  | i :: l, β, st, st', a, w, h, hf, hr, hQ => by
    obtain ⟨o, s1, ho, hs, hr⟩ := hr
    rw [wpOps_cons]
    exact step_sound hT hfx h hf ho hs fun β' a' w' h' hf' => run_sound hT hfx l β' s1 st' a' w' h' hf' hr hQ

theorem SR.wf {β : Nat → Option Nat} {st : St} {a : Act} {w : World} (h : SR L w0 β st a w) : WF st := by
  intro t b hb
  have hs := h.rows t
  have : ∃ ob, getH st.heap b = some ob := by
    cases hv : getS st.slots t <;> rw [hv] at hs hb <;> simp only [refOf, reduceCtorEq, Option.some.injEq] at hb <;> subst hb
    all_goals
      obtain ⟨ob, ho, _⟩ := hs
      exact ⟨ob, ho⟩
  obtain ⟨ob, ho⟩ := this
  rw [ho]; simp

/-- what an operation must come behind, directly or not -/
def depB (ops : Array Oper) : Nat → Nat → Nat → Bool
  | 0, _, _ => false
  | f + 1, i, j => match ops[i]? with
    | some o => o.after.toList.any fun e => Region.binds .any e && (Nat.beq e.on j || depB ops f e.on j)
    | Option.none => false
def pairOK (T : Tb) (ops : Array Oper) (i j : Nat) : Bool :=
  match ops[j]?, ops[i]? with
  | some x, some y => depB ops ops.size i j || indep T ops x y
  | _, _ => false
def allBelow (n : Nat) (f : Nat → Bool) : Bool :=
  match n with
  | 0 => true
  | n + 1 => f n && allBelow n f
theorem allBelow_spec {f : Nat → Bool} : ∀ {n : Nat}, allBelow n f = true → ∀ i, i < n → f i = true
  | 0, _, i, hi => by omega
  | n + 1, h, i, hi => by
    simp only [allBelow, Bool.and_eq_true] at h
    by_cases e : i = n
    · subst e; exact h.1
    · exact allBelow_spec h.2 i (by omega)
/-- a region whose order may be any -/
def drawOK (T : Tb) (ops : Array Oper) : Bool :=
  allBelow ops.size fun i => (match ops[i]? with | some o => o.after.toList.all fun e => !(Region.binds .any e) || Nat.blt e.on i | Option.none => false) && allBelow i fun j => pairOK T ops i j

def Closed (ops : Array Oper) (listed : Array Bool) : Prop := ∀ i o, ops[i]? = some o → listed.getD i true = true → ∀ e ∈ o.after.toList, Region.binds .any e = true → listed.getD e.on false = true

theorem dep_listed {listed : Array Bool} (hsz : listed.size = ops.size) (hc : Closed ops listed) : ∀ (f i j : Nat), (∀ o, ops[i]? = some o → ∀ e ∈ o.after.toList, Region.binds .any e = true → listed.getD e.on false = true) → depB ops f i j = true → listed.getD j false = true
  | 0, _, _, _, h => by simp [depB] at h
  | f + 1, i, j, hi, h => by
    simp only [depB] at h
    cases ho : ops[i]? with
    | none => simp [ho] at h
    | some o =>
      rw [ho] at h
      simp only [List.any_eq_true, Bool.and_eq_true, Bool.or_eq_true, nbeq] at h
      obtain ⟨e, he, hb, hj⟩ := h
      have hl := hi o ho e he hb
      rcases hj with hj | hj
      · rw [← hj]; exact hl
      · refine dep_listed hsz hc f e.on j (fun o' ho' => hc e.on o' ho' ?_) hj
        have hlt : e.on < listed.size := by rw [hsz]; exact (Array.getElem?_eq_some_iff.1 ho').1
        simp only [Array.getD_eq_getD_getElem?, Array.getElem?_eq_getElem hlt, Option.getD_some] at hl ⊢
        exact hl

/-- the operations that are still to come, in the text's order -/
def left (ops : Array Oper) (listed : Array Bool) : List Nat := (List.range ops.size).filter fun i => !listed.getD i true
theorem mem_left {listed : Array Bool} {i : Nat} : i ∈ left ops listed ↔ i < ops.size ∧ listed.getD i true = false := by simp [left]

theorem mem_ready {listed : Array Bool} {i : Nat} (h : i ∈ Region.ready .any ops listed) : ∃ o, ops[i]? = some o ∧ i ∈ left ops listed ∧ ∀ e ∈ o.after.toList, Region.binds .any e = true → listed.getD e.on false = true := by
  simp only [Region.ready, List.mem_filter, List.mem_range, Bool.and_eq_true, Bool.not_eq_true'] at h
  obtain ⟨h1, h2, h3⟩ := h
  have ho : ops[i]? = some ops[i] := Array.getElem?_eq_getElem h1
  refine ⟨ops[i], ho, mem_left.2 ⟨h1, h2⟩, fun e he hb => ?_⟩
  rw [ho] at h3
  simp only [Option.map_some, Option.getD_some] at h3
  have := Array.all_eq_true_iff_forall_mem.1 h3 e (by simpa using he)
  simpa [hb] using this
theorem ready_of {listed : Array Bool} {i : Nat} {o : Oper} (ho : ops[i]? = some o) (hl : i ∈ left ops listed) (he : ∀ e ∈ o.after.toList, Region.binds .any e = true → listed.getD e.on false = true) : i ∈ Region.ready .any ops listed := by
  obtain ⟨h1, h2⟩ := mem_left.1 hl
  simp only [Region.ready, List.mem_filter, List.mem_range, Bool.and_eq_true, Bool.not_eq_true']
  refine ⟨h1, h2, ?_⟩
  rw [ho]
  simp only [Option.map_some, Option.getD_some]
  refine Array.all_eq_true_iff_forall_mem.2 fun e hm => ?_
  cases hb : Region.binds .any e
  · simp
  · simp [he e (by simpa using hm) hb]

/-- one that may change places with all ahead of it comes first -/
theorem run_front {i : Nat} {x : Oper} (hx : ops[i]? = some x) : ∀ (pre : List Nat) (post : List Nat) (st st' : St), WF st → (∀ j ∈ pre, ∃ y, ops[j]? = some y ∧ indep T ops y x = true) → RunI P T ops (pre ++ i :: post) st st' → RunI P T ops (i :: (pre ++ post)) st st'
  | [], _, _, _, _, _, h => h
  | j :: pre, post, st, st', hw, hp, h => by
    obtain ⟨y, s1, hy, hs, h⟩ := h
    obtain ⟨x', s2, hx', hs2, h2⟩ := run_front hx pre post s1 st' (hw.step hs) (fun k hk => hp k (by simp [hk])) h
    rw [hx] at hx'; injection hx' with hx'; subst hx'
    obtain ⟨y', hy', hi⟩ := hp j (by simp)
    rw [hy] at hy'; injection hy' with hy'; subst hy'
    obtain ⟨s1', h3, h4⟩ := swap hi hw hs hs2
    exact ⟨x, s1', hx, h3, y, s2, hy, h4, h2⟩

theorem left_set {listed : Array Bool} (hsz : listed.size = ops.size) {i : Nat} (hi : i ∈ left ops listed) : ∃ pre post, left ops listed = pre ++ i :: post ∧ left ops (listed.setIfInBounds i true) = pre ++ post ∧ (∀ j ∈ pre, j < i) := by
  obtain ⟨h1, h2⟩ := mem_left.1 hi
  refine ⟨((List.range i).filter fun i => !listed.getD i true), ((List.range' (i + 1) (ops.size - (i + 1))).filter fun i => !listed.getD i true), ?_, ?_, fun j hj => by simp at hj; exact hj.1⟩
  · have : List.range ops.size = List.range i ++ i :: List.range' (i + 1) (ops.size - (i + 1)) := by
      rw [← List.range'_succ, List.range_eq_range', List.range_eq_range', show ops.size - (i + 1) + 1 = ops.size - i by omega]
      have := List.range'_append (s := 0) (m := i) (n := ops.size - i) (step := 1)
      simp only [Nat.zero_add, Nat.one_mul] at this
      rw [this]; congr 1; omega
    unfold left
    rw [this, List.filter_append, List.filter_cons]
    simp [h2]
  · have : List.range ops.size = List.range i ++ i :: List.range' (i + 1) (ops.size - (i + 1)) := by
      rw [← List.range'_succ, List.range_eq_range', List.range_eq_range', show ops.size - (i + 1) + 1 = ops.size - i by omega]
      have := List.range'_append (s := 0) (m := i) (n := ops.size - i) (step := 1)
      simp only [Nat.zero_add, Nat.one_mul] at this
      rw [this]; congr 1; omega
    have get : ∀ j, j ≠ i → (listed.setIfInBounds i true).getD j true = listed.getD j true := fun j hj => by
      simp only [Array.getD_eq_getD_getElem?, Array.getElem?_setIfInBounds_ne (Ne.symm hj)]
    have geti : (listed.setIfInBounds i true).getD i true = true := by
      simp only [Array.getD_eq_getD_getElem?]
      rw [Array.getElem?_setIfInBounds]
      simp [hsz, h1]
    unfold left
    rw [this, List.filter_append, List.filter_cons]
    simp only [geti, Bool.not_true, Bool.false_eq_true, if_false]
    congr 1
    · exact List.filter_congr fun j hj => by rw [get j (by simp at hj; omega)]
    · exact List.filter_congr fun j hj => by rw [get j (by simp [List.mem_range'] at hj; omega)]

theorem any_sound (hT : TOK P T) {fx : Option Value} (hfx : opsFx fx ops) (hok : drawOK T ops = true) : ∀ (fuel : Nat) (listed : Array Bool) (β : Nat → Option Nat) (st st' : St) (a : Act) (w : World), listed.size = ops.size → Closed ops listed → (left ops listed).length ≤ fuel →
    SR L w0 β st a w → FxOK fx a → RunI P T ops (left ops listed) st st' → (∀ β' a' w', SR L w0 β' st' a' w' → FxOK fx a' → Q .normal a' w') → wpAny P .any ops Q fuel listed a w := by
  have edge : ∀ i o, ops[i]? = some o → ∀ e ∈ o.after.toList, Region.binds .any e = true → e.on < i := by
    intro i o ho e he hb
    have hi : i < ops.size := (Array.getElem?_eq_some_iff.1 ho).1
    have := allBelow_spec hok i hi
    rw [ho] at this
    simp only [Bool.and_eq_true, List.all_eq_true] at this
    have h2 := this.1 e he
    simp only [hb, Bool.not_true, Bool.false_or] at h2
    exact nblt.1 h2
  have pair : ∀ i j, i < ops.size → j < i → pairOK T ops i j = true := by
    intro i j hi hj
    have := allBelow_spec hok i hi
    simp only [Bool.and_eq_true] at this
    exact allBelow_spec this.2 j hj
  -- where nothing is ready nothing is left
  have nothing : ∀ listed : Array Bool, listed.size = ops.size → Region.ready .any ops listed = [] → left ops listed = [] := by
    intro listed hsz hr
    have all : ∀ i, i < ops.size → listed.getD i true = true := by
      intro i
      induction i using Nat.strongRecOn with
      | _ i ih =>
        intro hi
        cases hl : listed.getD i true with
        | true => rfl
        | false =>
          exfalso
          have ho : ops[i]? = some ops[i] := Array.getElem?_eq_getElem hi
          have : i ∈ Region.ready .any ops listed := ready_of ho (mem_left.2 ⟨hi, hl⟩) fun e he hb => by
            have hlt := edge i _ ho e he hb
            have := ih e.on hlt (by omega)
            have hb : e.on < listed.size := by omega
            simp only [Array.getD_eq_getD_getElem?, Array.getElem?_eq_getElem hb, Option.getD_some] at this ⊢
            exact this
          rw [hr] at this; cases this
    cases hl : left ops listed with
    | nil => rfl
    | cons i l =>
      have : i ∈ left ops listed := by rw [hl]; simp
      obtain ⟨h1, h2⟩ := mem_left.1 this
      rw [all i h1] at h2
      cases h2
  intro fuel
  induction fuel with
  | zero =>
    intro listed β st st' a w hsz hc hlen hsr hf hrun hQ
    have hnil : left ops listed = [] := List.eq_nil_of_length_eq_zero (by omega)
    rw [hnil] at hrun
    cases (show st' = st from hrun)
    refine ⟨?_, hQ β a w hsr hf⟩
    cases hr : Region.ready .any ops listed with
    | nil => rfl
    | cons i l =>
      obtain ⟨o, _, hm, _⟩ := mem_ready (show i ∈ Region.ready .any ops listed by rw [hr]; simp)
      rw [hnil] at hm; cases hm
  | succ fuel ih =>
    intro listed β st st' a w hsz hc hlen hsr hf hrun hQ
    refine ⟨fun hr => ?_, fun i hi => ?_⟩
    · rw [nothing listed hsz hr] at hrun
      cases (show st' = st from hrun)
      exact hQ β a w hsr hf
    · obtain ⟨x, hx, hm, he⟩ := mem_ready hi
      obtain ⟨pre, post, h1, h2, h3⟩ := left_set hsz hm
      have hil : i < ops.size := (mem_left.1 hm).1
      rw [h1] at hrun
      have hpre : ∀ j ∈ pre, ∃ y, ops[j]? = some y ∧ indep T ops y x = true := by
        intro j hj
        have hjl : j ∈ left ops listed := by rw [h1]; simp [hj]
        obtain ⟨hj1, hj2⟩ := mem_left.1 hjl
        have hy : ops[j]? = some ops[j] := Array.getElem?_eq_getElem hj1
        refine ⟨ops[j], hy, ?_⟩
        have hp := pair i j hil (h3 j hj)
        unfold pairOK at hp
        rw [hy, hx] at hp
        simp only [Bool.or_eq_true] at hp
        rcases hp with hp | hp
        · have := dep_listed hsz hc _ i j (fun o ho e he' hb => by rw [hx] at ho; injection ho with ho; subst ho; exact he e he' hb) hp
          have hjs : j < listed.size := by omega
          simp only [Array.getD_eq_getD_getElem?, Array.getElem?_eq_getElem hjs, Option.getD_some] at this hj2
          rw [this] at hj2; cases hj2
        · exact hp
      obtain ⟨x', s1, hx', hs, hrun2⟩ := run_front hx pre post st st' hsr.wf hpre hrun
      rw [hx] at hx'; injection hx' with hx'; subst hx'
      refine step_sound hT hfx hsr hf hx hs fun β' a' w' h' hf' => ?_
      refine ih _ β' s1 st' a' w' (by simp [hsz]) ?_ ?_ h' hf' (by rw [h2]; exact hrun2) hQ
      · intro k o ho hk e hee hb
        by_cases hki : k = i
        · subst hki
          rw [hx] at ho; injection ho with ho; subst ho
          have := he e hee hb
          rw [Array.getD_eq_getD_getElem?] at this ⊢
          rw [Array.getElem?_setIfInBounds]
          split
          · rename_i e0
            rw [if_pos (by omega)]; rfl
          · exact this
        · have hk' : listed.getD k true = true := by
            rw [Array.getD_eq_getD_getElem?, Array.getElem?_setIfInBounds_ne (Ne.symm hki)] at hk
            rw [Array.getD_eq_getD_getElem?]; exact hk
          have := hc k o ho hk' e hee hb
          rw [Array.getD_eq_getD_getElem?] at this ⊢
          rw [Array.getElem?_setIfInBounds]
          split
          · rename_i e0
            rw [if_pos (by omega)]; rfl
          · exact this
      · rw [h2]; rw [h1] at hlen; simp at hlen ⊢; omega
end sound
end Go.Proofs.YtcdhcihjcjpmkaaGreatDoor.Eng
