/- THE ENGINE, part 6: whatever the evaluator says of an operation, the machine does. No statement is proved here. -/
import Derived.Test.YtcdhcihjcjpmkaaGreatDoorEng5
import Derived.Laws.IdiomStrings
import Derived.Laws.BytesString
import Derived.Great.BuildSlice
import Derived.Laws.OwnMore
import Derived.Maps.AppendAt
namespace Go.Proofs.YtcdhcihjcjpmkaaGreatDoor.Eng
open Go Go.RowKit
set_option linter.unusedVariables false
set_option linter.unusedSimpArgs false

theorem fill_cons (places : Nat → Option (Nat × Nat)) (cells : Array Value) (i off : Nat) (v : Value) (rest : List (Nat × Value)) (hp : places i = some (off, 1)) (hv : v.cells = #[v]) (hi : off < cells.size) :
    Instr.fill places cells ((i, v) :: rest) = Instr.fill places (cells.setIfInBounds off v) rest := by
  have e : v.cells.size = 1 := by rw [hv]; rfl
  simp only [Instr.fill, hp, e]
  rw [if_neg (by simp; omega), hv]
  rfl
section fill
variable {pr : Nat → Prop} {w : World}
theorem fill_vec {k : IntKind} (ρ : Operand → AV) (σ : Operand → Value) (hρ : ∀ x j b, ρ x = .v (.int j b) → σ x = .int j b) : ∀ (ps : List (Nat × Operand)) {n : Nat} (z y : Vec n), fillVec k ρ ps z = some y →
    Instr.fill (fun i => some (i * 1, 1)) (z.1.map (Value.int k)).toArray (ps.map fun p => (p.1, σ p.2)) = some (y.1.map (Value.int k)).toArray
  | [], n, z, y, h => by simp only [fillVec, Option.some.injEq] at h; subst h; rfl
  | (i, x) :: ps, n, z, y, h => by
    simp only [fillVec] at h
    cases hx : ρ x <;> rw [hx] at h <;> (try simp only [reduceCtorEq] at h)
    rename_i v
    cases v <;> (try simp only [reduceCtorEq] at h)
    rename_i j b
    obtain ⟨hc, h2⟩ := cond_some h
    clear h
    simp only [Bool.and_eq_true, ikEq_iff, nblt] at hc
    obtain ⟨rfl, hi⟩ := hc
    have ih := fill_vec ρ σ hρ ps _ _ h2
    have hσ := hρ x _ _ hx
    rw [List.map_cons, hσ, fill_cons _ _ i (i * 1) _ _ rfl rfl (by rw [List.size_toArray, List.length_map, z.2]; omega), Nat.mul_one]
    have e : (z.1.map (Value.int k)).toArray.setIfInBounds i (Value.int k b) = ((z.st i b).1.map (Value.int k)).toArray := by
      rw [List.setIfInBounds_toArray, ← List.map_set]; rfl
    rw [e]; exact ih
theorem fill_ps (ρ : Operand → AV) (σ : Operand → Value) (hρ : ∀ x, leaf (ρ x) = true → LR pr w (ρ x) (σ x)) (places : Nat → Option (Nat × Nat)) : ∀ (ps : List (Nat × Operand)) (z y : List AV) (cs : List Value), L2 (LR pr w) z cs →
    (∀ i, i < z.length → places i = some (i, 1)) → fillPs ρ ps z = some y → ∃ ds : List Value, Instr.fill places cs.toArray (ps.map fun p => (p.1, σ p.2)) = some ds.toArray ∧ L2 (LR pr w) y ds
  | [], z, y, cs, h, _, hf => by simp only [fillPs, Option.some.injEq] at hf; subst hf; exact ⟨cs, rfl, h⟩
  | (i, x) :: ps, z, y, cs, h, hp, hf => by
    simp only [fillPs] at hf
    obtain ⟨hc, hf⟩ := cond_some hf
    simp only [Bool.and_eq_true, nblt] at hc
    have hl := hρ x hc.1
    obtain ⟨_, hcells⟩ := hl.cell hc.1
    obtain ⟨ds, h1, h2⟩ := fill_ps ρ σ hρ places ps _ _ (cs.set i (σ x)) (L2.set hl h i) (fun j hj => hp j (by simpa using hj)) hf
    refine ⟨ds, ?_, h2⟩
    have hlen := h.length
    rw [List.map_cons, fill_cons _ _ i i _ _ (hp i hc.2) hcells (by rw [List.size_toArray, ← hlen]; exact hc.2), List.setIfInBounds_toArray]
    exact h1
/-- cells laid over others -/
theorem fold_set (off : Nat) (post : List Value) : ∀ (c a pre : List Value) (j : Nat), pre.length = off + j → a.length = c.length →
    (c.zipIdx j).foldl (fun (cs : Array Value) (p : Value × Nat) => cs.setIfInBounds (off + p.2) p.1) (pre ++ (a ++ post)).toArray = (pre ++ (c ++ post)).toArray
  | [], a, pre, j, _, ha => by cases a with | nil => rfl | cons _ _ => simp at ha
  | x :: c, a, pre, j, hp, ha => by
    cases a with
    | nil => simp at ha
    | cons y a =>
      have e : (pre ++ (y :: a ++ post)).toArray.setIfInBounds (off + j) x = ((pre ++ [x]) ++ (a ++ post)).toArray := by
        rw [List.setIfInBounds_toArray]
        congr 1
        rw [← hp]
        simp
      rw [List.zipIdx_cons, List.foldl_cons, e, fold_set off post c a (pre ++ [x]) (j + 1) (by simp; omega) (by simpa using ha)]
      simp
theorem fill_part (places : Nat → Option (Nat × Nat)) (i off : Nat) (v : Value) (rest : List (Nat × Value)) {pre a post c : List Value} (hc : v.cells.toList = c) (hp : places i = some (off, c.length)) (hpre : pre.length = off) (ha : a.length = c.length) :
    Instr.fill places (pre ++ (a ++ post)).toArray ((i, v) :: rest) = Instr.fill places (pre ++ (c ++ post)).toArray rest := by
  have e : v.cells.size = c.length := by rw [← hc]; simp
  simp only [Instr.fill, hp, e]
  rw [if_neg (by simp; omega)]
  congr 1
  have := fold_set off post c a pre 0 (by omega) ha
  rw [← this, ← hc, ← Array.foldl_toList, Array.toList_zipIdx]
theorem partOK_w {f : FD} {p : AV} (hp : partOK f p = true) : partW p = f.w := by
  cases f with
  | one z => cases p <;> first | rfl | simp [partOK, leaf] at hp
  | arr k n =>
    cases p <;> simp only [partOK, Bool.false_eq_true, false_and] at hp
    simp only [Bool.and_eq_true, nbeq] at hp
    exact hp.2.symm
theorem LL.setF {x : AV} {c : List Value} (hx : PC pr w x c) : ∀ {fs : List FD} {ps : List AV} {cs : List Value} {i : Nat} {f : FD}, ps.map partW = fs.map FD.w → LL pr w ps cs → getFD fs i = some f → partOK f x = true →
    ∃ pre a post, cs = pre ++ (a ++ post) ∧ pre.length = offAt fs i ∧ a.length = c.length ∧ LL pr w (setS ps i x) (pre ++ (c ++ post)) ∧ (setS ps i x).map partW = fs.map FD.w
  | [], _, _, _, _, _, _, h, _ => by simp [getFD] at h
  | _ :: _, [], _, _, _, hw, _, _, _ => by simp at hw
  | d :: fs, p :: ps, cs, 0, f, hw, ⟨a, b, h1, h2, h3⟩, h, hp => by
    simp only [getFD, Option.some.injEq] at h
    subst h
    simp only [List.map_cons, List.cons.injEq] at hw
    exact ⟨[], a, b, h1, rfl, by rw [h2.len, hx.len, hw.1, partOK_w hp], ⟨c, b, rfl, hx, h3⟩, by simp only [setS, List.map_cons, partOK_w hp, hw.2]⟩
  | d :: fs, p :: ps, cs, i + 1, f, hw, ⟨a, b, h1, h2, h3⟩, h, hp => by
    simp only [List.map_cons, List.cons.injEq] at hw
    obtain ⟨pre, a', post, e1, e2, e3, e4, e5⟩ := LL.setF hx hw.2 h3 (i := i) h hp
    exact ⟨a ++ pre, a', post, by rw [h1, e1, List.append_assoc], by rw [List.length_append, h2.len, hw.1, e2]; rfl, e3, ⟨a, pre ++ (c ++ post), by rw [List.append_assoc], h2, e4⟩, by simp only [setS, List.map_cons, hw.1, e5]⟩
theorem fill_sta (fs : List FD) (ρ : Operand → AV) (σ : Operand → Value) (hρ : ∀ x f, partOK f (ρ x) = true → PC pr w (ρ x) (σ x).cells.toList) (places : Nat → Option (Nat × Nat)) (hpl : ∀ i f, getFD fs i = some f → places i = some (offAt fs i, f.w)) :
    ∀ (ps : List (Nat × Operand)) (z y : List AV) (cs : List Value), LL pr w z cs → z.map partW = fs.map FD.w → fillSta fs ρ ps z = some y →
      ∃ ds : List Value, Instr.fill places cs.toArray (ps.map fun p => (p.1, σ p.2)) = some ds.toArray ∧ LL pr w y ds
  | [], z, y, cs, h, _, hf => by simp only [fillSta, Option.some.injEq] at hf; subst hf; exact ⟨cs, rfl, h⟩
  | (i, x) :: ps, z, y, cs, h, hw, hf => by
    simp only [fillSta] at hf
    cases hd : getFD fs i <;> rw [hd] at hf <;> simp only [reduceCtorEq] at hf
    rename_i f
    obtain ⟨hc, hf⟩ := cond_some hf
    have hx := hρ x f hc
    obtain ⟨pre, a, post, e1, e2, e3, e4, e5⟩ := LL.setF hx hw h hd hc
    obtain ⟨ds, h1, h2⟩ := fill_sta fs ρ σ hρ places hpl ps _ _ _ e4 e5 hf
    refine ⟨ds, ?_, h2⟩
    rw [List.map_cons, e1, fill_part places i (offAt fs i) (σ x) _ rfl (by rw [hpl i f hd, hx.len, partOK_w hc]) e2 e3]
    exact h1
theorem zs_w : ∀ fs : List FD, (fs.map FD.z).map partW = fs.map FD.w
  | [] => rfl
  | .one _ :: fs => by simp only [List.map_cons, zs_w fs]; rfl
  | .arr _ _ :: fs => by simp only [List.map_cons, zs_w fs]; rfl
end fill

section ops
variable {P : Program} {T : Tb} {L : Nat → Prop} {w0 : Base} {β : Nat → Option Nat} {st : St} {a : Act} {w : World}
theorem field_at {fs : Array Field} {n : Nat} (h : fs.toList.map (·.offset) = List.range n) {i : Nat} (hi : i < n) : ∃ f, fs[i]? = some f ∧ f.offset = i ∧ f ∈ fs.toList := by
  have hl : fs.toList.length = n := by rw [← List.length_map (f := (·.offset)), h, List.length_range]
  have hi' : i < fs.toList.length := by omega
  refine ⟨fs.toList[i], by rw [← Array.getElem?_toList, List.getElem?_eq_getElem hi'], ?_, List.getElem_mem _⟩
  have : (fs.toList.map (·.offset))[i]'(by simpa using hi') = i := by simp only [h, List.getElem_range]
  simpa using this
theorem run_mapM_size {fs : Array Field} (w : World) (h : ∀ f ∈ fs.toList, (P.info? f.type).map (·.size) = some 1) :
    (fs.mapM fun f => do pure (f.offset, ← sizeOf f.type) : Sem (Array (Nat × Nat))).run P w = .ok (fs.map fun f => (f.offset, 1)) w := by
  rw [Array.mapM_eq_mapM_toList]
  have : ∀ l : List Field, (∀ f ∈ l, (P.info? f.type).map (·.size) = some 1) → ((l.mapM fun f => do pure (f.offset, ← sizeOf f.type) : Sem (List (Nat × Nat))).run P w = .ok (l.map fun f => (f.offset, 1)) w) := by
    intro l
    induction l with
    | nil => intro _; rfl
    | cons f l ih =>
      intro hl
      have h1 := hl f (by simp)
      have : (sizeOf f.type).run P w = .ok 1 w := by
        cases hi : P.info? f.type with
        | none => simp [hi] at h1
        | some i => rw [hi] at h1; simp at h1; simp [sizeOf, typeInfo, hi, h1]
      rw [List.mapM_cons, Sem.run_bind, Sem.run_bind, this]
      simp only [Result.andThen_ok, Sem.run_pure, Sem.run_bind, ih fun f hf => hl f (by simp [hf]), List.map_cons]
  rw [Sem.run_map, this _ h]
  show Result.ok _ _ = _
  congr 1
  exact Array.toList_inj.1 (by simp)

def szAt (P : Program) (f : Field) : Nat := ((P.info? f.type).map (·.size)).getD 0
theorem run_mapM_sz {fs : Array Field} (w : World) (h : ∀ f ∈ fs.toList, (P.info? f.type).isSome = true) :
    (fs.mapM fun f => do pure (f.offset, ← sizeOf f.type) : Sem (Array (Nat × Nat))).run P w = .ok (fs.map fun f => (f.offset, szAt P f)) w := by
  rw [Array.mapM_eq_mapM_toList]
  have : ∀ l : List Field, (∀ f ∈ l, (P.info? f.type).isSome = true) → ((l.mapM fun f => do pure (f.offset, ← sizeOf f.type) : Sem (List (Nat × Nat))).run P w = .ok (l.map fun f => (f.offset, szAt P f)) w) := by
    intro l
    induction l with
    | nil => intro _; rfl
    | cons f l ih =>
      intro hl
      have h1 := hl f (by simp)
      have : (sizeOf f.type).run P w = .ok (szAt P f) w := by
        cases hi : P.info? f.type with
        | none => simp [hi] at h1
        | some i => simp [sizeOf, typeInfo, hi, szAt]
      rw [List.mapM_cons, Sem.run_bind, Sem.run_bind, this]
      simp only [Result.andThen_ok, Sem.run_pure, Sem.run_bind, ih fun f hf => hl f (by simp [hf]), List.map_cons]
  rw [Sem.run_map, this _ h]
  show Result.ok _ _ = _
  congr 1
  exact Array.toList_inj.1 (by simp)
theorem fdB.sz {f : Field} {d : FD} (h : fdB P f d = true) : (P.info? f.type).isSome = true ∧ szAt P f = d.w ∧ d.w ≠ 0 := by
  cases d with
  | one z =>
    simp only [fdB, Bool.and_eq_true] at h
    obtain ⟨_, h⟩ := h
    cases hu : P.underlying f.type <;> rw [hu] at h <;> try (simp at h; done)
    cases hi : P.info? f.type <;> rw [hi] at h <;> try (simp at h; done)
    simp only [Bool.and_eq_true, nbeq] at h
    exact ⟨rfl, by simp [szAt, hi, h.2, FD.w], by simp [FD.w]⟩
  | arr k n =>
    simp only [fdB] at h
    cases hi : P.info? f.type with
    | none => rw [hi] at h; split at h <;> simp_all
    | some i =>
      rw [hi] at h
      split at h
      · rename_i i' _ he
        injection he with he; subst he
        simp only [Bool.and_eq_true, nbeq, Bool.not_eq_true', Bool.eq_false_iff] at h
        exact ⟨rfl, by simp [szAt, hi, h.1, FD.w], fun h0 => h.2 (nbeq.2 h0)⟩
      · cases h
theorem fds_info : ∀ {l : List Field} {fs : List FD} {o : Nat}, fdsB P l fs o = true → ∀ f ∈ l, (P.info? f.type).isSome = true
  | [], _, _, _, f, hf => by cases hf
  | fd :: l, d :: fs, o, h, f, hf => by
    simp only [fdsB, Bool.and_eq_true] at h
    rcases List.mem_cons.1 hf with rfl | hf
    · exact (fdB.sz h.1.2).1
    · exact fds_info h.2 f hf
  | _ :: _, [], _, h, _, _ => by simp [fdsB] at h
theorem getFD_lt : ∀ {fs : List FD} {i : Nat} {f : FD}, getFD fs i = some f → i < fs.length
  | [], _, _, h => by simp [getFD] at h
  | _ :: _, 0, _, _ => by simp
  | _ :: fs, i + 1, f, h => by have := getFD_lt (fs := fs) (i := i) h; simp; omega
theorem VR_pc {x : AV} {y : Value} {f : FD} (hp : partOK f x = true) (h : VR L β w x y) : PC (protB L β) w x y.cells.toList := by
  cases f with
  | one z =>
    have hl : leaf x = true := by cases x <;> exact hp
    have hlr := VR.leaf hl h
    have hc := (hlr.cell hl).2
    cases x <;> first | exact ⟨y, by rw [hc], hlr⟩ | simp [leaf] at hl
  | arr k n =>
    cases x <;> simp only [partOK, Bool.false_eq_true] at hp
    cases (show y = _ from h); rfl

/-- a bound of a cut and its value -/
def Bd (v : Option Value) (q : Option Int) : Prop := (q = Option.none ∧ v = Option.none) ∨ (∃ k j, q = some j ∧ v = some (.int k j))
theorem run_bound {k : IntKind} {j : Int} {up : Nat} (w : World) (h0 : 0 ≤ j) (h1 : j ≤ up) (code : BoundsCode) : (Instr.sliceBound (.int k j) up code).run P w = .ok j.toNat w := by
  simp only [Instr.sliceBound, asIntOf, Sem.run_bind, Sem.run_pure, Result.andThen_ok]
  rw [if_pos ⟨h0, h1⟩]; rfl
def capOf : Option Int → Nat → Nat
  | some j, _ => j.toNat
  | Option.none, cap => cap
theorem run_bounds {vl vh vm : Option Value} {l h m : Option Int} (isSlice : Bool) (len cap : Nat) (w : World) (bl : Bd vl l) (bh : Bd vh h) (bm : Bd vm m) (M : Nat) (hM : M = capOf m cap)
    (c1 : 0 ≤ l.getD 0) (c2 : l.getD 0 ≤ h.getD len) (c3 : h.getD len ≤ M) (c4 : M ≤ cap) (c5 : (h.isSome || m.isNone) = true) (c6 : ∀ j, m = some j → 0 ≤ j) :
    (Instr.sliceBounds isSlice len cap vl vh vm).run P w = .ok ((l.getD 0).toNat, (h.getD len).toNat, M) w := by
  rcases bm with ⟨rfl, rfl⟩ | ⟨km, jm, rfl, rfl⟩
  · simp only [capOf] at hM
    subst hM
    rcases bh with ⟨rfl, rfl⟩ | ⟨kh, jh, rfl, rfl⟩
    · simp only [Option.getD_none] at c2 c3 ⊢
      rcases bl with ⟨rfl, rfl⟩ | ⟨kl, jl, rfl, rfl⟩
      · simp [Instr.sliceBounds]
      · simp only [Option.getD_some] at c1 c2 ⊢
        simp [Instr.sliceBounds, run_bound w c1 c2]
    · simp only [Option.getD_some] at c2 c3 ⊢
      have e := run_bound (P := P) (k := kh) w (show 0 ≤ jh by omega) c3
      rcases bl with ⟨rfl, rfl⟩ | ⟨kl, jl, rfl, rfl⟩
      · simp [Instr.sliceBounds, e]
      · simp only [Option.getD_some] at c1 c2 ⊢
        simp [Instr.sliceBounds, e, run_bound (P := P) (k := kl) (up := jh.toNat) w c1 (by omega)]
  · simp only [capOf] at hM
    subst hM
    have c7 := c6 jm rfl
    rcases bh with ⟨rfl, rfl⟩ | ⟨kh, jh, rfl, rfl⟩
    · simp at c5
    · simp only [Option.getD_some] at c2 c3 ⊢
      have e0 := run_bound (P := P) (k := km) (up := cap) w c7 (by omega)
      have e := run_bound (P := P) (k := kh) w (show 0 ≤ jh by omega) c3
      rcases bl with ⟨rfl, rfl⟩ | ⟨kl, jl, rfl, rfl⟩
      · simp [Instr.sliceBounds, e, e0]
      · simp only [Option.getD_some] at c1 c2 ⊢
        simp [Instr.sliceBounds, e, e0, run_bound (P := P) (k := kl) (up := jh.toNat) w c1 (by omega)]
theorem run_cut_array {t e : TypeId} {n : Nat} {z : Value} {vl vh : Option Value} {l h : Option Int} (w : World) (h1 : P.underlying t = some (.array n e)) (h3 : szP P e 1 z) (g : Nat) (bl : Bd vl l) (bh : Bd vh h)
    (c1 : 0 ≤ l.getD 0) (c2 : l.getD 0 ≤ h.getD n) (c3 : h.getD n ≤ n) (c4 : l.getD 0 < n) :
    (Instr.sliceAt t (.pointer (some ⟨g, 0, Option.none⟩)) vl vh Option.none).run P w = .ok (.slice (some ⟨g, (l.getD 0).toNat, Option.none⟩) ((h.getD n).toNat - (l.getD 0).toNat) (n - (l.getD 0).toNat)) w := by
  have hb := run_bounds (P := P) false n n w bl bh (.inl ⟨rfl, rfl⟩) n rfl c1 c2 c3 (Nat.le_refl _) (by simp) (by simp)
  have ne : ¬ n = (l.getD 0).toNat := by omega
  simp only [Instr.sliceAt, Sem.run_bind, run_underlying h1, Result.andThen_ok, Instr.sureAddr, Sem.run_pure, hb, run_size h3, if_neg ne, Nat.mul_one, add0, Nat.zero_add]
theorem run_cut_string {t : TypeId} {vl vh : Option Value} {l h : Option Int} (w : World) (h1 : P.underlying t = some .string) (s : ByteArray) (bl : Bd vl l) (bh : Bd vh h)
    (c1 : 0 ≤ l.getD 0) (c2 : l.getD 0 ≤ h.getD s.size) (c3 : h.getD s.size ≤ s.size) :
    (Instr.sliceAt t (.string s) vl vh Option.none).run P w = .ok (.string (s.extract (l.getD 0).toNat (h.getD s.size).toNat)) w := by
  have hb := run_bounds (P := P) false s.size s.size w bl bh (.inl ⟨rfl, rfl⟩) s.size rfl c1 c2 c3 (Nat.le_refl _) (by simp) (by simp)
  simp [Instr.sliceAt, Instr.slice, run_underlying h1, hb]
theorem add_spot {a : Addr} {n : Nat} (h : a.spot = Option.none) : (a.add n).spot = Option.none := by unfold Addr.add; split <;> first | exact h | rfl
theorem run_cut_slice {t e : TypeId} {z : Value} {k : IntKind} {xs : List Int} {A : Option Addr} {c : Nat} {pr : Nat → Prop} {vl vh vm : Option Value} {l h m : Option Int} (w : World) (h1 : P.underlying t = some (.slice e)) (h3 : szP P e 1 z) (hcap : xs.length ≤ c ∧ ∀ a, A = some a → a.spot = Option.none)
    (hrd : ∀ i, i < xs.length → ∃ a, A = some a ∧ w.cell? (a.add i) = some (.int k (xs.getD i 0)) ∧ ¬ pr a.block) (bl : Bd vl l) (bh : Bd vh h) (bm : Bd vm m)
    (c1 : 0 ≤ l.getD 0) (c2 : l.getD 0 ≤ h.getD xs.length) (c3 : h.getD xs.length ≤ m.getD xs.length) (c4 : m.getD xs.length ≤ xs.length) (c5 : (h.isSome || m.isNone) = true) :
    ∃ v, (Instr.sliceAt t (.slice A xs.length c) vl vh vm).run P w = .ok v w ∧ LiR pr w k ((xs.take (h.getD xs.length).toNat).drop (l.getD 0).toNat) v := by
  obtain ⟨hcap, hspot⟩ := hcap
  obtain ⟨M, hM⟩ : ∃ M, M = capOf m c := ⟨_, rfl⟩
  have cM : h.getD xs.length ≤ M ∧ M ≤ c := by
    cases m with
    | none => simp only [capOf] at hM; subst hM; simp only [Option.getD_none] at c3; omega
    | some j => simp only [capOf] at hM; subst hM; simp only [Option.getD_some] at c3 c4; omega
  have hb := run_bounds (P := P) true xs.length c w bl bh bm M hM c1 c2 cM.1 cM.2 c5 (fun j hj => by subst hj; simp only [Option.getD_some] at c3; omega)
  refine ⟨_, by simp only [Instr.sliceAt, Sem.run_bind, run_underlying h1, Result.andThen_ok, Instr.slice, hb, run_size h3, Sem.run_pure]; rfl, ?_⟩
  have hH : h.getD xs.length ≤ xs.length := by omega
  have hlen : ((xs.take (h.getD xs.length).toNat).drop (l.getD 0).toNat).length = (h.getD xs.length).toNat - (l.getD 0).toNat := by rw [List.length_drop, List.length_take]; omega
  refine ⟨_, _, by rw [hlen], ⟨by rw [hlen]; omega, fun ad ha => ?_⟩, fun i hi => ?_⟩
  · cases A with
    | none => (repeat' split at ha) <;> cases ha
    | some a0 => (repeat' split at ha) <;> (injection ha with ha; subst ha; first | exact hspot _ rfl | exact add_spot (hspot _ rfl))
  rw [hlen] at hi
  obtain ⟨ad, rfl, hcell, hp⟩ := hrd ((l.getD 0).toNat + i) (by omega)
  rw [if_neg (by omega)]
  refine ⟨ad.add ((l.getD 0).toNat * 1), rfl, ?_, by rw [add_block]; exact hp⟩
  have e1 : (ad.add ((l.getD 0).toNat * 1)).add i = ad.add ((l.getD 0).toNat + i) := by
    rw [Nat.mul_one]
    unfold Addr.add
    by_cases h1 : (l.getD 0).toNat = 0 <;> by_cases h2 : i = 0 <;> simp [h1, h2] <;> omega
  rw [e1, hcell]
  simp only [List.getD_eq_getElem?_getD, List.getElem?_drop, List.getElem?_take]
  rw [if_pos (by omega)]

theorem fill_li {k : IntKind} (ρ : Operand → AV) (σ : Operand → Value) (hρ : ∀ x j b, ρ x = .v (.int j b) → σ x = .int j b) : ∀ (ps : List (Nat × Operand)) (z y : List Int), fillLi k ρ ps z = some y →
    Instr.fill (fun i => some (i * 1, 1)) (z.map (Value.int k)).toArray (ps.map fun p => (p.1, σ p.2)) = some (y.map (Value.int k)).toArray ∧ y.length = z.length
  | [], z, y, h => by
    simp only [fillLi, Option.some.injEq] at h
    subst h; exact ⟨rfl, rfl⟩
  | (i, x) :: r, z, y, h => by
    simp only [fillLi] at h
    cases hx : ρ x <;> rw [hx] at h <;> (try simp only [reduceCtorEq] at h)
    rename_i v
    cases v <;> (try simp only [reduceCtorEq] at h)
    rename_i k' c
    obtain ⟨hc, h2⟩ := cond_some h
    simp only [Bool.and_eq_true, ikEq_iff, nblt] at hc
    obtain ⟨rfl, hi⟩ := hc
    obtain ⟨h3, h4⟩ := fill_li ρ σ hρ r _ _ h2
    refine ⟨?_, by rw [h4, List.length_set]⟩
    rw [List.map_cons, fill_cons (fun i => some (i * 1, 1)) _ i (i * 1) (σ x) _ rfl (by rw [hρ x _ _ hx]; rfl) (by simp; omega)]
    rw [← h3, hρ x _ _ hx]
    congr 1
    simp
/-- what a test or a sum answers leads nowhere -/
theorem ibop_noRef {op : BinOp} {k : IntKind} {a b : Int} {r : AV} (h : ibop op k a b some = some r) : noRef r = true := by
  unfold ibop at h
  (repeat' split at h) <;> first | (cases h; done) | (injection h with h; subst h; rfl) | (obtain ⟨_, h2⟩ := cond_some h; injection h2 with h2; subst h2; rfl) | (obtain ⟨_, h2⟩ := cond_none h; injection h2 with h2; subst h2; rfl)
theorem ebop_noRef {op : BinOp} {x r : AV} (h : ebop op x some = some r) : noRef r = true := by
  unfold ebop at h
  (repeat' split at h) <;> first | (cases h; done) | (injection h with h; subst h; rfl)
theorem bop_noRef {T : Tb} {op : BinOp} {xt : TypeId} {x y r : AV} (h : bop T op xt x y some = some r) : noRef r = true := by
  unfold bop at h
  (repeat' split at h) <;> first | (cases h; done) | (injection h with h; subst h; rfl) | (obtain ⟨_, h2⟩ := cond_some h; first | (cases h2; done) | (injection h2 with h2; subst h2; rfl) | exact ibop_noRef h2) | (obtain ⟨_, h2⟩ := cond_none h; injection h2 with h2; subst h2; rfl) | exact ibop_noRef h
/-- a row cut behind -/
theorem run_cut_row {t e : TypeId} {z : Value} {len cap g : Nat} {vh : Option Value} {n : Int} (w : World) (h1 : P.underlying t = some (.slice e)) (h3 : szP P e 1 z) (bh : Bd vh (some n)) (c1 : 0 ≤ n) (c2 : n ≤ len) (c3 : len ≤ cap) :
    (Instr.sliceAt t (.slice (some ⟨g, 0, Option.none⟩) len cap) Option.none vh Option.none).run P w = .ok (.slice (some ⟨g, 0, Option.none⟩) n.toNat cap) w := by
  have hb := run_bounds (P := P) true len cap w (.inl ⟨rfl, rfl⟩) bh (.inl ⟨rfl, rfl⟩) cap rfl (by simp) (by simpa using c1) (by simp; omega) (Nat.le_refl _) (by simp) (by simp)
  by_cases hc : cap = 0
  · subst hc
    simp [Instr.sliceAt, Instr.slice, run_underlying h1, hb, run_size h3, add0]
  · simp [Instr.sliceAt, Instr.slice, run_underlying h1, hb, run_size h3, add0, hc]
theorem run_append_empty {t : TypeId} {e ty : TypeId} {i : TypeInfo} (ht : P.underlying t = some (.slice e)) (hi : P.info? e = some i) (w : World) (b : Option Addr) (n cap c : Nat) (h : n ≤ cap) :
    (Builtin.append_ #[t, t] ty #[.slice b n cap, .slice Option.none 0 c]).run P w = .ok (.slice b n cap) w := by
  cases b <;> simp [Builtin.append_, run_underlying ht, sizeOf, typeInfo, hi, Builtin.lenOf, Builtin.firstCells, h, storeCells]
/-- an operation that answers a value -/
theorem fin_val (h : SR L w0 β st a w) {o : Oper} {out : Out} {next : Act → World → Prop} {Q : Exit → Act → World → Prop} (hn : ∀ β' a' w', SR L w0 β' (apply o st out) a' w' → next a' w') :
    ∀ (x : AV) (v : Value), out = .val x → (execOp a.eval o).run P w = .ok (.value v) w → VR L β w x v → RR st.heap β 0 w x v → o.wp P a w next Q := by
  intro x v hx hrun hv hrr
  subst hx
  exact wp_val hrun (hn β _ _ (h.put o.dst hv hrr))
/-- an operation that makes a row -/
theorem fin_row (h : SR L w0 β st a w) {o : Oper} {out : Out} {next : Act → World → Prop} {Q : Exit → Act → World → Prop} (hn : ∀ β' a' w', SR L w0 β' (apply o st out) a' w' → next a' w') :
    ∀ (d : Nat) (ks : List Nat) (k : IntKind) (e : TypeId) (xs : List Int) (v : Value) (w' : World), o.dst = some d → out = .row ks k e xs → getH st.heap d = Option.none → d < st.heap.length →
      (∀ b ∈ ks, ∃ k e xs, getH st.heap b = some (.row k e xs)) → (execOp a.eval o).run P w = .ok (.value v) w' → w'.ownsRow 0 e 1 v xs.length (xs.map (Value.int k)) →
      ∀ {r : Option Nat}, w.grownBy w' r → (∀ g, r = some g → ∃ b ∈ ks, β b = some g) → (∀ g, v.ownBlock = some g → (∃ b ∈ ks, β b = some g) ∨ w.heap.size ≤ g) → o.wp P a w next Q := by
  intro d ks k e xs v w' hd0 ho hd hl hks hrun hown r hg hr1 hfr
  subst ho
  obtain ⟨β', h'⟩ := h.rowOut hd hl hks hown hg.os hg.tape hg.output hg.size (fun g hgs hgb => hg.block g hgs (fun e1 => by
    obtain ⟨b, hb1, hb2⟩ := hr1 g e1.symm
    exact hgb b hb1 hb2)) hfr
  refine wp_val hrun ?_
  rw [hd0]
  refine hn β' _ _ ?_
  simp only [apply, hd0]
  exact h'
theorem load_sound (hT : TOK P T) (h : SR L w0 β st a w) {dst : Option Tmp} {type : TypeId} {pos : String} {after : Array Edge} {guard : Option (Nat × Bool)} (t : TypeId) (x : Operand) {out : Out}
    (hr : res (R := Out) T (fun _ _ _ => Option.none) ⟨dst, .load t x, type, pos, after, guard⟩ st.ev st.heap some = some out)
    {next : Act → World → Prop} {Q : Exit → Act → World → Prop} (hn : ∀ β' a' w', SR L w0 β' (apply ⟨dst, .load t x, type, pos, after, guard⟩ st out) a' w' → next a' w') : Oper.wp P ⟨dst, .load t x, type, pos, after, guard⟩ a w next Q := by
  have val := fin_val (P := P) (Q := Q) h hn
  have rowfin := fin_row (P := P) (Q := Q) h hn
  simp only [res, reduceCtorEq] at hr
  have hx := h.ev x
  cases hxv : st.ev x <;> rw [hxv] at hr hx <;> (try simp only [reduceCtorEq] at hr)
  case ptr b off =>
    obtain ⟨g, hg, hax⟩ := hx
    cases hob : getH st.heap b <;> rw [hob] at hr <;> simp only [reduceCtorEq] at hr
    rename_i ob
    cases hw : whole (T t) ob off <;> rw [hw] at hr <;> simp only [reduceCtorEq, Option.some.injEq] at hr
    rename_i y
    obtain ⟨hnr, hr⟩ := cond_some hr
    injection hr with hr
    obtain ⟨ob2, hob2, ho⟩ := h.heap b g hg
    rw [hob] at hob2; injection hob2 with hob2; subst hob2
    obtain ⟨v, hv1, hv2⟩ := run_whole (hT t) ho hw
    exact val _ v hr.symm (by simp [execOp, hax, Instr.loadAt, Instr.sureAddr, hv1]) hv2 (RR.free (Bool.and_eq_true_iff.1 hnr).1)
  case pidx b m i =>
    obtain ⟨g, hg, hax, hm⟩ := hx
    have ht := hT t
    cases htd : T t <;> rw [htd] at hr ht <;> (try simp only [reduceCtorEq] at hr)
    cases hob : getH st.heap b <;> rw [hob] at hr <;> (try simp only [reduceCtorEq] at hr)
    rename_i ob
    cases ob <;> (try simp only [reduceCtorEq] at hr)
    rename_i k' k n y
    obtain ⟨hc, hr2⟩ := cond_some hr
    injection hr2 with hr2
    obtain ⟨ob2, hob2, ho⟩ := h.heap b g hg
    rw [hob] at hob2; injection hob2 with hob2; subst hob2
    obtain ⟨t', hg2⟩ := ho
    have hmn : m ≤ n := Nat.le_of_ble_eq_true (Bool.and_eq_true_iff.1 hc).1
    have hcell : w.cell? ⟨g, i.toNat, Option.none⟩ = some (.int k (y.rd i)) := by
      rw [cell_of_row w g _ _ t' _ hg2]
      have : i.toNat < y.1.length := by rw [y.2]; omega
      simp [Vec.rd, List.getD_eq_getElem?_getD, this]
    exact val _ _ hr2.symm (by simp [execOp, hax, Instr.loadAt, Instr.sureAddr, loadVar, run_isAgg ht.1, notAgg, hcell]) rfl trivial
  case lidx k xs i =>
    obtain ⟨ad, hax, hcell, _⟩ := hx
    have ht := hT t
    cases htd : T t <;> rw [htd] at hr ht <;> (try simp only [reduceCtorEq] at hr)
    injection hr with hr
    exact val _ _ hr.symm (by simp [execOp, hax, Instr.loadAt, Instr.sureAddr, loadVar, run_isAgg ht.1, notAgg, hcell]) rfl trivial
  case ridx b i =>
    have ht := hT t
    cases htd : T t <;> rw [htd] at hr ht <;> (try simp only [reduceCtorEq] at hr)
    cases hob : getH st.heap b <;> rw [hob] at hr <;> (try simp only [reduceCtorEq] at hr)
    rename_i ob
    cases ob <;> (try simp only [reduceCtorEq] at hr)
    rename_i k' k e xs
    obtain ⟨hc, hr2⟩ := cond_some hr
    injection hr2 with hr2
    have hxr := h.evR x
    rw [hxv] at hxr
    obtain ⟨ob2, hob2, _, hrow⟩ := hxr
    rw [hob] at hob2; injection hob2 with hob2
    obtain ⟨hi, g, hg, hax, c, hown⟩ := hrow k e xs hob2.symm
    have hcell : w.cell? ⟨g, i.toNat, Option.none⟩ = some (.int k (lrd xs i)) := by
      have := hown.cells (g := g) rfl i.toNat (.int k (lrd xs i)) (by simp [lrd, hi])
      rwa [add0, Nat.zero_add] at this
    exact val _ _ hr2.symm (by simp [execOp, hax, Instr.loadAt, Instr.sureAddr, loadVar, run_isAgg ht.1, notAgg, hcell]) rfl trivial

theorem buildSlice_sound (hT : TOK P T) (h : SR L w0 β st a w) {dst : Option Tmp} {type : TypeId} {pos : String} {after : Array Edge} {guard : Option (Nat × Bool)} (t : TypeId) (n : Nat) (ps : Array (Nat × Operand)) {out : Out}
    (hr : res (R := Out) T (fun _ _ _ => Option.none) ⟨dst, .buildSlice t n ps, type, pos, after, guard⟩ st.ev st.heap some = some out)
    {next : Act → World → Prop} {Q : Exit → Act → World → Prop} (hn : ∀ β' a' w', SR L w0 β' (apply ⟨dst, .buildSlice t n ps, type, pos, after, guard⟩ st out) a' w' → next a' w') : Oper.wp P ⟨dst, .buildSlice t n ps, type, pos, after, guard⟩ a w next Q := by
  have val := fin_val (P := P) (Q := Q) h hn
  have rowfin := fin_row (P := P) (Q := Q) h hn
  simp only [res, reduceCtorEq] at hr
  cases dst <;> simp only [reduceCtorEq] at hr
  rename_i d
  have ht := hT t
  cases hd : getH st.heap d <;> rw [hd] at hr <;> (try simp only [reduceCtorEq] at hr)
  cases htd : T t <;> rw [htd] at hr ht <;> (try simp only [reduceCtorEq] at hr)
  rename_i k e
  cases hf : fillLi k st.ev ps.toList (List.replicate n 0) <;> rw [hf] at hr <;> (try simp only [reduceCtorEq] at hr)
  rename_i xs
  obtain ⟨hc, hr2⟩ := cond_some hr
  injection hr2 with hr2
  simp only [Bool.and_eq_true, nblt, Nat.ble_eq] at hc
  obtain ⟨h1, h2, h3, h4, _⟩ := ht
  obtain ⟨ie, hi1, hi2, hi3⟩ := sz_parts h3
  obtain ⟨hfl, hlen⟩ := fill_li st.ev a.eval (fun x j b hx => by have := h.ev x; rw [hx] at this; exact this) ps.toList _ _ hf
  have hlen' : xs.length = n := by rw [hlen]; simp
  have hzc : (Value.int k 0).cells = #[.int k 0] := rfl
  have harr : ((Array.range n).map fun i => (#[Value.int k 0] : Array Value)[i % 1]!) = (List.replicate n (Value.int k 0)).toArray := by
    apply Array.ext
    · simp
    · intro i h1 h2; simp [Nat.mod_one]
  rw [List.map_replicate] at hfl
  have hrun : (Instr.buildSlice t n (ps.map fun (p : Nat × Operand) => (p.1, a.eval p.2))).run P w = .ok (.slice (some ⟨w.heap.size, 0, Option.none⟩) n n) (w.alloc (.cells (xs.map (Value.int k)).toArray e)) := by
    by_cases hn0 : n = 0
    · subst hn0
      have hx0 : xs = [] := List.eq_nil_of_length_eq_zero hlen'
      subst hx0
      have hps : ps.toList = [] := by
        cases hp : ps.toList with
        | nil => rfl
        | cons q r =>
          obtain ⟨i, x⟩ := q
          rw [hp] at hf
          simp only [fillLi] at hf
          cases hx : st.ev x <;> rw [hx] at hf <;> (try simp only [reduceCtorEq] at hf)
          rename_i v
          cases v <;> (try simp only [reduceCtorEq] at hf)
          obtain ⟨hc, _⟩ := cond_some hf
          simp [Nat.blt] at hc
      simp [Instr.buildSlice, run_underlying h1, sizeOf, typeInfo, hi1, hi2, newRow, hps, Instr.fill, show Array.range 0 = #[] from rfl]
    · refine run_buildSlice w t e n _ _ ie (.int k 0) h1 hi1 hi3 (by rw [hi2]; omega) (by rw [hi2]; omega) ?_
      rw [hi2]
      show Instr.fill (fun i => some (i * 1, 1)) ((Array.range (n * 1)).map fun i => (#[Value.int k 0] : Array Value)[i % 1]!) _ = _
      rw [Nat.mul_one n, harr, Array.toList_map]
      exact hfl
  refine rowfin d [] k e xs (.slice (some ⟨w.heap.size, 0, Option.none⟩) n n) _ rfl hr2.symm hd hc.1 (fun b hb => by simp at hb) (by simp only [execOp, Sem.run_bind]; rw [show (fun (p : Nat × Operand) => match p with | (i, x) => (i, a.eval x)) = (fun p => (p.1, a.eval p.2)) from rfl, hrun]; rfl) ?_ (r := Option.none) (World.grownBy_alloc w _ Option.none) (fun g hg => by cases hg) (fun g hg => .inr (by simp [Value.ownBlock] at hg; omega))
  have := World.ownsRow_lit (base := 0) (size := 1) (e := e) w (xs.map (Value.int k)).toArray n (Nat.zero_le _) (by unfold maxLen; omega) (by simp [hlen'])
  rw [hlen']
  exact this

theorem makeSlice_sound (hT : TOK P T) (h : SR L w0 β st a w) {dst : Option Tmp} {type : TypeId} {pos : String} {after : Array Edge} {guard : Option (Nat × Bool)} (t : TypeId) (l c : Operand) {out : Out}
    (hr : res (R := Out) T (fun _ _ _ => Option.none) ⟨dst, .makeSlice t l c, type, pos, after, guard⟩ st.ev st.heap some = some out)
    {next : Act → World → Prop} {Q : Exit → Act → World → Prop} (hn : ∀ β' a' w', SR L w0 β' (apply ⟨dst, .makeSlice t l c, type, pos, after, guard⟩ st out) a' w' → next a' w') : Oper.wp P ⟨dst, .makeSlice t l c, type, pos, after, guard⟩ a w next Q := by
  have val := fin_val (P := P) (Q := Q) h hn
  have rowfin := fin_row (P := P) (Q := Q) h hn
  simp only [res, reduceCtorEq] at hr
  cases dst <;> simp only [reduceCtorEq] at hr
  rename_i d
  have ht := hT t
  have hl := h.ev l
  cases hd : getH st.heap d <;> rw [hd] at hr <;> (try simp only [reduceCtorEq] at hr)
  cases htd : T t <;> rw [htd] at hr ht <;> (try simp only [reduceCtorEq] at hr)
  rename_i k e
  cases hlv : st.ev l <;> rw [hlv] at hr hl <;> (try simp only [reduceCtorEq] at hr)
  rename_i v
  cases v <;> (try simp only [reduceCtorEq] at hr)
  rename_i ik n
  obtain ⟨hc0, hr1⟩ := cond_some hr
  obtain ⟨hc1, hr2⟩ := cond_some hr1
  obtain ⟨hc2, hr3⟩ := cond_some hr2
  injection hr3 with hr3
  rw [leI_iff] at hc1 hc2
  simp only [Bool.and_eq_true, nblt] at hc0
  have hlc : l = c := by
    have := hc0.2
    cases l <;> cases c <;> simp [sameOp] at this
    rw [this]
  subst hlc
  obtain ⟨h1, h2, h3, h4, h5⟩ := ht
  obtain ⟨ie, hi1, hi2, hi3⟩ := sz_parts h3
  rw [hi1] at h5
  simp only [Option.map_some, Option.some.injEq, Nat.ble_eq] at h5
  have hal : a.eval l = .int ik n := hl
  obtain ⟨m, rfl⟩ := Int.eq_ofNat_of_zero_le hc1
  have hm : m ≤ 17592186044416 := by unfold rowMax at hc2; omega
  have hb8 : ie.bytes * m ≤ 8 * m := Nat.mul_le_mul_right _ h5
  obtain ⟨w', hrun, hown, hgr⟩ := run_make_full (P := P) w 0 t e ie (.int k 0) 1 h1 hi1 hi3 hi2 ik ik m (by omega) (by unfold maxLen; omega) (Nat.zero_le _)
  refine rowfin d [] k e (List.replicate m 0) _ w' rfl (by rw [hr3.symm]; simp) hd hc0.1 (fun b hb => by simp at hb) (by simp only [execOp, hal, Sem.run_bind, hrun]; rfl) ?_ (r := Option.none) hgr (fun g hg => by cases hg) (fun g hg => .inr (by simp [Value.ownBlock] at hg; omega))
  have : (madeCells (Value.int k 0).cells (m * 1)).toList = (List.replicate m (0 : Int)).map (Value.int k) := by
    simp only [madeCells, Value.cells, Nat.mul_one, List.map_replicate]
    apply List.ext_getElem?
    intro i
    by_cases hi : i < m
    · simp [hi, Nat.mod_one]
    · simp [hi]
  rw [this] at hown
  simpa using hown

theorem store_sound (hT : TOK P T) (h : SR L w0 β st a w) {dst : Option Tmp} {type : TypeId} {pos : String} {after : Array Edge} {guard : Option (Nat × Bool)} (t : TypeId) (x y : Operand) {out : Out}
    (hr : res (R := Out) T (fun _ _ _ => Option.none) ⟨dst, .store t x y, type, pos, after, guard⟩ st.ev st.heap some = some out)
    {next : Act → World → Prop} {Q : Exit → Act → World → Prop} (hn : ∀ β' a' w', SR L w0 β' (apply ⟨dst, .store t x y, type, pos, after, guard⟩ st out) a' w' → next a' w') : Oper.wp P ⟨dst, .store t x y, type, pos, after, guard⟩ a w next Q := by
  have val := fin_val (P := P) (Q := Q) h hn
  have rowfin := fin_row (P := P) (Q := Q) h hn
  simp only [res, reduceCtorEq] at hr
  cases dst <;> simp only [reduceCtorEq] at hr
  have hx := h.ev x
  have hy := h.ev y
  have fin : ∀ (b g off : Nat) (ob' : OB) (w' : World), out = .store b ob' → a.eval x = .pointer (some ⟨g, off, Option.none⟩) → (storeVar t ⟨g, off, Option.none⟩ (a.eval y)).run P w = .ok () w' →
      SR L w0 β ⟨st.slots, setH st.heap b (some ob')⟩ a w' → Oper.wp P ⟨Option.none, .store t x y, type, pos, after, guard⟩ a w next Q := by
    intro b g off ob' w' ho hax hrun hsr
    subst ho
    exact wp_skip' (w' := w') (by simp [execOp, hax, Instr.storeAt, Instr.sureAddr, hrun]) (hn β _ _ hsr)
  cases hxv : st.ev x <;> rw [hxv] at hr hx <;> (try simp only [reduceCtorEq] at hr)
  case ptr b off =>
    obtain ⟨g, hg, hax⟩ := hx
    cases hob : getH st.heap b <;> rw [hob] at hr <;> simp only [reduceCtorEq] at hr
    rename_i ob
    cases hw : writ (T t) ob off (st.ev y) <;> rw [hw] at hr <;> simp only [reduceCtorEq, Option.some.injEq] at hr
    rename_i ob'
    obtain ⟨_, hr⟩ := cond_some hr
    injection hr with hr
    obtain ⟨w', h1, h2⟩ := run_writ h (hT t) hg hob hw hy
    exact fin b g off ob' w' hr.symm hax h1 h2
  case pidx b m i =>
    obtain ⟨g, hg, hax, hm⟩ := hx
    have ht := hT t
    cases htd : T t <;> rw [htd] at hr ht <;> (try simp only [reduceCtorEq] at hr)
    cases hob : getH st.heap b <;> rw [hob] at hr <;> (try simp only [reduceCtorEq] at hr)
    rename_i ob
    cases ob <;> (try simp only [reduceCtorEq] at hr)
    rename_i k0 k n z
    cases hyv : st.ev y <;> rw [hyv] at hr hy <;> (try simp only [reduceCtorEq] at hr)
    rename_i v
    cases v <;> (try simp only [reduceCtorEq] at hr)
    rename_i k' c
    obtain ⟨hc, hr2⟩ := cond_some hr
    injection hr2 with hr2
    simp only [Bool.and_eq_true, ikEq_iff, Nat.ble_eq] at hc
    obtain ⟨⟨hk, hmn⟩, _⟩ := hc
    subst hk
    obtain ⟨ob2, hob2, ho⟩ := h.heap b g hg
    rw [hob] at hob2; injection hob2 with hob2; subst hob2
    obtain ⟨t', hg2⟩ := ho
    have hay : a.eval y = .int k c := hy
    have hlt : i.toNat < n := by omega
    have hr3 := run_put (P := P) (off := i.toNat) (v := .int k c) ht.2 hg2 rfl (by simp [z.2]; omega) (by simp [Value.cells, Value.oneCell'])
    refine fin b g i.toNat _ _ hr2.symm hax (by rw [hay]; exact hr3) (h.put_row hg hg2 ?_ (fun ob2 hob2 => by rw [hob] at hob2; injection hob2 with hob2; subst hob2; rfl))
    show _ = _
    simp only [Value.cells, Vec.st, List.toList_toArray]
    congr 1
    rw [List.map_set, List.set_eq_take_append_cons_drop, if_pos (by simp [z.2]; omega)]
    simp
  case ridx b i =>
    have ht := hT t
    cases htd : T t <;> rw [htd] at hr ht <;> (try simp only [reduceCtorEq] at hr)
    cases hob : getH st.heap b <;> rw [hob] at hr <;> (try simp only [reduceCtorEq] at hr)
    rename_i ob
    cases ob <;> (try simp only [reduceCtorEq] at hr)
    rename_i k0 k e xs
    cases hyv : st.ev y <;> rw [hyv] at hr hy <;> (try simp only [reduceCtorEq] at hr)
    rename_i v
    cases v <;> (try simp only [reduceCtorEq] at hr)
    rename_i k' c
    obtain ⟨hc, hr2⟩ := cond_some hr
    injection hr2 with hr2
    simp only [Bool.and_eq_true, ikEq_iff] at hc
    obtain ⟨hk, _⟩ := hc
    subst hk
    have hxr := h.evR x
    rw [hxv] at hxr
    obtain ⟨ob2, hob2, _, hrow⟩ := hxr
    rw [hob] at hob2; injection hob2 with hob2
    obtain ⟨hi, g, hg, hax, cc, hown⟩ := hrow k e xs hob2.symm
    rcases hown.2 with ⟨h0, _⟩ | ⟨g2, cap, cur, h0, hbg, hg2, hnc, hcm, hcs, htake⟩
    · cases h0
    · injection h0 with h0 _ _
      injection h0 with h0
      injection h0 with h0 _ _
      subst h0
      have hay : a.eval y = .int k c := hy
      rw [Nat.mul_one] at hcs htake
      have hr3 := run_put (P := P) (off := i.toNat) (v := .int k c) ht.2 hg2 rfl (by omega) (by simp [Value.cells, Value.oneCell'])
      refine fin b g i.toNat _ _ hr2.symm hax (by rw [hay]; exact hr3) ?_
      have hset : (cur.toList.take i.toNat ++ (Value.int k c).cells.toList ++ cur.toList.drop (i.toNat + 1)) = cur.toList.set i.toNat (.int k c) := by
        rw [List.set_eq_take_append_cons_drop, if_pos (by simp; omega)]
        simp [Value.cells]
      rw [hset]
      refine h.rowWrite hg hob (List.length_set ..) (fun g' _ hg' => setRow_other w g g' _ hg') (Nat.le_of_eq (setRow_size w g _).symm) rfl rfl rfl hg2 (setRow_heap w g cur _ e (0, 0) hg2) (by simp) ?_
      rw [List.length_set, List.map_set, ← htake]
      simp [List.take_set]

theorem indexAddr_sound (hT : TOK P T) (h : SR L w0 β st a w) {dst : Option Tmp} {type : TypeId} {pos : String} {after : Array Edge} {guard : Option (Nat × Bool)} (t : TypeId) (x i : Operand) {out : Out}
    (hr : res (R := Out) T (fun _ _ _ => Option.none) ⟨dst, .indexAddr t x i, type, pos, after, guard⟩ st.ev st.heap some = some out)
    {next : Act → World → Prop} {Q : Exit → Act → World → Prop} (hn : ∀ β' a' w', SR L w0 β' (apply ⟨dst, .indexAddr t x i, type, pos, after, guard⟩ st out) a' w' → next a' w') : Oper.wp P ⟨dst, .indexAddr t x i, type, pos, after, guard⟩ a w next Q := by
  have val := fin_val (P := P) (Q := Q) h hn
  have rowfin := fin_row (P := P) (Q := Q) h hn
  simp only [res, reduceCtorEq] at hr
  have hx := h.ev x
  have hi := h.ev i
  have ht := hT t
  cases htd : T t <;> rw [htd] at hr ht <;> (try simp only [reduceCtorEq] at hr)
  case arr k n =>
    cases hxv : st.ev x <;> rw [hxv] at hr hx <;> (try simp only [reduceCtorEq] at hr)
    rename_i b off
    cases off <;> (try simp only [reduceCtorEq] at hr)
    cases hiv : st.ev i <;> rw [hiv] at hr hi <;> (try simp only [reduceCtorEq] at hr)
    rename_i v
    cases v <;> (try simp only [reduceCtorEq] at hr)
    rename_i ik j
    obtain ⟨hc1, hr2⟩ := cond_some hr
    obtain ⟨hc2, hr3⟩ := cond_some hr2
    injection hr3 with hr3
    rw [leI_iff] at hc1
    rw [ltI_iff] at hc2
    obtain ⟨e, h1, h2, h3, h4, _⟩ := ht
    obtain ⟨g, hg, hax⟩ := hx
    have hai : a.eval i = .int ik j := hi
    have hxr := h.evR x
    rw [hxv] at hxr
    refine val _ (.pointer (some ⟨g, j.toNat, Option.none⟩)) hr3.symm ?_ ⟨g, hg, rfl, by omega⟩ hxr
    simp only [execOp, hax, hai, Instr.indexAt, asIntOf, Sem.run_bind, Sem.run_pure, Result.andThen_ok, run_underlying h1, Instr.sureAddr, hc1, hc2, and_self, if_true, run_size h3, Nat.mul_one, add0, Nat.zero_add]
  case sl k e =>
    obtain ⟨h1, h2, h3, h4, _⟩ := ht
    cases hxv : st.ev x <;> rw [hxv] at hr hx <;> (try simp only [reduceCtorEq] at hr)
    case li k' xs =>
      cases hiv : st.ev i <;> rw [hiv] at hr hi <;> (try simp only [reduceCtorEq] at hr)
      rename_i v
      cases v <;> (try simp only [reduceCtorEq] at hr)
      rename_i ik j
      obtain ⟨hc1, hr2⟩ := cond_some hr
      obtain ⟨hc2, hr3⟩ := cond_some hr2
      injection hr3 with hr3
      rw [leI_iff] at hc1
      rw [ltI_iff] at hc2
      obtain ⟨A, c, hax, hcap, hrd⟩ := hx
      obtain ⟨ad, rfl, hcell, hp⟩ := hrd j.toNat (by omega)
      have hai : a.eval i = .int ik j := hi
      refine val _ (.pointer (some (ad.add j.toNat))) hr3.symm ?_ ⟨_, rfl, hcell, by rw [add_block]; exact hp⟩ trivial
      simp only [execOp, hax, hai, Instr.indexAt, asIntOf, Sem.run_bind, Sem.run_pure, Result.andThen_ok, run_underlying h1, hc1, hc2, and_self, if_true, run_size h3, Nat.mul_one]
    case own b =>
      cases hiv : st.ev i <;> rw [hiv] at hr hi <;> (try simp only [reduceCtorEq] at hr)
      rename_i v
      cases v <;> (try simp only [reduceCtorEq] at hr)
      rename_i ik j
      simp only [rowFor, baseOf] at hr
      cases hob : getH st.heap b <;> rw [hob] at hr <;> (try simp only [reduceCtorEq] at hr)
      rename_i ob
      cases ob <;> (try simp only [reduceCtorEq] at hr)
      rename_i k' e' xs
      obtain ⟨hc1, hr2⟩ := cond_some hr
      obtain ⟨hc2, hr3⟩ := cond_some hr2
      injection hr3 with hr3
      rw [leI_iff] at hc1
      rw [ltI_iff] at hc2
      have hxr := h.evR x
      rw [hxv] at hxr
      obtain ⟨ob2, hob2, _, hrow⟩ := hxr
      rw [hob] at hob2; injection hob2 with hob2
      obtain ⟨hown, hblk⟩ := hrow k' e' xs hob2.symm
      have hown2 := hown
      rcases hown.2 with ⟨_, h0⟩ | ⟨g, cap, cur, hax, hbg, hg, hnc, hcm, hcs, htake⟩
      · omega
      · have hai : a.eval i = .int ik j := hi
        have hβ : β b = some g := by rw [← hblk, hax]; rfl
        rw [hax] at hown2
        refine val _ (.pointer (some ⟨g, j.toNat, Option.none⟩)) hr3.symm ?_ trivial ⟨_, hob, rfl, fun k2 e2 xs2 he => ?_⟩
        · simp only [execOp, hax, hai, Instr.indexAt, asIntOf, Sem.run_bind, Sem.run_pure, Result.andThen_ok, run_underlying h1, hc1, hc2, and_self, if_true, run_size h3, Nat.mul_one, add0, Nat.zero_add]
        · injection he with a1 a2 a3
          subst a1; subst a2; subst a3
          exact ⟨by omega, g, hβ, rfl, cap, hown2⟩

theorem slice_sound (hT : TOK P T) (h : SR L w0 β st a w) {dst : Option Tmp} {type : TypeId} {pos : String} {after : Array Edge} {guard : Option (Nat × Bool)} (t : TypeId) (x : Operand) (lo hi mx : Option Operand) {out : Out}
    (hr : res (R := Out) T (fun _ _ _ => Option.none) ⟨dst, .slice t x lo hi mx, type, pos, after, guard⟩ st.ev st.heap some = some out)
    {next : Act → World → Prop} {Q : Exit → Act → World → Prop} (hn : ∀ β' a' w', SR L w0 β' (apply ⟨dst, .slice t x lo hi mx, type, pos, after, guard⟩ st out) a' w' → next a' w') : Oper.wp P ⟨dst, .slice t x lo hi mx, type, pos, after, guard⟩ a w next Q := by
  have val := fin_val (P := P) (Q := Q) h hn
  have rowfin := fin_row (P := P) (Q := Q) h hn
  simp only [res, reduceCtorEq] at hr
  have hx := h.ev x
  have ht := hT t
  have hbnd : ∀ (y : Option Operand) (q : Option Int), bnd st.ev y = some q → Bd (y.map a.eval) q := by
    intro y q hq
    cases y with
    | none => simp only [bnd, Option.some.injEq] at hq; exact .inl ⟨hq.symm, rfl⟩
    | some z =>
      simp only [bnd] at hq
      have hz := h.ev z
      cases hzv : st.ev z <;> rw [hzv] at hq hz <;> (try simp only [reduceCtorEq] at hq)
      rename_i v
      cases v <;> (try simp only [reduceCtorEq] at hq)
      rename_i k j
      injection hq with hq
      exact .inr ⟨k, j, hq.symm, by rw [Option.map_some, show a.eval z = _ from hz]⟩
  cases hlo : bnd st.ev lo with
  | none => rw [hlo] at hr; (repeat' split at hr) <;> simp_all
  | some l =>
  cases hhi : bnd st.ev hi with
  | none => rw [hhi] at hr; (repeat' split at hr) <;> simp_all
  | some hh =>
  cases hmx : bnd st.ev mx with
  | none => rw [hmx] at hr; (repeat' split at hr) <;> simp_all
  | some m =>
  rw [hlo, hhi, hmx] at hr
  have bl := hbnd _ _ hlo
  have bh := hbnd _ _ hhi
  have bm := hbnd _ _ hmx
  cases htd : T t <;> rw [htd] at hr ht <;> (try simp only [reduceCtorEq] at hr)
  case arr k n =>
    cases hxv : st.ev x <;> rw [hxv] at hr hx <;> (try simp only [reduceCtorEq] at hr)
    rename_i b off
    cases off <;> (try simp only [reduceCtorEq] at hr)
    cases m <;> (try simp only [reduceCtorEq] at hr)
    obtain ⟨hc, hr2⟩ := cond_some hr
    injection hr2 with hr2
    simp only [Bool.and_eq_true, leI_iff, ltI_iff] at hc
    obtain ⟨e, h1, h2, h3, h4, _⟩ := ht
    obtain ⟨g, hg, hax⟩ := hx
    have hm : mx.map a.eval = Option.none := by rcases bm with ⟨_, h⟩ | ⟨k, j, h, _⟩; exact h; cases h
    have hrun := run_cut_array (P := P) w h1 h3 g bl bh hc.1.1.1 hc.1.1.2 hc.1.2 hc.2
    refine val _ (.slice (some ⟨g, (l.getD 0).toNat, Option.none⟩) ((hh.getD n).toNat - (l.getD 0).toNat) (n - (l.getD 0).toNat)) hr2.symm ?_ ⟨g, _, hg, rfl, by omega⟩ (by have hxr := h.evR x; rw [hxv] at hxr; exact hxr)
    simp only [execOp, hax, hm, Sem.run_bind, hrun, Result.andThen_ok, Sem.run_pure]
  case str =>
    cases hxv : st.ev x <;> rw [hxv] at hr hx <;> (try simp only [reduceCtorEq] at hr)
    rename_i v
    cases v <;> (try simp only [reduceCtorEq] at hr)
    rename_i s
    cases m <;> (try simp only [reduceCtorEq] at hr)
    obtain ⟨hc, hr2⟩ := cond_some hr
    injection hr2 with hr2
    simp only [Bool.and_eq_true, leI_iff] at hc
    have hm : mx.map a.eval = Option.none := by rcases bm with ⟨_, h⟩ | ⟨k, j, h, _⟩; exact h; cases h
    have hax : a.eval x = .string s := hx
    refine val _ _ hr2.symm ?_ rfl trivial
    simp only [execOp, hax, hm, Sem.run_bind, run_cut_string (P := P) w ht.1 s bl bh hc.1.1 hc.1.2 hc.2, Result.andThen_ok, Sem.run_pure]
  case sl k e =>
    obtain ⟨h1, h2, h3, h4, _⟩ := ht
    cases hxv : st.ev x <;> rw [hxv] at hr hx <;> (try simp only [reduceCtorEq] at hr)
    case li k' xs =>
      obtain ⟨hc, hr2⟩ := cond_some hr
      injection hr2 with hr2
      simp only [Bool.and_eq_true, leI_iff] at hc
      obtain ⟨A, c, hax, hcap, hrd⟩ := hx
      obtain ⟨v, hrun, hli⟩ := run_cut_slice (P := P) w h1 h3 hcap hrd bl bh bm hc.1.1.1.1 hc.1.1.1.2 hc.1.1.2 hc.1.2 hc.2
      refine val _ v hr2.symm ?_ hli trivial
      simp only [execOp, hax, Sem.run_bind, hrun, Result.andThen_ok, Sem.run_pure]
    case own b =>
      cases l <;> (try simp only [reduceCtorEq] at hr)
      cases hh <;> (try simp only [reduceCtorEq] at hr)
      rename_i n
      cases m <;> (try simp only [reduceCtorEq] at hr)
      simp only [rowK] at hr
      cases hkk : killsB T.kl dst <;> rw [hkk] at hr <;> (try simp only [cond_false, reduceCtorEq] at hr)
      simp only [cond_true, baseOf] at hr
      cases hob : getH st.heap b <;> rw [hob] at hr <;> (try simp only [reduceCtorEq] at hr)
      rename_i ob
      cases ob <;> (try simp only [reduceCtorEq] at hr)
      rename_i k' e' xs
      obtain ⟨hc00, hr2⟩ := cond_some hr
      obtain ⟨hc, hr3⟩ := cond_some hr2
      injection hr3 with hr3
      simp only [Bool.and_eq_true, leI_iff] at hc
      cases dst with
      | none => cases hc00
      | some d =>
      simp only [isFree] at hc00
      cases hd : getH st.heap d <;> rw [hd] at hc00 <;> (try simp only [Bool.false_eq_true] at hc00)
      have hc0 : True ∧ d < st.heap.length := ⟨trivial, nblt.1 hc00⟩
      have hxr := h.evR x
      rw [hxv] at hxr
      obtain ⟨ob2, hob2, _, hrow⟩ := hxr
      rw [hob] at hob2; injection hob2 with hob2
      obtain ⟨hown, hblk⟩ := hrow k' e' xs hob2.symm
      have hlo' : lo.map a.eval = Option.none := by rcases bl with ⟨_, h⟩ | ⟨k, j, h, _⟩; exact h; cases h
      have hm : mx.map a.eval = Option.none := by rcases bm with ⟨_, h⟩ | ⟨k, j, h, _⟩; exact h; cases h
      have hn0 : n.toNat ≤ xs.length := by omega
      rcases hown.2 with ⟨hax, h0⟩ | ⟨g, cap, cur, hax, hbg, hg, hnc, hcm, hcs, htake⟩
      · have hx0 : xs = [] := List.eq_nil_of_length_eq_zero h0
        subst hx0
        have hn00 : n = 0 := by simp at hn0; omega
        subst hn00
        refine rowfin d [b] k' e' [] (.slice Option.none 0 0) w rfl (by rw [← hr3]; rfl) hd hc0.2 (by rintro b' hb'; simp at hb'; subst hb'; exact ⟨_, _, _, hob⟩) ?_ (World.ownsRow_nil w _ _ _) (r := Option.none) ⟨rfl, rfl, rfl, Nat.le_refl _, fun _ _ _ => rfl⟩ (fun g hg => by cases hg) (fun g hg => by cases hg)
        simp only [execOp, hax, hlo', hm, Sem.run_bind]
        have hb0 := run_bounds (P := P) true 0 0 w (.inl ⟨rfl, rfl⟩) bh (.inl ⟨rfl, rfl⟩) 0 rfl (by simp) (by simp) (by simp) (Nat.le_refl _) (by simp) (by simp)
        simp [Instr.sliceAt, Instr.slice, run_underlying h1, hb0, run_size h3]
      · have hrun := run_cut_row (P := P) (g := g) w h1 h3 bh hc.1 hc.2 hnc
        have hln : (xs.take n.toNat).length = n.toNat := by rw [List.length_take]; omega
        refine rowfin d [b] k' e' (xs.take n.toNat) (.slice (some ⟨g, 0, Option.none⟩) n.toNat cap) w rfl hr3.symm hd hc0.2 (by rintro b' hb'; simp at hb'; subst hb'; exact ⟨_, _, _, hob⟩) ?_ ?_ (r := Option.none) ⟨rfl, rfl, rfl, Nat.le_refl _, fun _ _ _ => rfl⟩ (fun g hg => by cases hg) (fun g' hg' => .inl ⟨b, by simp, by rw [← hblk, hax]; exact hg'⟩)
        · simp only [execOp, hax, hlo', hm, Sem.run_bind, hrun, Result.andThen_ok, Sem.run_pure]
        · rw [hln]
          refine ⟨by simp; omega, .inr ⟨g, cap, cur, rfl, hbg, hg, by omega, hcm, hcs, ?_⟩⟩
          rw [Nat.mul_one] at htake ⊢
          rw [List.map_take, ← htake, List.take_take, Nat.min_eq_left hn0]

theorem li_of {k : IntKind} {x : AV} {y : Value} {ys : List Int} (h : SR L w0 β st a w) (hx : VR L β w x y) (hr : RR st.heap β 0 w x y) (hl : liOf st.heap k x = some ys) : LiR (fun _ => False) w k ys y := by
  unfold liOf at hl
  split at hl
  · obtain ⟨hc, h2⟩ := cond_some hl
    injection h2 with h2
    rw [ikEq_iff] at hc
    subst hc; subst h2
    obtain ⟨A, c, e, hc, hrd⟩ := hx
    exact ⟨A, c, e, hc, fun i hi => let ⟨a, h1, h2, _⟩ := hrd i hi; ⟨a, h1, h2, id⟩⟩
  · split at hl
    · rename_i hob
      obtain ⟨hc, h2⟩ := cond_some hl
      injection h2 with h2
      rw [ikEq_iff] at hc
      subst hc; subst h2
      exact hr.li hob fun _ _ h => h
    · cases hl
  · injection hl with hl
    subst hl
    exact ⟨Option.none, 0, hx, ⟨Nat.le_refl _, fun a ha => by cases ha⟩, fun i hi => by cases hi⟩
  · cases hl
theorem append_sound (hT : TOK P T) (h : SR L w0 β st a w) {d : Nat} {type : TypeId} {pos : String} {after : Array Edge} {guard : Option (Nat × Bool)} (x y : Operand) (t : TypeId) {ks : List Nat} {k : IntKind} {e : TypeId} {xs ys : List Int}
    (htd : T t = .sl k e) (hd : getH st.heap d = Option.none) (hl : d < st.heap.length) (hks : ∀ b ∈ ks, ∃ k e xs, getH st.heap b = some (.row k e xs))
    (hown : w.ownsRow 0 e 1 (a.eval x) xs.length (xs.map (Value.int k))) (hblk : ∀ g, (a.eval x).ownBlock = some g → ∃ b ∈ ks, β b = some g) (hys : liOf st.heap k (st.ev y) = some ys) (hmax : xs.length + ys.length ≤ 17592186044416)
    {next : Act → World → Prop} {Q : Exit → Act → World → Prop}
    (hn : ∀ β' a' w', SR L w0 β' (apply ⟨some d, .call ⟨.builtin .append, #[x, y], #[t, t]⟩, type, pos, after, guard⟩ st (.row ks k e (xs ++ ys))) a' w' → next a' w') :
    Oper.wp P ⟨some d, .call ⟨.builtin .append, #[x, y], #[t, t]⟩, type, pos, after, guard⟩ a w next Q := by
  have rowfin := fin_row (P := P) (Q := Q) h hn
  have ht := hT t
  rw [htd] at ht
  obtain ⟨h1, h2, h3, h4, h5⟩ := ht
  obtain ⟨ie, hi1, hi2, hi3⟩ := sz_parts h3
  rw [hi1] at h5
  simp only [Option.map_some, Option.some.injEq, Nat.ble_eq] at h5
  obtain ⟨A, c, hay, hcap, hrd⟩ := li_of h (h.ev y) (h.evR y) hys
  cases A with
  | none =>
    have hy0 : ys = [] := by
      cases ys with
      | nil => rfl
      | cons y r => obtain ⟨a, h, _⟩ := hrd 0 (by simp); cases h
    subst hy0
    have hrun : (Builtin.append_ #[t, t] type #[a.eval x, .slice Option.none 0 c]).run P w = .ok (a.eval x) w := by
      rcases hown.2 with ⟨hax, h0⟩ | ⟨g, cap, cur, hax, hbg, hg, hnc, hcm, hcs, htake⟩
      · rw [hax]; exact run_append_empty h1 hi1 w _ _ _ _ (Nat.le_refl _)
      · rw [hax]; exact run_append_empty h1 hi1 w _ _ _ _ hnc
    refine rowfin d ks k e (xs ++ []) (a.eval x) w rfl rfl hd hl hks ?_ (by simpa using hown) (r := Option.none) ⟨rfl, rfl, rfl, Nat.le_refl _, fun _ _ _ => rfl⟩ (fun g hg => by cases hg) (fun g hg => .inl (hblk g hg))
    simp only [execOp, resolve, invoke, builtin, Sem.run_bind, Sem.run_pure, Result.andThen_ok, List.map_toArray, List.map_cons, List.map_nil, hay, List.length_nil, hrun]
  | some ad =>
    have hmul : (xs.length + ys.length) * ie.bytes ≤ (xs.length + ys.length) * 8 := Nat.mul_le_mul_left _ h5
    obtain ⟨v', w', hrun, hown', hgr, _, hlies⟩ := run_append_own_at (P := P) w 0 t type e ie (.int k 0) 1 ie.bytes h1 hi1 hi3 hi2 rfl rfl (by decide) (a.eval x) xs.length _ hown ad ys.length c (ys.map (Value.int k)) (by simp)
      (fun j u hu => by
        have hj : j < ys.length := by
          have := (List.getElem?_eq_some_iff.1 hu).1; simpa using this
        obtain ⟨a2, he, hcell, _⟩ := hrd j hj
        injection he with he; subst he
        rw [hcell]
        simp [List.getElem?_map, hj] at hu
        rw [← hu]; simp [List.getD_eq_getElem?_getD, hj])
      (fun u hu => by simp at hu; obtain ⟨z, _, rfl⟩ := hu; rfl) (by unfold maxLen; omega) (by omega) (Nat.zero_le _)
    refine rowfin d ks k e (xs ++ ys) v' w' rfl rfl hd hl hks ?_ (by simpa using hown') hgr hblk (fun g hg => ?_)
    · simp only [execOp, resolve, invoke, builtin, Sem.run_bind, Sem.run_pure, Result.andThen_ok, List.map_toArray, List.map_cons, List.map_nil, hay, hrun]
    · rcases hlies with h6 | h6
      · exact .inl (hblk g (h6 ▸ hg))
      · rw [h6] at hg; injection hg with hg; exact .inr (by omega)
theorem cpL_len (xs ys : List Int) : (cpL xs ys).length = xs.length := by simp [cpL]; omega
theorem cpL_none {xs ys : List Int} (h : Nat.min ys.length xs.length = 0) : cpL xs ys = xs := by
  unfold cpL
  by_cases h1 : ys.length = 0
  · rw [List.eq_nil_of_length_eq_zero h1]; simp
  · have : xs.length = 0 := by have h2 : min ys.length xs.length = 0 := h; omega
    rw [List.eq_nil_of_length_eq_zero this]; simp
theorem copy_sound (hT : TOK P T) (h : SR L w0 β st a w) {dst : Option Tmp} {type : TypeId} {pos : String} {after : Array Edge} {guard : Option (Nat × Bool)} (x y : Operand) (t : TypeId) {b : Nat} {k : IntKind} {e : TypeId} {xs ys : List Int}
    (htd : T t = .sl k e) (hob : getH st.heap b = some (.row k e xs)) (hown : w.ownsRow 0 e 1 (a.eval x) xs.length (xs.map (Value.int k))) (hblk : (a.eval x).ownBlock = β b) (hys : liOf st.heap k (st.ev y) = some ys)
    {next : Act → World → Prop} {Q : Exit → Act → World → Prop}
    (hn : ∀ β' a' w', SR L w0 β' (apply ⟨dst, .call ⟨.builtin .copy, #[x, y], #[t, t]⟩, type, pos, after, guard⟩ st (.upd b (.row k e (cpL xs ys)) (.v (.int .i64 (min ys.length xs.length : Nat))))) a' w' → next a' w') :
    Oper.wp P ⟨dst, .call ⟨.builtin .copy, #[x, y], #[t, t]⟩, type, pos, after, guard⟩ a w next Q := by
  have ht := hT t
  rw [htd] at ht
  obtain ⟨h1, h2, h3, h4, h5⟩ := ht
  obtain ⟨ie, hi1, hi2, hi3⟩ := sz_parts h3
  have hsz : (P.info? e).map (·.size) = some 1 := by rw [hi1, Option.map_some, hi2]
  obtain ⟨A, c, hay, hcap, hrd⟩ := li_of h (h.ev y) (h.evR y) hys
  have fin : ∀ (w' : World), SR L w0 β ⟨st.slots, setH st.heap b (some (.row k e (cpL xs ys)))⟩ a w' → (Builtin.copy_ #[t, t] type #[a.eval x, a.eval y]).run P w = .ok (goInt (min ys.length xs.length : Nat)) w' →
      Oper.wp P ⟨dst, .call ⟨.builtin .copy, #[x, y], #[t, t]⟩, type, pos, after, guard⟩ a w next Q := by
    intro w' h' hrun
    refine wp_val (v := .int .i64 (min ys.length xs.length : Nat)) (w' := w') (by simp [execOp, resolve, invoke, builtin, hrun, goInt]) (hn β _ _ ?_)
    have h3 := h'.put dst (x := .v (.int .i64 (min ys.length xs.length : Nat))) (v := .int .i64 (min ys.length xs.length : Nat)) rfl trivial
    cases dst <;> exact h3
  have same : Nat.min ys.length xs.length = 0 → Oper.wp P ⟨dst, .call ⟨.builtin .copy, #[x, y], #[t, t]⟩, type, pos, after, guard⟩ a w next Q := by
    intro h0
    refine fin w ?_ ?_
    · rw [cpL_none h0]
      have e1 : setH st.heap b (some (.row k e xs)) = st.heap := by
        have : ∀ (l : List (Option OB)) (n : Nat) (x : OB), getH l n = some x → setH l n (some x) = l := by
          intro l
          induction l with
          | nil => intro n x _; rfl
          | cons y r ih => intro n x hx; cases n with
            | zero => simp only [getH] at hx; rw [setH, hx]
            | succ n => simp only [getH] at hx; rw [setH, ih n x hx]
        exact this _ _ _ hob
      rw [e1]; exact h
    · have h0' : min ys.length xs.length = 0 := h0
      rw [h0', hay]
      rcases hown.2 with ⟨hax, _⟩ | ⟨g, cap, cur, hax, _⟩
      · rw [hax]; exact run_copy_none (P := P) w t t type e _ _ _ _ _ _ h1 hsz (Nat.min_eq_right (Nat.zero_le _))
      · rw [hax]; exact run_copy_none (P := P) w t t type e _ _ _ _ _ _ h1 hsz h0
  by_cases h0 : Nat.min ys.length xs.length = 0
  · exact same h0
  rcases hown.2 with ⟨hax, hx0⟩ | ⟨g, cap, cur, hax, hbg, hg, hnc, hcm, hcs, htake⟩
  · exact absurd (by rw [hx0]; exact Nat.min_eq_right (Nat.zero_le _)) h0
  · cases A with
    | none =>
      have : ys.length = 0 := by
        cases ys with
        | nil => rfl
        | cons y r => obtain ⟨a, h, _⟩ := hrd 0 (by simp); cases h
      exact absurd (by rw [this]; exact Nat.min_eq_left (Nat.zero_le _)) h0
    | some ad =>
      rw [Nat.mul_one] at hcs htake
      have hm1 : min ys.length xs.length ≤ ys.length := Nat.min_le_left ..
      have hm2 : min ys.length xs.length ≤ xs.length := Nat.min_le_right ..
      have hcl : ((ys.take xs.length).map (Value.int k)).length = Nat.min ys.length xs.length := by
        rw [List.length_map, List.length_take]; exact Nat.min_comm ..
      have hrun := run_copy_row (P := P) w t t type e g 0 xs.length cap ad ys.length c cur e ((ys.take xs.length).map (Value.int k)) h1 hsz hg hcl
        (fun j u hu => by
          have hj : j < ys.length := by
            have := (List.getElem?_eq_some_iff.1 hu).1; rw [hcl] at this; exact Nat.lt_of_lt_of_le this hm1
          have hj2 : j < xs.length := by
            have := (List.getElem?_eq_some_iff.1 hu).1; rw [hcl] at this; exact Nat.lt_of_lt_of_le this hm2
          obtain ⟨a2, he, hcell, _⟩ := hrd j hj
          injection he with he; subst he
          rw [hcell]
          simp [List.getElem?_map, List.getElem?_take, hj, hj2] at hu
          rw [← hu]; simp [List.getD_eq_getElem?_getD, hj])
        (by rw [hcl]; have : Nat.min ys.length xs.length ≤ xs.length := hm2; omega)
        (fun u hu => by obtain ⟨z, _, rfl⟩ := List.mem_map.1 hu; rfl)
      rw [hcl] at hrun
      have hgb : β b = some g := by rw [← hblk, hax]; rfl
      refine fin _ ?_ (by rw [hax, hay]; exact hrun)
      have hml : Nat.min ys.length xs.length ≤ cur.size := by have : Nat.min ys.length xs.length ≤ xs.length := hm2; omega
      refine h.rowWrite hgb hob (cpL_len xs ys) (fun g' _ hg' => setRow_other w g g' _ hg') (Nat.le_of_eq (setRow_size w g _).symm) rfl rfl rfl hg (setRow_heap w g cur _ e (0, 0) hg) ?_ ?_
      · simp only [Nat.zero_add, List.take_zero, List.nil_append, List.size_toArray, List.length_append, List.length_drop, hcl, Array.length_toList]; omega
      · rw [cpL_len]
        simp only [Nat.zero_add, List.take_zero, List.nil_append]
        rw [List.take_append, hcl, List.take_of_length_le (by rw [hcl]; exact hm2)]
        unfold cpL
        rw [List.map_append, List.map_drop, ← htake]
        congr 1
        rw [List.drop_take]
        by_cases hyx : ys.length ≤ xs.length
        · rw [show Nat.min ys.length xs.length = ys.length from Nat.min_eq_left hyx]
        · rw [show Nat.min ys.length xs.length = xs.length from Nat.min_eq_right (by omega), show xs.length - xs.length = 0 by omega, show xs.length - ys.length = 0 by omega, List.take_zero, List.take_zero]
theorem bytesK_bind {R : Type} (h : List (Option OB)) (x : AV) (K : List Int → Option R) : bytesK h x K = (bytesOf h x).bind K := by
  unfold bytesK
  cases x with
  | bor b lo hi =>
    simp only [bytesOf]
    split
    · rename_i k n z hob
      cases (ikEq k .u8 && (Nat.ble lo hi && Nat.ble hi n)) <;> rfl
    · rfl
  | _ => simp only [bytesOf]; split <;> (rename_i h1; rw [h1]; rfl)
/-- bytes that are read, as a string -/
theorem run_str_of {P : Program} {src dst e : TypeId} {xs : List Int} {y : Value} {pr : Nat → Prop} (w : World) (hs : P.underlying src = some (.slice e)) (he : P.underlying e = some (.int .u8)) (hd : P.underlying dst = some .string)
    (hl : LiR pr w .u8 xs y) : (convert src dst y).run P w = .ok (.string (bstr xs)) w := by
  obtain ⟨A, c, rfl, hc, hr⟩ := hl
  rw [run_convert_bytes_string w src dst e A xs.length c hs he hd]
  cases A with
  | none =>
    have : xs = [] := by
      cases xs with
      | nil => rfl
      | cons z r => obtain ⟨a, h, _⟩ := hr 0 (by simp); cases h
    subst this; rfl
  | some a =>
    refine run_bytesToString w a xs.length c xs ?_
    have := run_loadCells_list (P := P) w a (xs.map (Value.int .u8)) (fun j v hv => by
      have hj : j < xs.length := by have := (List.getElem?_eq_some_iff.1 hv).1; simpa using this
      obtain ⟨a2, h1, h2, _⟩ := hr j hj
      injection h1 with h1; subst h1
      rw [h2]
      simp [List.getElem?_map, hj] at hv
      rw [← hv]; simp [List.getD_eq_getElem?_getD, hj])
    rw [List.length_map] at this
    exact this
theorem bytes_li (h : SR L w0 β st a w) {x : Operand} {xs : List Int} (hst : bytesOf st.heap (st.ev x) = some xs) : LiR (fun _ => False) w .u8 xs (a.eval x) := by
  have hx := h.ev x
  have hxr := h.evR x
  cases hxv : st.ev x
  case bor b lo hi =>
    rw [hxv] at hst hx
    simp only [bytesOf] at hst
    split at hst
    · rename_i k n z hob
      obtain ⟨hc, h5⟩ := cond_some hst
      injection h5 with h5
      simp only [Bool.and_eq_true, ikEq_iff, Nat.ble_eq] at hc
      obtain ⟨rfl, hlo, hhi⟩ := hc
      obtain ⟨g, c, hb, hy, hcap⟩ := hx
      obtain ⟨ob, hob2, ho⟩ := h.heap b g hb
      rw [hob] at hob2; injection hob2 with hob2; subst hob2
      obtain ⟨t', hg⟩ := ho
      have hlen : xs.length = hi - lo := by rw [← h5]; unfold Vec.cut; rw [List.length_take, List.length_drop, z.2]; omega
      refine ⟨some ⟨g, lo, Option.none⟩, c, by rw [hy, hlen], ⟨by rw [hlen]; exact hcap, fun a ha => by injection ha with ha; rw [← ha]⟩, fun i hi' => ⟨_, rfl, ?_, id⟩⟩
      rw [add0, cell_of_row w g _ _ t' _ hg, ← h5]
      have hzl := z.2
      unfold Vec.cut
      rw [hlen] at hi'
      simp [List.getD_eq_getElem?_getD, List.getElem?_take, List.getElem?_drop, hi', show lo + i < z.1.length by omega]
    · cases hst
  all_goals
    rw [hxv] at hst
    rw [hxv] at hx hxr
    exact li_of h hx hxr (by first | exact hst | (simp only [bytesOf] at hst; exact hst))
/-- an operation that is no call of a function -/
theorem res_sound (hT : TOK P T) (h : SR L w0 β st a w) {o : Oper} {out : Out} (hnf : ∀ c f, o.op = .call c → c.callee ≠ .value (.func f)) (hr : res (R := Out) T (fun _ _ _ => Option.none) o st.ev st.heap some = some out)
    {next : Act → World → Prop} {Q : Exit → Act → World → Prop} (hn : ∀ β' a' w', SR L w0 β' (apply o st out) a' w' → next a' w') : o.wp P a w next Q := by
  obtain ⟨dst, op, type, pos, after, guard⟩ := o
  have val := fin_val (P := P) (Q := Q) h hn
  have hr0 := hr
  cases op <;> simp only [res, reduceCtorEq] at hr
  case move x =>  injection hr with hr; exact val _ _ hr.symm rfl (h.ev x) (h.evR x)
  case assign x =>  injection hr with hr; exact val _ _ hr.symm rfl (h.ev x) (h.evR x)
  case pick c x y =>
    have hc := h.ev c
    cases hcv : st.ev c <;> rw [hcv] at hr hc <;> (try simp only [reduceCtorEq] at hr)
    rename_i v
    cases v <;> (try simp only [reduceCtorEq] at hr)
    rename_i b
    have hc' : a.eval c = .bool b := hc
    cases b
    · injection hr with hr
      exact val _ (a.eval y) hr.symm (by simp [execOp, hc', asBool]) (h.ev y) (h.evR y)
    · injection hr with hr
      exact val _ (a.eval x) hr.symm (by simp [execOp, hc', asBool]) (h.ev x) (h.evR x)
  case alloc t =>
    cases dst <;> simp only [reduceCtorEq] at hr
    rename_i d
    cases hd : getH st.heap d <;> rw [hd] at hr <;> simp only [reduceCtorEq] at hr
    cases hz : zeroOf (T t) <;> rw [hz] at hr <;> simp only [reduceCtorEq] at hr
    rename_i ob
    obtain ⟨hl, hr2⟩ := cond_some hr
    injection hr2 with hr2
    subst hr2
    obtain ⟨n, z, hs, hi⟩ := init_zero (w := w) (hT t) hz (protB L β)
    obtain ⟨β', h'⟩ := h.alloc (t := t) hd (nblt.1 hl) hi
    exact wp_val (v := .pointer (some ⟨w.heap.size, 0, Option.none⟩)) (w' := w.alloc (.cells z.cells t (0, 0))) (by simp [execOp, Instr.alloc, run_zero hs, newVar, newRow]) (hn β' _ _ h')
  case box t x =>
    cases dst <;> simp only [reduceCtorEq] at hr
    rename_i d
    cases hd : getH st.heap d <;> rw [hd] at hr <;> simp only [reduceCtorEq] at hr
    cases hz : blockOf (T t) (st.ev x) <;> rw [hz] at hr <;> simp only [reduceCtorEq] at hr
    rename_i ob
    obtain ⟨hl, hr2⟩ := cond_some hr
    injection hr2 with hr2
    subst hr2
    obtain ⟨β', h'⟩ := h.alloc (t := t) hd (nblt.1 hl) (init_block (t := t) hz (h.ev x))
    exact wp_val (v := .pointer (some ⟨w.heap.size, 0, Option.none⟩)) (w' := w.alloc (.cells (a.eval x).cells t (0, 0))) (by simp [execOp, Instr.box, newVar, newRow]) (hn β' _ _ h')
  case build t ps =>
    have ht := hT t
    cases htd : T t <;> rw [htd] at hr ht <;> (try simp only [reduceCtorEq] at hr)
    case arr k n =>
      cases hf : fillVec k st.ev ps.toList (Vec.zero n) <;> rw [hf] at hr <;> simp only [reduceCtorEq, Option.some.injEq] at hr
      rename_i y
      obtain ⟨e, h1, h2, h3, h4, _⟩ := ht
      have hfill := fill_vec st.ev a.eval (fun x j b hx => by have := h.ev x; rw [hx] at this; exact this) _ _ _ hf
      refine val _ _ hr.symm ?_ (rfl : _ = _) trivial
      have : (Vec.zero n).1.map (Value.int k) = List.replicate n (Value.int k 0) := by simp [Vec.zero]
      rw [this] at hfill
      simp only [execOp, Instr.build, Sem.run_bind, run_zero h4, Result.andThen_ok, run_underlying h1, run_size h3, Value.cells, Array.toList_map]
      rw [show (fun (p : Nat × Operand) => match p with | (i, x) => (i, a.eval x)) = (fun p => (p.1, a.eval p.2)) from rfl, hfill]
      rfl
    case st zs =>
      cases hf : fillPs st.ev ps.toList (zs.map .v) <;> rw [hf] at hr <;> simp only [reduceCtorEq, Option.some.injEq] at hr
      rename_i y
      obtain ⟨fs, h1, h2, h3, h4, _⟩ := ht
      obtain ⟨ds, hd1, hd2⟩ := fill_ps (pr := protB L β) (w := w) st.ev a.eval (fun x hx => VR.leaf hx (h.ev x)) (fun i => (fs.map fun f => (f.offset, 1))[i]?) ps.toList _ _ zs (L2.zs zs)
        (fun i hi => by obtain ⟨f, hf1, hf2, _⟩ := field_at h2 (i := i) (by simpa using hi); simp [hf1, hf2]) hf
      refine val _ (.agg ds.toArray) hr.symm ?_ ⟨ds, rfl, hd2⟩ trivial
      simp only [execOp, Instr.build, Sem.run_bind, run_zero h4, Result.andThen_ok, run_underlying h1, run_mapM_size w (fun f hf => (h3 f hf).2), Value.cells, Array.toList_map]
      rw [show (fun (p : Nat × Operand) => match p with | (i, x) => (i, a.eval x)) = (fun p => (p.1, a.eval p.2)) from rfl, hd1]
      rfl
    case sta fs =>
      cases hf : fillSta fs st.ev ps.toList (fs.map FD.z) <;> rw [hf] at hr <;> simp only [reduceCtorEq, Option.some.injEq] at hr
      rename_i y
      obtain ⟨flds, h1, h2, h4⟩ := ht
      obtain ⟨ds, hd1, hd2⟩ := fill_sta (pr := protB L β) (w := w) fs st.ev a.eval (fun x f hx => VR_pc hx (h.ev x)) (fun i => (flds.map fun f => (f.offset, szAt P f))[i]?)
        (fun i f hi => by
          obtain ⟨fd, d, e1, e2, e3, e4⟩ := fds_at h2 (getFD_lt hi)
          rw [hi] at e2; injection e2 with e2; subst e2
          rw [Array.getElem?_toList] at e1
          simp [e1, e3, (fdB.sz e4).2.1]) ps.toList _ _ _ (LL.zs fs) (zs_w fs) hf
      refine val _ (.agg ds.toArray) hr.symm ?_ ⟨ds, rfl, hd2⟩ trivial
      simp only [execOp, Instr.build, Sem.run_bind, run_zero h4, Result.andThen_ok, run_underlying h1, run_mapM_sz w (fds_info h2), Value.cells, Array.toList_map]
      rw [show (fun (p : Nat × Operand) => match p with | (i, x) => (i, a.eval x)) = (fun p => (p.1, a.eval p.2)) from rfl, hd1]
      rfl
  case load t x => exact load_sound hT h t x hr0 hn
  case buildSlice t n ps => exact buildSlice_sound hT h t n ps hr0 hn
  case makeSlice t l c => exact makeSlice_sound hT h t l c hr0 hn
  case store t x y => exact store_sound hT h t x y hr0 hn
  case binOp bo xt x y yt =>
    have hx := h.ev x
    have hy := h.ev y
    cases he : errNil (T xt) y <;> rw [he] at hr
    · simp only [cond_false] at hr
      rw [bop_bind] at hr
      obtain ⟨r, hb, hr2⟩ := Option.bind_eq_some_iff.1 hr
      injection hr2 with hr2
      obtain ⟨v, hv1, hv2⟩ := bop_sound hT hb hx hy x y
      refine val r v hr2.symm ?_ hv2 (RR.free (bop_noRef hb))
      simp only [execOp, Sem.run_bind] at hv1 ⊢
      rw [hv1]; rfl
    · simp only [cond_true] at hr
      rw [ebop_bind] at hr
      obtain ⟨r, hb, hr2⟩ := Option.bind_eq_some_iff.1 hr
      injection hr2 with hr2
      have ht := hT xt
      cases htd : T xt <;> rw [htd] at he ht <;> simp only [errNil, Bool.false_eq_true] at he
      cases y <;> (try simp only [Bool.false_eq_true] at he)
      rename_i c
      cases c <;> (try simp only [Bool.false_eq_true] at he)
      obtain ⟨ms, hu, _⟩ := ht
      have : ∃ t e, ebop bo (.er t e) some = some r ∧ a.eval x = errV t e := by
        cases hxv : st.ev x <;> rw [hxv] at hb hx <;> (try simp only [ebop, reduceCtorEq] at hb)
        case er t e => exact ⟨t, e, hb, hx⟩
        case v v =>
          cases v <;> (try simp only [reduceCtorEq] at hb)
          refine ⟨0, Option.none, ?_, hx⟩
          cases bo <;> (try simp only [reduceCtorEq] at hb) <;> exact hb
      obtain ⟨t, e, hb2, hax⟩ := this
      obtain ⟨v, hv1, hv2⟩ := err_sound (P := P) (L := L) (β := β) (w := w) hu hb2 x
      refine val r v hr2.symm ?_ hv2 (RR.free (ebop_noRef hb2))
      simp only [execOp, Sem.run_bind] at hv1 ⊢
      rw [hax, show a.eval (.const .nilIface) = .nilIface from rfl, hv1]; rfl
  case unOp op t x =>
    have hx := h.ev x
    cases op <;> cases hxv : st.ev x <;> rw [hxv] at hr hx <;> (try simp only [reduceCtorEq] at hr)
    all_goals
      rename_i v
      cases v <;> (try simp only [reduceCtorEq] at hr)
      injection hr with hr
      have hax : a.eval x = _ := hx
      exact val _ _ hr.symm (by simp only [execOp, hax, Op.unary, Op.intArith, Op.intBits, Sem.run_bind, Sem.run_pure, Result.andThen_ok]; first | done | rfl) rfl trivial
  case convert s d x =>
    by_cases hsl : ∃ k e, T d = .str ∧ T s = .sl k e
    · obtain ⟨k, e, hd', hs'⟩ := hsl
      rw [hd', hs'] at hr
      simp only at hr
      obtain ⟨hk, hr'⟩ := cond_some hr
      clear hr
      rw [bytesK_bind] at hr'
      obtain ⟨xs, hb, hr2⟩ := Option.bind_eq_some_iff.1 hr'
      injection hr2 with hr2
      rw [ikEq_iff] at hk
      subst hk
      have hsT := hT s
      have hdT := hT d
      rw [hs'] at hsT; rw [hd'] at hdT
      obtain ⟨g1, g2, _⟩ := hsT
      exact val _ _ hr2.symm (by simp only [execOp, Sem.run_bind, run_str_of w g1 g2 hdT.1 (bytes_li h hb), Result.andThen_ok, Sem.run_pure]) rfl trivial
    by_cases hsl2 : ∃ k e, T d = .sl k e ∧ T s = .str
    · obtain ⟨k, e, hd', hs'⟩ := hsl2
      rw [hd', hs'] at hr
      simp only at hr
      have hx := h.ev x
      cases hxv : st.ev x <;> rw [hxv] at hr hx <;> (try simp only [reduceCtorEq] at hr)
      rename_i v
      cases v <;> (try simp only [reduceCtorEq] at hr)
      rename_i b
      obtain ⟨hk, hr2⟩ := cond_some hr
      injection hr2 with hr2
      rw [ikEq_iff] at hk
      subst hk; subst hr2
      have hsT := hT s
      have hdT := hT d
      rw [hs'] at hsT; rw [hd'] at hdT
      have hax : a.eval x = .string b := hx
      have hrun := run_bytes_of_string (P := P) w s d e b hsT.1 hdT.1 hdT.2.1
      generalize hcap : grownCap w b.size 0 e = cap at hrun
      have hge : b.size ≤ cap := hcap ▸ grownCap_ge w b.size 0 e
      have hbw : Below w.heap.size w (w.drew.alloc (.cells (bytesRow b cap) e ((bytesRow b cap).size, (bytesRow b cap).size + 1))) := by
        have h0 := (Below.refl w.heap.size w.drew).alloc (Nat.le_refl _) (.cells (bytesRow b cap) e ((bytesRow b cap).size, (bytesRow b cap).size + 1))
        exact ⟨h0.os, h0.tape, h0.output, h0.size, h0.block⟩
      have hlen : (bytesS b).length = b.size := by unfold bytesS; rw [List.length_map, Array.length_toList]; rfl
      have hli : LiR (protB L β) (w.drew.alloc (.cells (bytesRow b cap) e ((bytesRow b cap).size, (bytesRow b cap).size + 1))) .u8 (bytesS b) (.slice (some ⟨w.heap.size, 0, Option.none⟩) b.size cap) := by
        refine ⟨some ⟨w.heap.size, 0, Option.none⟩, cap, by rw [hlen], ⟨by rw [hlen]; exact hge, fun a ha => by injection ha with ha; rw [← ha]⟩, fun i hi => ⟨_, rfl, ?_, ?_⟩⟩
        · have hi2 : i < b.data.size := by rw [hlen] at hi; exact hi
          have hnew : (w.drew.alloc (.cells (bytesRow b cap) e ((bytesRow b cap).size, (bytesRow b cap).size + 1))).heap[w.heap.size]? = some (.cells (bytesRow b cap) e ((bytesRow b cap).size, (bytesRow b cap).size + 1)) := heap_alloc_new w.drew _
          have hadd : (⟨w.heap.size, 0, Option.none⟩ : Addr).add i = ⟨w.heap.size, i, Option.none⟩ := by unfold Addr.add; split <;> simp_all
          rw [hadd]
          simp only [World.cell?, hnew]
          rw [bytesRow_at b cap i hi2]
          simp [bytesS, List.getD_eq_getElem?_getD, hi2]
          rw [Array.getElem?_eq_getElem hi2]; rfl
        · rintro (hL | ⟨b', hb'⟩)
          · have h1 := (h.low.1 _ hL).1
            have h2 := h.below.size
            have h3 : ((⟨w.heap.size, 0, Option.none⟩ : Addr)).block = w.heap.size := rfl
            rw [h3] at h1; omega
          · have h1 := h.lt hb'
            have h3 : ((⟨w.heap.size, 0, Option.none⟩ : Addr)).block = w.heap.size := rfl
            rw [h3] at h1; omega
      refine wp_val (v := .slice (some ⟨w.heap.size, 0, Option.none⟩) b.size cap) (w' := w.drew.alloc (.cells (bytesRow b cap) e ((bytesRow b cap).size, (bytesRow b cap).size + 1))) (by simp only [execOp, Sem.run_bind, hax, hrun, Result.andThen_ok, Sem.run_pure]) (hn β _ _ ?_)
      exact (h.turn hbw).put dst (x := .li .u8 (bytesS b)) hli trivial
    have hr : (match T d, scal (T s), st.ev x with
      | .int k, some _, .v (.int _ a) => some (Out.val (.v (.int k (cvI k a))))
      | _, _, _ => Option.none) = some out := by
      revert hr
      cases hd' : T d <;> cases hs' : T s <;> first | exact id | (exfalso; exact hsl ⟨_, _, hd', hs'⟩) | (exfalso; exact hsl2 ⟨_, _, hd', hs'⟩)
    have hx := h.ev x
    have ht := hT d
    cases htd : T d <;> rw [htd] at hr ht <;> (try simp only [reduceCtorEq] at hr)
    rename_i k
    cases hsc : scal (T s) <;> rw [hsc] at hr <;> (try simp only [reduceCtorEq] at hr)
    cases hxv : st.ev x <;> rw [hxv] at hr hx <;> (try simp only [reduceCtorEq] at hr)
    rename_i v
    cases v <;> (try simp only [reduceCtorEq] at hr)
    injection hr with hr
    obtain ⟨ds, hds, _⟩ := scal_facts (hT s) hsc
    have hax : a.eval x = _ := hx
    exact val _ _ hr.symm (by simp only [execOp, hax, convert, Sem.run_bind, run_underlying hds, run_underlying ht.1, Result.andThen_ok, Conv.intToInt, Sem.run_pure]; rfl) rfl trivial
  case field t x f =>
    have hx := h.ev x
    have ht := hT t
    cases htd : T t <;> rw [htd] at hr ht <;> (try simp only [reduceCtorEq] at hr)
    case sta fs =>
      cases hxv : st.ev x <;> rw [hxv] at hr hx <;> (try simp only [reduceCtorEq] at hr)
      rename_i ps
      obtain ⟨hc, hr2⟩ := cond_some hr
      injection hr2 with hr2
      simp only [Bool.and_eq_true, nblt] at hc
      obtain ⟨⟨hlt, hpo⟩, hnr⟩ := hc
      obtain ⟨flds, h1, h2, h4⟩ := ht
      obtain ⟨fd, d, e1, e2, e3, e4⟩ := fds_at h2 hlt
      obtain ⟨cs, hax, hl2⟩ := hx
      obtain ⟨d', pre, a', post, k1, k2, k3, k4, k5⟩ := hl2.fld hpo hlt
      rw [e2] at k1; injection k1 with k1; subst k1
      rw [Array.getElem?_toList] at e1
      cases d with
      | one z =>
        have hl : leaf (getS ps f) = true := by cases hg : getS ps f <;> rw [hg] at k2 <;> exact k2
        obtain ⟨c, rfl, hlr⟩ := k5.vr (v := undef) hl
        simp only [fdB, Bool.and_eq_true] at e4
        obtain ⟨_, e4⟩ := e4
        cases hu : P.underlying fd.type <;> rw [hu] at e4 <;> try (simp at e4; done)
        rename_i de
        cases hi : P.info? fd.type <;> rw [hi] at e4 <;> try (simp at e4; done)
        simp only [Bool.and_eq_true, nbeq] at e4
        have hcc : cs[fd.offset]? = some c := by rw [e3, k3, Nat.zero_add, ← k4]; simp
        refine val _ c hr2.symm ?_ hlr.vr (RR.free hnr)
        simp [execOp, hax, Instr.field, run_underlying h1, e1, asAgg, part, run_isAgg hu, e4.1, hcc]
      | arr k n =>
        have hsz := fdB.sz e4
        cases hg : getS ps f <;> rw [hg] at k2 <;> simp only [partOK, Bool.false_eq_true] at k2
        rename_i k' n' x'
        simp only [Bool.and_eq_true, nbeq, ikEq_iff] at k2
        obtain ⟨rfl, rfl⟩ := k2
        rw [hg] at k5
        have ha : a' = x'.1.map (Value.int k) := k5
        have hsize : (sizeOf fd.type).run P w = .ok n w := by
          cases hi : P.info? fd.type with
          | none => have := hsz.1; simp [hi] at this
          | some i => have := hsz.2.1; simp [szAt, hi, FD.w] at this; simp [sizeOf, typeInfo, hi, this]
        have hu : ∃ n0 e0, P.underlying fd.type = some (.array n0 e0) := by
          simp only [fdB] at e4
          split at e4
          · rename_i hu _; exact ⟨_, _, hu⟩
          · cases e4
        obtain ⟨n0, e0, hu⟩ := hu
        have hex : List.take n (List.drop fd.offset cs) = a' := by
          have hal : a'.length = n := by rw [ha, List.length_map, x'.2]
          rw [e3, k3, Nat.zero_add, ← k4, ← hal]
          simp
        refine val _ (.agg a'.toArray) hr2.symm ?_ (by rw [hg, ha]; rfl) (RR.free hnr)
        simp [execOp, hax, Instr.field, run_underlying h1, e1, asAgg, part, run_isAgg hu, notAgg, hsize, hex]
    case st zs =>
      cases hxv : st.ev x <;> rw [hxv] at hr hx <;> (try simp only [reduceCtorEq] at hr)
      rename_i ps
      obtain ⟨hc, hr2⟩ := cond_some hr
      injection hr2 with hr2
      simp only [Bool.and_eq_true, nbeq, nblt] at hc
      obtain ⟨hc, hnr⟩ := hc
      obtain ⟨fs, h1, h2, h3, h4, _⟩ := ht
      obtain ⟨fd, hf1, hf2, hf3⟩ := field_at h2 hc.1
      obtain ⟨cs, hax, hl2⟩ := hx
      obtain ⟨c, hcc, hlr⟩ := hl2.get f (by omega)
      have hna := (h3 fd hf3).1
      cases hfu : P.underlying fd.type with
      | none => simp [hfu] at hna
      | some d =>
        rw [hfu] at hna
        simp only [Option.map_some, Option.some.injEq] at hna
        refine val _ c hr2.symm ?_ hlr.vr (RR.free hnr)
        simp [execOp, hax, Instr.field, run_underlying h1, hf1, asAgg, part, run_isAgg hfu, hna, hf2, hcc]
  case fieldAddr t x f =>
    have hx := h.ev x
    have ht := hT t
    cases htd : T t <;> rw [htd] at hr ht <;> (try simp only [reduceCtorEq] at hr)
    case sta fs =>
      cases hxv : st.ev x <;> rw [hxv] at hr hx <;> (try simp only [reduceCtorEq] at hr)
      rename_i b off
      cases off <;> (try simp only [reduceCtorEq] at hr)
      obtain ⟨hc, hr2⟩ := cond_some hr
      injection hr2 with hr2
      obtain ⟨flds, h1, h2, h4⟩ := ht
      obtain ⟨fd, d, e1, e2, e3, e4⟩ := fds_at h2 (nblt.1 hc)
      rw [Array.getElem?_toList] at e1
      obtain ⟨g, hg, hax⟩ := hx
      have hsz := fdB.sz e4
      have hxr := h.evR x
      rw [hxv] at hxr
      refine val _ (.pointer (some ⟨g, offAt fs f, Option.none⟩)) hr2.symm ?_ ⟨g, hg, rfl⟩ hxr
      have hs : (sizeOf fd.type).run P w = .ok d.w w := by
        cases hi : P.info? fd.type with
        | none => have := hsz.1; simp [hi] at this
        | some i => have := hsz.2.1; simp [szAt, hi] at this; simp [sizeOf, typeInfo, hi, this]
      simp [execOp, hax, Instr.fieldAt, run_underlying h1, e1, Instr.sureAddr, fieldPlace, hs, e3, add0, hsz.2.2]
    case st zs =>
      cases hxv : st.ev x <;> rw [hxv] at hr hx <;> (try simp only [reduceCtorEq] at hr)
      rename_i b off
      obtain ⟨hc, hr2⟩ := cond_some hr
      injection hr2 with hr2
      obtain ⟨fs, h1, h2, h3, h4, _⟩ := ht
      obtain ⟨fd, hf1, hf2, hf3⟩ := field_at h2 (nblt.1 hc)
      obtain ⟨g, hg, hax⟩ := hx
      have hsz := (h3 fd hf3).2
      have hxr := h.evR x
      rw [hxv] at hxr
      refine val _ (.pointer (some ⟨g, off + f, Option.none⟩)) hr2.symm ?_ ⟨g, hg, rfl⟩ hxr
      have hs : (sizeOf fd.type).run P w = .ok 1 w := by
        cases hi : P.info? fd.type with
        | none => simp [hi] at hsz
        | some i => rw [hi] at hsz; simp at hsz; simp [sizeOf, typeInfo, hi, hsz]
      simp [execOp, hax, Instr.fieldAt, run_underlying h1, hf1, Instr.sureAddr, fieldPlace, hs, hf2, add0]
  case indexAddr t x i => exact indexAddr_sound hT h t x i hr0 hn
  case index t x i =>
    have hx := h.ev x
    have hi := h.ev i
    have ht := hT t
    cases htd : T t <;> rw [htd] at hr ht <;> (try simp only [reduceCtorEq] at hr)
    case arr k n =>
      cases hxv : st.ev x <;> rw [hxv] at hr hx <;> (try simp only [reduceCtorEq] at hr)
      rename_i k' n' y
      cases hiv : st.ev i <;> rw [hiv] at hr hi <;> (try simp only [reduceCtorEq] at hr)
      rename_i v
      cases v <;> (try simp only [reduceCtorEq] at hr)
      rename_i ik j
      obtain ⟨hc0, hr1⟩ := cond_some hr
      obtain ⟨hc1, hr2⟩ := cond_some hr1
      obtain ⟨hc2, hr3⟩ := cond_some hr2
      injection hr3 with hr3
      rw [nbeq] at hc0
      subst hc0
      rw [leI_iff] at hc1
      rw [ltI_iff] at hc2
      obtain ⟨e, h1, h2, h3, h4, _⟩ := ht
      have hax : a.eval x = _ := hx
      have hai : a.eval i = .int ik j := hi
      refine val _ (.int k' (y.rd j)) hr3.symm ?_ rfl trivial
      have hlt : j.toNat < y.1.length := by rw [y.2]; omega
      have hp := part_int (P := P) w h2 (y.1.map (Value.int k')).toArray j.toNat (v := .int k' (y.rd j)) (by simp [Vec.rd, hlt])
      simp only [execOp, hax, hai, Instr.index, asIntOf, Sem.run_bind, Sem.run_pure, Result.andThen_ok, run_underlying h1, hc1, hc2, and_self, if_true, run_size h3, Nat.mul_one, hp]
    case str =>
      cases hxv : st.ev x <;> rw [hxv] at hr hx <;> (try simp only [reduceCtorEq] at hr)
      rename_i v
      cases v <;> (try simp only [reduceCtorEq] at hr)
      rename_i s
      cases hiv : st.ev i <;> rw [hiv] at hr hi <;> (try simp only [reduceCtorEq] at hr)
      rename_i v
      cases v <;> (try simp only [reduceCtorEq] at hr)
      rename_i ik j
      obtain ⟨hc1, hr2⟩ := cond_some hr
      obtain ⟨hc2, hr3⟩ := cond_some hr2
      injection hr3 with hr3
      rw [leI_iff] at hc1
      rw [ltI_iff] at hc2
      have hax : a.eval x = _ := hx
      have hai : a.eval i = .int ik j := hi
      refine val _ (.int .u8 (sAt s j)) hr3.symm ?_ rfl trivial
      have hlt : j.toNat < s.size := by omega
      have hg : s[j.toNat]? = some s[j.toNat] := getElem?_pos s j.toNat hlt
      simp only [execOp, hax, hai, Instr.index, asIntOf, Sem.run_bind, Sem.run_pure, Result.andThen_ok, run_underlying ht.1, hc1, if_true, hg]
      simp [sAt, hlt]
  case slice t x lo hi mx => exact slice_sound hT h t x lo hi mx hr0 hn
  case sliceToArrayPointer t x =>
    have hx := h.ev x
    have ht := hT t
    cases htd : T t <;> rw [htd] at hr ht <;> (try simp only [reduceCtorEq] at hr)
    rename_i k n
    cases hxv : st.ev x <;> rw [hxv] at hr hx <;> (try simp only [reduceCtorEq] at hr)
    rename_i b lo hi
    obtain ⟨hc, hr2⟩ := cond_some hr
    injection hr2 with hr2
    obtain ⟨e, h1, _⟩ := ht
    obtain ⟨g, c, hg, hax, _⟩ := hx
    have hle := Nat.le_of_ble_eq_true hc
    refine val _ (.pointer (some ⟨g, lo, Option.none⟩)) hr2.symm ?_ ⟨g, hg, rfl⟩ (by have hxr := h.evR x; rw [hxv] at hxr; exact hxr)
    simp only [execOp, hax, Instr.arrayAt, Sem.run_bind, run_underlying h1, Result.andThen_ok]
    rw [if_neg (by omega)]; rfl
  case makeInterface t x =>
    have hx := h.ev x
    have ht := hT t
    cases htd : T t <;> rw [htd] at hr ht <;> (try simp only [reduceCtorEq] at hr)
    rename_i k
    cases k <;> (try simp only [reduceCtorEq] at hr)
    cases hxv : st.ev x <;> rw [hxv] at hr hx <;> (try simp only [reduceCtorEq] at hr)
    rename_i v
    cases v <;> (try simp only [reduceCtorEq] at hr)
    rename_i k n
    cases k <;> (try simp only [reduceCtorEq] at hr)
    injection hr with hr
    have hax : a.eval x = _ := hx
    exact val _ (.iface t (.int .i64 n)) hr.symm (by simp only [execOp, hax, Instr.makeInterface, Sem.run_bind, run_underlying ht.1, Result.andThen_ok, Sem.run_pure]) rfl trivial
  case range xt x =>
    cases dst <;> simp only [reduceCtorEq] at hr
    rename_i d
    have hx := h.ev x
    have ht := hT xt
    cases hd : getH st.heap d <;> rw [hd] at hr <;> (try simp only [reduceCtorEq] at hr)
    cases htd : T xt <;> rw [htd] at hr ht <;> (try simp only [reduceCtorEq] at hr)
    cases hxv : st.ev x <;> rw [hxv] at hr hx <;> (try simp only [reduceCtorEq] at hr)
    rename_i v
    cases v <;> (try simp only [reduceCtorEq] at hr)
    rename_i s
    obtain ⟨hl, hr2⟩ := cond_some hr
    injection hr2 with hr2
    subst hr2
    obtain ⟨β', h'⟩ := h.iter s hd (nblt.1 hl)
    have hax : a.eval x = .string s := hx
    exact wp_val (v := .pointer (some ⟨w.heap.size, 0, Option.none⟩)) (w' := w.alloc (.stringIter s 0)) (by simp [execOp, Instr.range, run_underlying ht.1, hax]) (hn β' _ _ h')
  case next x isS =>
    cases isS <;> (try simp only [reduceCtorEq] at hr)
    have hx := h.ev x
    cases hxv : st.ev x <;> rw [hxv] at hr hx <;> (try simp only [reduceCtorEq] at hr)
    rename_i b off
    cases off <;> (try simp only [reduceCtorEq] at hr)
    cases hob : getH st.heap b <;> rw [hob] at hr <;> (try simp only [reduceCtorEq] at hr)
    rename_i ob
    cases ob <;> (try simp only [reduceCtorEq] at hr)
    rename_i s p
    obtain ⟨g, hg, hax⟩ := hx
    obtain ⟨ob2, hob2, ho⟩ := h.heap b g hg
    rw [hob] at hob2; injection hob2 with hob2; subst hob2
    have hit : w.heap[g]? = some (.stringIter s p) := ho
    have hglt : g < w.heap.size := (Array.getElem?_eq_some_iff.1 hit).1
    cases hlt : Nat.blt p s.size <;> rw [hlt] at hr <;> simp only [cond_true, cond_false, Option.some.injEq] at hr <;> subst hr
    · have hp : ¬ p < s.size := by
        intro h
        rw [nblt.2 h] at hlt; cases hlt
      exact val (.tup [.v (.bool false)]) (.tuple #[.bool false]) rfl (by simp [execOp, hax, Instr.next, getObj, Sem.run, hit, hp]) ⟨[.bool false], rfl, rfl, trivial⟩ trivial
    · have hp := nblt.1 hlt
      have hw := h.write hg (ob' := .it s (p + (Utf8.decode s p).2)) (w' := { w with heap := w.heap.setIfInBounds g (.stringIter s (p + (Utf8.decode s p).2)) }) (fun g' hg' => Array.getElem?_setIfInBounds_ne (Ne.symm hg')) (by simp) rfl rfl rfl
        (fun ob2 hob2 => by rw [hob] at hob2; injection hob2 with hob2; subst hob2; rfl) rfl (fun _ _ _ => by
          show (w.heap.setIfInBounds g _)[g]? = _
          rw [Array.getElem?_setIfInBounds, if_pos rfl, if_pos hglt])
      refine wp_val (v := .tuple #[.bool true, .int .i64 p, .int .i32 (Utf8.decode s p).1]) (w' := { w with heap := w.heap.setIfInBounds g (.stringIter s (p + (Utf8.decode s p).2)) }) ?_ (hn β _ _ ?_)
      · simp only [execOp, hax, Instr.next, getObj, setObj, Sem.run_bind, Sem.run, hit, Result.andThen, hp, if_true]
        simp [goInt]
      · have h3 := hw.put dst (x := .tup [.v (.bool true), .v (.int .i64 (p : Nat)), .v (.int .i32 ((Utf8.decode s p).1 : Nat))]) (v := .tuple #[.bool true, .int .i64 p, .int .i32 (Utf8.decode s p).1]) ⟨[_, _, _], rfl, rfl, rfl, rfl, trivial⟩ trivial
        cases dst <;> exact h3
  case extract x j =>
    have hx := h.ev x
    cases hxv : st.ev x <;> rw [hxv] at hr hx <;> (try simp only [reduceCtorEq] at hr)
    rename_i ps
    obtain ⟨hc, hr2⟩ := cond_some hr
    injection hr2 with hr2
    obtain ⟨cs, hax, hl2⟩ := hx
    have hj : j < cs.length := by rw [← hl2.length]; exact nblt.1 (Bool.and_eq_true_iff.1 hc).1
    have hg : cs[j]? = some cs[j] := List.getElem?_eq_getElem hj
    exact val _ cs[j] hr2.symm (by simp [execOp, hax, Instr.extract, hg]) (hl2.getC j _ hg).vr (RR.free (Bool.and_eq_true_iff.1 hc).2)
  case call c =>
    obtain ⟨callee, args, argTypes⟩ := c
    cases callee <;> (try simp only [reduceCtorEq] at hr)
    case value f =>
      cases f <;> (try simp only [reduceCtorEq] at hr)
      exact absurd rfl (hnf _ _ rfl)
    case builtin b =>
      have hargs : ∀ x, VR L β w (st.ev x) (a.eval x) := h.ev
      obtain ⟨args⟩ := args
      obtain ⟨argTypes⟩ := argTypes
      cases b <;> (try simp only [reduceCtorEq] at hr)
      case len =>
        rcases args with _ | ⟨x, _ | ⟨x2, args⟩⟩ <;> (try simp only [reduceCtorEq] at hr)
        rcases argTypes with _ | ⟨t, _ | ⟨t2, ts⟩⟩ <;> (try simp only [reduceCtorEq] at hr)
        have hx := h.ev x
        have ht := hT t
        cases htd : T t <;> rw [htd] at hr ht <;> (try simp only [reduceCtorEq] at hr)
        case sl k e =>
          have h1 := ht.1
          cases hxv : st.ev x <;> rw [hxv] at hr hx <;> (try simp only [reduceCtorEq] at hr)
          case li k' xs =>
            injection hr with hr
            obtain ⟨A, cc, hax, _⟩ := hx
            exact val _ _ hr.symm (by simp [execOp, resolve, invoke, builtin, hax, Builtin.len_, run_underlying h1, goInt]) rfl trivial
          case own b =>
            simp only [rowFor, baseOf] at hr
            cases hob : getH st.heap b <;> rw [hob] at hr <;> (try simp only [reduceCtorEq] at hr)
            rename_i ob
            cases ob <;> (try simp only [reduceCtorEq] at hr)
            rename_i k' e' xs
            injection hr with hr
            have hxr := h.evR x
            rw [hxv] at hxr
            obtain ⟨A, cc, hax, _⟩ := hxr.li (pr := fun _ => False) hob (fun _ _ h => h)
            exact val _ _ hr.symm (by simp [execOp, resolve, invoke, builtin, hax, Builtin.len_, run_underlying h1, goInt]) rfl trivial
          case v v =>
            cases v <;> (try simp only [reduceCtorEq] at hr)
            rename_i A n cc
            cases A <;> (try simp only [reduceCtorEq] at hr)
            cases n <;> (try simp only [reduceCtorEq] at hr)
            cases cc <;> (try simp only [reduceCtorEq] at hr)
            injection hr with hr
            have hax : a.eval x = _ := hx
            exact val _ _ hr.symm (by simp [execOp, resolve, invoke, builtin, hax, Builtin.len_, run_underlying h1, goInt]) rfl trivial
        case str =>
          cases hxv : st.ev x <;> rw [hxv] at hr hx <;> (try simp only [reduceCtorEq] at hr)
          rename_i v
          cases v <;> (try simp only [reduceCtorEq] at hr)
          injection hr with hr
          have hax : a.eval x = _ := hx
          exact val _ _ hr.symm (by simp [execOp, resolve, invoke, builtin, hax, Builtin.len_, run_underlying ht.1, goInt]) rfl trivial
      case max =>
        rcases args with _ | ⟨x, _ | ⟨x2, _ | ⟨x3, args⟩⟩⟩ <;> (try simp only [reduceCtorEq] at hr)
        have hx := h.ev x
        have hx2 := h.ev x2
        cases hxv : st.ev x <;> rw [hxv] at hr hx <;> (try simp only [reduceCtorEq] at hr)
        rename_i v
        cases v <;> (try simp only [reduceCtorEq] at hr)
        cases hxv2 : st.ev x2 <;> rw [hxv2] at hr hx2 <;> (try simp only [reduceCtorEq] at hr)
        rename_i v
        cases v <;> (try simp only [reduceCtorEq] at hr)
        injection hr with hr
        have hax : a.eval x = _ := hx
        have hax2 : a.eval x2 = _ := hx2
        exact val _ _ hr.symm (by simp [execOp, resolve, invoke, builtin, hax, hax2, Builtin.max_, Builtin.max2]; rfl) rfl trivial
      case min =>
        rcases args with _ | ⟨x, _ | ⟨x2, _ | ⟨x3, args⟩⟩⟩ <;> (try simp only [reduceCtorEq] at hr)
        have hx := h.ev x
        have hx2 := h.ev x2
        cases hxv : st.ev x <;> rw [hxv] at hr hx <;> (try simp only [reduceCtorEq] at hr)
        rename_i v
        cases v <;> (try simp only [reduceCtorEq] at hr)
        cases hxv2 : st.ev x2 <;> rw [hxv2] at hr hx2 <;> (try simp only [reduceCtorEq] at hr)
        rename_i v
        cases v <;> (try simp only [reduceCtorEq] at hr)
        injection hr with hr
        have hax : a.eval x = _ := hx
        have hax2 : a.eval x2 = _ := hx2
        exact val _ _ hr.symm (by simp [execOp, resolve, invoke, builtin, hax, hax2, Builtin.min_, Builtin.min2]; rfl) rfl trivial
      case copy =>
        rcases args with _ | ⟨x, _ | ⟨y, _ | ⟨x3, args⟩⟩⟩ <;> (try simp only [reduceCtorEq] at hr)
        rcases argTypes with _ | ⟨t, _ | ⟨t2, _ | ⟨t3, ts⟩⟩⟩ <;> (try simp only [reduceCtorEq] at hr)
        cases htd : T t <;> rw [htd] at hr <;> (try simp only [reduceCtorEq] at hr)
        rename_i k e
        have hxr := h.evR x
        cases hxv : st.ev x <;> rw [hxv] at hr hxr <;> (try simp only [reduceCtorEq] at hr)
        rename_i b
        simp only [rowFor, baseOf] at hr
        cases hob : getH st.heap b <;> rw [hob] at hr <;> (try simp only [reduceCtorEq] at hr)
        rename_i ob
        cases ob <;> (try simp only [reduceCtorEq] at hr)
        rename_i k' e' xs
        cases hys : liOf st.heap k (st.ev y) <;> rw [hys] at hr <;> (try simp only [reduceCtorEq] at hr)
        rename_i ys
        obtain ⟨hc, hr2⟩ := cond_some hr
        injection hr2 with hr2
        simp only [Bool.and_eq_true, nbeq, ikEq_iff] at hc
        obtain ⟨⟨rfl, rfl⟩, rfl⟩ := hc
        subst hr2
        obtain ⟨ob2, hob2, _, hrow⟩ := hxr
        rw [hob] at hob2; injection hob2 with hob2
        obtain ⟨hown, hblk⟩ := hrow _ _ _ hob2.symm
        exact copy_sound hT h x y t htd hob hown hblk hys hn
      case append =>
        rcases args with _ | ⟨x, _ | ⟨y, _ | ⟨x3, args⟩⟩⟩ <;> (try simp only [reduceCtorEq] at hr)
        rcases argTypes with _ | ⟨t, _ | ⟨t2, _ | ⟨t3, ts⟩⟩⟩ <;> (try simp only [reduceCtorEq] at hr)
        cases dst <;> (try simp only [reduceCtorEq] at hr)
        rename_i d
        cases htd : T t <;> rw [htd] at hr <;> (try simp only [reduceCtorEq] at hr)
        rename_i k e
        cases hd : getH st.heap d <;> rw [hd] at hr <;> (try simp only [reduceCtorEq] at hr)
        have hxr := h.evR x
        have hx := h.ev x
        cases hb : baseOf st.heap (st.ev x) with
        | none =>
          rw [hb] at hr
          simp only at hr
          cases hys : liOf st.heap k (st.ev y) with
          | none => rw [hys] at hr; (repeat' split at hr) <;> simp_all
          | some ys =>
            rw [hys] at hr
            cases hxv : st.ev x <;> rw [hxv] at hr hx <;> (try simp only [reduceCtorEq] at hr)
            rename_i v
            cases v <;> (try simp only [reduceCtorEq] at hr)
            rename_i A n cc
            cases A <;> (try simp only [reduceCtorEq] at hr)
            cases n <;> (try simp only [reduceCtorEq] at hr)
            cases cc <;> (try simp only [reduceCtorEq] at hr)
            obtain ⟨hc, hr2⟩ := cond_some hr
            obtain ⟨hc2, hr3⟩ := cond_some hr2
            injection hr3 with hr3
            simp only [Bool.and_eq_true, nbeq, nblt] at hc
            obtain ⟨rfl, hl⟩ := hc
            have hc2 := Nat.le_of_ble_eq_true hc2
            have hax : a.eval x = _ := hx
            subst hr3
            exact append_sound hT h x y t (xs := []) htd hd hl (fun b hb => by simp at hb) (by rw [hax]; exact World.ownsRow_nil w _ _ _) (fun g hg => by rw [hax] at hg; cases hg) hys (by simp; omega) hn
        | some q =>
          obtain ⟨ks, k', e', xs⟩ := q
          rw [hb] at hr
          simp only at hr
          cases hys : liOf st.heap k (st.ev y) with
          | none => rw [hys] at hr; simp at hr
          | some ys =>
            rw [hys] at hr
            simp only at hr
            obtain ⟨hc, hr2⟩ := cond_some hr
            obtain ⟨hc2, hr3⟩ := cond_some hr2
            injection hr3 with hr3
            simp only [Bool.and_eq_true, nbeq, nblt, ikEq_iff] at hc
            obtain ⟨⟨⟨rfl, rfl⟩, rfl⟩, hl⟩ := hc
            have hc2 := Nat.le_of_ble_eq_true hc2
            subst hr3
            cases hxv : st.ev x <;> rw [hxv] at hb hxr <;> (try (simp only [baseOf, reduceCtorEq] at hb; done))
            rename_i b
            simp only [baseOf] at hb
            split at hb
            rotate_left
            · cases hb
            rename_i hob
            simp only [Option.some.injEq, Prod.mk.injEq] at hb
            obtain ⟨rfl, rfl, rfl, rfl⟩ := hb
            obtain ⟨ob2, hob2, _, hrow⟩ := hxr
            rw [hob] at hob2; injection hob2 with hob2
            obtain ⟨hown, hblk⟩ := hrow _ _ _ hob2.symm
            exact append_sound hT h x y t htd hd hl (by rintro b' hb'; simp at hb'; subst hb'; exact ⟨_, _, _, hob⟩) hown (fun g hg => ⟨b, by simp, by rw [← hblk]; exact hg⟩) hys hc2 hn
end ops
end Go.Proofs.YtcdhcihjcjpmkaaGreatDoor.Eng
