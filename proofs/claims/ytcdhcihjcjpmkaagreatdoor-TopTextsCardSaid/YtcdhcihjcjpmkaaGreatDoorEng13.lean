/- THE ENGINE, part 13: from what the evaluator says of a function to the kit's 'Calls'; the arguments of a row, opened as the evaluator's values. No statement is proved here. -/
import Derived.Test.YtcdhcihjcjpmkaaGreatDoorEng12
import Derived.ProofKit
import Derived.OpenShut
import Derived.Carry
import Derived.SizedLaws
namespace Go.Proofs.YtcdhcihjcjpmkaaGreatDoor.Eng
open Go Go.RowKit Go.ChangeShapes Go.WideShapes
set_option linter.unusedVariables false
set_option linter.unusedSimpArgs false

/-- a number that fits its kind -/
def okN (k : IntKind) (n : Int) : Prop := (Lit.int k n).wf = true
/-- numbers that fit their kind -/
def okL (k : IntKind) (l : List Int) : Prop := ∀ n ∈ l, okN k n

theorem Inv.calls {P : Program} {f : FuncId} {fn : Func} {code : Code} (hf : P.funcs[f]? = some fn) (hb : fn.body = some code) (hn : (fn.name == "runtime.NumGoroutine") = false) {args : List AV} {av : AV} (h : Inv P f args av) (vals : List Value) (w : World) (hgv : GV w) (hv : L2 (CR (fun _ => False) w) args vals) :
    Calls P f vals.toArray w fun e w' => ∃ v, e = .returned v ∧ Below w.heap.size w w' ∧ TR (fun _ => False) w' av v := by
  have h1 := h vals w (fun _ => False) (fun _ h => h.elim) hgv hv { dst := some 0, op := .move (.const .nilIface), type := 0, pos := "", after := #[], guard := none } { tmps := #[undef], defers := [] }
    (fun a' w' => ∃ v, a' = ({ tmps := #[undef], defers := [] } : Act).put (some 0) v ∧ Below w.heap.size w w' ∧ TR (fun _ => False) w' av v) (fun _ _ _ => False) (fun v w' h2 h3 => ⟨v, rfl, h2, h3⟩)
  have hcf : (callFunc f vals.toArray).run P w = .ok (.enter f vals.toArray) w := by
    have hn' : ¬ fn.name = "runtime.NumGoroutine" := by simpa using hn
    simp [callFunc, hf, hn', hb]
  rw [hcf, Oper.upon_enter] at h1
  refine h1.mono ?_
  intro e w' h2
  cases e with
  | returned v =>
    obtain ⟨v', h3, h4, h5⟩ := h2
    have : v = v' := by
      have h6 := congrArg (fun a : Act => a.tmps[0]?) h3
      simpa [Act.put] using h6
    exact ⟨v, rfl, h4, this ▸ h5⟩
  | panicked c => exact h2.elim
  | outgrown => exact absurd h2 (by simp [LetsOut])

section
variable {H : Type} {enc : TypeId × Value → H} {P : Program} {W : World} {t e : TypeId} {r : Reach} {b0 : Nat} {v : Value} {d : DataW H} {ps : List MemPlace} {sp : Nat → Bool} {held : Bool}
theorem arg_int {k : IntKind} (ht : P.underlying t = some (.int k)) (hv : Value.okWide P W r b0 t v) (h : DataW.Trod enc P W 0 sp held t v d ps) :
    ∃ a, okN k a ∧ CR (fun _ => False) W ((cInt k).enc a) v := by
  obtain ⟨a, rfl, rfl, rfl, wa⟩ := open_int ht hv h
  exact ⟨a, wa, rfl⟩
theorem arg_bool (ht : P.underlying t = some .bool) (hv : Value.okWide P W r b0 t v) (h : DataW.Trod enc P W 0 sp held t v d ps) :
    ∃ a, True ∧ CR (fun _ => False) W (cBool.enc a) v := by
  obtain ⟨a, rfl, rfl, rfl⟩ := open_bool ht hv h
  exact ⟨a, trivial, rfl⟩
theorem arg_str (ht : P.underlying t = some .string) (hv : Value.okWide P W r b0 t v) (h : DataW.Trod enc P W 0 sp held t v d ps) :
    ∃ a : ByteArray, a.size ≤ maxLen ∧ CR (fun _ => False) W (cStr.enc a) v := by
  obtain ⟨a, rfl, rfl, rfl, wa⟩ := Go.ChangeMaps.open_string ht hv h
  exact ⟨a, wa, rfl⟩
theorem cells_ints {k : IntKind} (he : P.underlying e = some (.int k)) (h1 : P.cellsOf e = 1) {m : Nat} : ∀ (n : Nat) (cs : List Value) (xs : List (DataW H × List MemPlace)), cs.length = n →
    (∀ i, i < n → DataW.trod enc P W 0 sp held m e ((cs.drop (i * P.cellsOf e)).take (P.cellsOf e)) = xs[i]?) → xs.length = n → ∃ l : List Int, okL k l ∧ l.length = n ∧ cs = l.map (Value.int k)
  | 0, cs, xs, hc, _, _ => ⟨[], (fun n hn => by cases hn), rfl, (by cases cs; rfl; cases hc)⟩
  | n + 1, c :: cs, x :: xs, hc, h, hx => by
    obtain ⟨l, h2, h3, h4⟩ := cells_ints he h1 n cs xs (by simpa using hc) (fun i hi => by
      have := h (i + 1) (by omega)
      rw [h1] at this ⊢
      simpa using this) (by simpa using hx)
    have h0 := h 0 (by omega)
    rw [h1] at h0
    simp only [Nat.zero_mul, List.drop_zero, List.take_succ_cons, List.take_zero, List.getElem?_cons_zero] at h0
    obtain ⟨a, ea, _, wa⟩ := DataW.trod_int he h0
    injection ea with ea _
    refine ⟨a :: l, ?_, by simp [h3], by simp [ea, h4]⟩
    intro z hz
    rcases List.mem_cons.1 hz with rfl | hz
    · exact wa
    · exact h2 z hz
  | n + 1, [], _, hc, _, _ => by cases hc
  | n + 1, _ :: _, [], _, _, hx => by cases hx
theorem arg_vec {k : IntKind} {n : Nat} (ht : P.underlying t = some (.array n e)) (he : P.underlying e = some (.int k)) (h1 : P.cellsOf e = 1) (hn : P.cellsOf t = n) (hv : Value.okWide P W r b0 t v) (h : DataW.Trod enc P W 0 sp held t v d ps) :
    ∃ a : Vec n, okL k a.1 ∧ CR (fun _ => False) W ((cVec k n).enc a) v := by
  obtain ⟨cs, rfl, hsz⟩ : ∃ cs, v = .agg cs ∧ cs.size = P.cellsOf t := by
    simp only [Value.okWide, ht] at hv
    obtain ⟨cs, h1, h2, _⟩ := hv
    exact ⟨cs, h1, h2⟩
  obtain ⟨fuel, hf⟩ := h
  obtain ⟨xs, m, _, _, hl, hx, hi⟩ := DataW.trod_array ht hf
  obtain ⟨l, h2, h3, h4⟩ := cells_ints he h1 n cs.toList xs (by simp [hsz, hn]) (fun i hi' => hi i hi') hx
  refine ⟨⟨l, h3⟩, h2, ?_⟩
  show Value.agg cs = .agg (l.map (Value.int k)).toArray
  rw [← h4]
theorem okWide_spot {W : World} {r : Reach} {b0 : Nat} {t e : TypeId} {a : Addr} {len cap : Nat} (ht : P.underlying t = some (.slice e)) (h : Value.okWide P W r b0 t (.slice (some a) len cap)) : a.spot = Option.none := by
  simp only [Value.okWide, ht, Cell.okWide, Cell.ok] at h
  exact h.2.2.2.1
theorem arg_ints {k : IntKind} (ht : P.underlying t = some (.slice e)) (he : P.underlying e = some (.int k)) (h1 : P.cellsOf e = 1) (hv : Value.okWide P W r b0 t v) (h : DataW.Trod enc P W 0 sp held t v d ps) :
    ∃ a : List Int, (okL k a ∧ a.length ≤ maxLen) ∧ CR (fun _ => False) W ((cLi k).enc a) v := by
  obtain ⟨A, len, cap, rfl⟩ := okWide_slice ht hv
  obtain ⟨fuel, hf⟩ := h
  rcases open_ints ht he h1 hf with ⟨h2, _⟩ | ⟨a, len', cap', zs, h2, _, h4, h5, h6, _, h8, h9⟩
  · simp [Value.cells] at h2
    obtain ⟨rfl, rfl, rfl⟩ := h2
    refine ⟨[], ⟨(fun n hn => by cases hn), Nat.zero_le _⟩, ⟨none, 0, rfl, ⟨Nat.le_refl _, fun a ha => by cases ha⟩, fun i hi => by cases hi⟩⟩
  · simp [Value.cells] at h2
    obtain ⟨rfl, rfl, rfl⟩ := h2
    have hzl : len ≤ zs.length := by rw [h6]; split <;> omega
    refine ⟨zs.take len, ⟨fun n hn => h9 n (List.mem_of_mem_take hn), by rw [List.length_take]; omega⟩, ⟨some a, cap, by simp [hzl], ⟨by simp [hzl]; exact h4, fun a' ha => by injection ha with ha; subst ha; exact okWide_spot ht hv⟩, ?_⟩⟩
    intro i hi
    rw [List.length_take] at hi
    refine ⟨a, rfl, ?_, fun h => h⟩
    rw [h8 i (by omega)]
    simp [List.getD_eq_getElem?_getD, List.getElem?_take, show i < len by omega]
end
end Go.Proofs.YtcdhcihjcjpmkaaGreatDoor.Eng
