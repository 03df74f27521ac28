/- THE LIBRARY'S slices.Clone AND slices.Reverse, as the engine wants them, out of the kit's contracts for these. No statement is proved here. -/
import Derived.Ground.SlgnProg
import Derived.Shelf.SlicesE.Clone
import Derived.Shelf.SlicesE.Reverse
import Derived.Test.YtcdhcihjcjpmkaaGreatDoorEng12
import Derived.Test.YtcdhcihjcjpmkaaGreatDoorProg
namespace Go.Proofs.YtcdhcihjcjpmkaaGreatDoor.Slc
open Go Go.Shelf Go.RowKit Go.Lib Go.Sort Go.Proofs Go.Proofs.YtcdhcihjcjpmkaaGreatDoor.Eng
set_option linter.unusedVariables false
set_option maxRecDepth 100000
set_option linter.unusedSimpArgs false
def laysRev_ren : Go.Shelf.Ren := ⟨fun | 35 => 110 | n => n, fun | 22 => 39 | 23 => 5 | 3 => 3 | 4 => 4 | 0 => 0 | n => n, fun | n => n⟩
theorem laysRev : Go.Proofs.SlLaysE.n35 Tryz.prog laysRev_ren := {
  mixed := by kernel_rfl
  f35 := ⟨Tryz.f110.name, by decide, Tryz.func110.trans (congrArg some (by kernel_rfl))⟩
  t0 := Tryz.underlying0
  a0 := Tryz.isAgg0
  z0 := Tryz.sizeOf0
  v0 := Tryz.zeroValue0
  t3 := Tryz.underlying3
  a3 := Tryz.isAgg3
  z3 := Tryz.sizeOf3
  v3 := Tryz.zeroValue3
  t4 := Tryz.underlying4
  a4 := Tryz.isAgg4
  z4 := Tryz.sizeOf4
  v4 := Tryz.zeroValue4
  t22 := Tryz.underlying39
  a22 := Tryz.isAgg39
  z22 := Tryz.sizeOf39
  v22 := Tryz.zeroValue39
  a23 := Tryz.isAgg5
  z23 := Tryz.sizeOf5 }
def laysClone_ren : Go.Shelf.Ren := ⟨fun | 41 => 108 | n => n, fun | 22 => 51 | 23 => 125 | 4 => 4 | n => n, fun | n => n⟩
theorem laysClone : Go.Proofs.SlLaysE0.n41 Tryz.prog laysClone_ren := {
  mixed := by kernel_rfl
  f41 := ⟨Tryz.f108.name, by decide, Tryz.func108.trans (congrArg some (by kernel_rfl))⟩
  t4 := Tryz.underlying4
  a4 := Tryz.isAgg4
  z4 := Tryz.sizeOf4
  v4 := Tryz.zeroValue4
  t22 := Tryz.underlying51
  a22 := Tryz.isAgg51
  z22 := Tryz.sizeOf51
  v22 := Tryz.zeroValue51 }
/-- slices.Clone: the same numbers -/
def fn_slices_Clone (N : Nat) (xs : List Int) : Option (List Int) := cond (leI xs.length 17592186044416) (some xs) none
theorem clone_ok (N : Nat) : FnOK Tryz.prog 108 (aC (cLi .u32) a0) (r1 (cLi .u32)) (fun a => fn_slices_Clone N a.1) := by
  intro a p hap vals w L hL hGV hargs o act next Q hnext
  obtain ⟨xs, _⟩ := a
  obtain ⟨hlen, hp⟩ := cond_some hap
  injection hp with hp
  subst hp
  rw [leI_iff] at hlen
  simp only at hlen
  rcases vals with _ | ⟨v, _ | ⟨v2, vs⟩⟩
  · exact hargs.elim
  rotate_left
  · exact hargs.2.elim
  have hv : LiR L w .u32 xs v := hargs.1
  obtain ⟨A, c, rfl, ⟨hc, hspot⟩, hrd⟩ := hv
  have hcf : (callFunc 108 #[.slice A xs.length c]).run Tryz.prog w = .ok (.enter 108 #[.slice A xs.length c]) w := by
    have hn : ¬ Tryz.f108.name = "runtime.NumGoroutine" := by
      have : (Tryz.f108.name == "runtime.NumGoroutine") = false := by kernel_rfl
      simpa using this
    obtain ⟨code, hb⟩ : ∃ code, Tryz.f108.body = some code := ⟨_, rfl⟩
    simp [callFunc, Tryz.func108, hn, hb]
  rw [show ([.slice A xs.length c] : List Value).toArray = #[.slice A xs.length c] from rfl, hcf, Oper.upon_enter]
  cases A with
  | none =>
    have hx : xs = [] := by
      cases xs with
      | nil => rfl
      | cons z r => obtain ⟨a, h, _⟩ := hrd 0 (by simp); cases h
    subst hx
    refine (AnyE.slices_Clone_nil laysClone _ c w).mono ?_
    rintro ev w' ⟨rfl, rfl⟩
    exact hnext _ _ (Below.refl _ _) ⟨none, 0, rfl, ⟨Nat.le_refl _, fun a ha => by cases ha⟩, fun i hi => by simp at hi⟩
  | some ad =>
    obtain ⟨b, off, sp⟩ := ad
    have hs : sp = none := hspot _ rfl
    subst hs
    have hi : (Tryz.prog.info? 125).map (fun i => (i.size, i.bytes, i.zero)) = some (1, 4, some (.int .u32 0)) := by kernel_rfl
    cases h0 : Tryz.prog.info? 125 with
    | none => rw [h0] at hi; cases hi
    | some i0 =>
      rw [h0] at hi
      injection hi with hi
      injection hi with h1 hi
      injection hi with h2 h3
      refine (AnyE.slices_Clone laysClone i0 (.int .u32 0) 1 4 h0 h3 h1 h2 rfl (by decide) Tryz.sizeOf125 b off xs.length c (xs.map (Value.int .u32)) w (by simp) (by unfold maxLen; omega) (by omega) (fun j u hu => ?_) (fun u hu => ?_)).mono ?_
      · have hj : j < xs.length := by have := (List.getElem?_eq_some_iff.1 hu).1; simpa using this
        obtain ⟨a2, e1, e2, _⟩ := hrd j hj
        injection e1 with e1
        subst e1
        rw [add0] at e2
        rw [e2]
        simp [List.getElem?_map, hj] at hu
        rw [← hu]; simp [List.getD_eq_getElem?_getD, hj]
      · simp at hu; obtain ⟨z, _, rfl⟩ := hu; rfl
      · rintro ev w' ⟨v', rfl, hown, _, hbw⟩
        refine hnext _ _ hbw (ownsRow.li hown fun g hg hLg => ?_)
        rcases hown.2 with ⟨rfl, _⟩ | ⟨g2, cap, cur, rfl, hb2, _⟩
        · cases hg
        · simp [Value.ownBlock] at hg
          have := hL g hLg
          omega

/-- slices.Reverse, in place -/
def revW : ∀ R : Type, TypeId → List AV → (List Int → AV → Option R) → Option R := fun R e args K => match args with
  | [.li .u8 xs] => K xs.reverse (.tup [])
  | _ => none
theorem rev_ok : WrOK Tryz.prog 110 revW := by
  intro R e k xs rest K p hF
  have h0 : k = .u8 ∧ rest = [] ∧ K xs.reverse (.tup []) = some p := by
    unfold revW at hF
    split at hF
    · rename_i xs' he
      injection he with e1 e2
      injection e1 with e1 e3
      subst e3
      exact ⟨e1, e2, hF⟩
    · cases hF
  obtain ⟨rfl, rfl, hK⟩ := h0
  refine ⟨xs.reverse, .tup [], hK, by simp, ?_⟩
  intro w base y vals hown hargs hGV _ o a next Q hn
  cases vals with
  | cons _ _ => exact hargs.elim
  | nil =>
  have hcf : (callFunc 110 #[y]).run Tryz.prog w = .ok (.enter 110 #[y]) w := by
    have hn : ¬ Tryz.f110.name = "runtime.NumGoroutine" := by
      have : (Tryz.f110.name == "runtime.NumGoroutine") = false := by kernel_rfl
      simpa using this
    obtain ⟨code, hb⟩ : ∃ code, Tryz.f110.body = some code := ⟨_, rfl⟩
    simp [callFunc, Tryz.func110, hn, hb]
  rw [show ([y] : List Value).toArray = #[y] from rfl, hcf, Oper.upon_enter]
  have hcells : ∀ g, y.ownBlock = some g → ∀ j u, (xs.map (Value.int .u8))[j]? = some u → w.cell? ((⟨g, 0, Option.none⟩ : Addr).add j) = some u := fun g hg => hown.cells hg
  rcases hown.2 with ⟨rfl, h0⟩ | ⟨g, cap, cur, rfl, hbg, hg, hnc, hcm, hcs, htake⟩
  · have hx : xs = [] := List.eq_nil_of_length_eq_zero h0
    subst hx
    refine (AnyE.slices_Reverse_empty laysRev none 0 w).mono ?_
    rintro ev w' ⟨rfl, rfl⟩
    exact hn _ _ ⟨[], rfl, trivial⟩ (fun _ _ _ => rfl) (Nat.le_refl _) rfl rfl rfl (fun g hg => by cases hg)
  · refine (AnyE.slices_Reverse laysRev (Value.int .u8) (fun _ => rfl) g 0 cap xs w (fun j hj => ?_) (by unfold maxLen at hcm; omega)).mono ?_
    · have hj' : j < xs.length := by simpa using hj
      constructor
      · have := hcells g rfl j (.int .u8 (xs.toArray[j]!)) (by simp [hj'])
        rw [add0] at this
        exact this
      · simp [World.frozen?, hg]
    · rintro ev w' ⟨rfl, n, rfl⟩
      refine hn _ _ ⟨[], rfl, trivial⟩ (fun g' _ hg' => ?_) ?_ rfl rfl rfl (fun g' hg' => ?_)
      · have hne : g ≠ g' := fun e => hg' (by simp [Value.ownBlock, e])
        simp [putRow, mapBlock, ahead, Array.getElem?_modify, hne]
      · simp [putRow, mapBlock, ahead]
      · simp [Value.ownBlock] at hg'
        subst hg'
        rw [Nat.mul_one] at hcs htake
        refine ⟨cur, putCells (Value.int .u8) 0 xs.reverse.toArray cur, hg, ?_, ?_, ?_⟩
        · simp [putRow, mapBlock, ahead, Array.getElem?_modify, hg, onCells]
        · simp [putCells]
        · apply List.ext_getElem?
          intro i
          by_cases hi : i < xs.length
          · have hic : i < cur.size := by omega
            simp [putCells, List.getElem?_take, hi, hic]
          · simp [List.getElem?_take, hi]
end Go.Proofs.YtcdhcihjcjpmkaaGreatDoor.Slc
