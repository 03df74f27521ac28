/- read.scan at the text "2e0", base 10, by its walk. No statement is proved here. -/
import Derived.Test.YtopcajgknbmbcaaGreatDoorEng12
import Derived.Test.YtopcajgknbmbcaaGreatDoorProg
import Derived.WalkKit
import Derived.BigCall
import Derived.LoopN
import Derived.Handy
import Derived.WalkMore
import Derived.Deep.QuietTactic
import Derived.BigQuiet
namespace Go.Proofs.YtopcajgknbmbcaaGreatDoor.Num
open Go Go.RowKit Go.Proofs Go.Proofs.YtopcajgknbmbcaaGreatDoor.Eng
set_option linter.unusedVariables false
set_option linter.unusedSimpArgs false
set_option maxRecDepth 20000
set_option maxHeartbeats 2000000 in
theorem run_walk (w : World) (B b : Nat) (hB : B ≤ b) (hb : w.heap[b]? = some (.cells #[.slice none 0 0, .int .i64 0, .int .i64 0, .bool false] 97 (0, 0))) :
    Calls Tryz.prog 92 #[.pointer (some ⟨b, 0, none⟩), .string ⟨#[50, 101, 48]⟩, .int .i64 10, .int .i64 0] w fun e w' => e = .returned (.tuple #[.string ⟨#[101, 48]⟩, .int .i64 1]) ∧
      ∃ v, w'.heap[b]? = some (.cells #[v, .int .i64 0, .int .i64 0, .bool false] 97 (0, 0)) ∧ w'.ownsRow (b + 1) 5 1 v 1 [.int .u8 2] ∧ Below B w w' := by
  have hlt : b < w.heap.size := (Array.getElem?_eq_some_iff.1 hb).1
  have hc0 : w.cell? ⟨b, 0, none⟩ = some (.slice none 0 0) := by simp [World.cell?, hb]
  have hc1 : w.cell? ⟨b, 1, none⟩ = some (.int .i64 0) := by simp [World.cell?, hb]
  have h50 : ∀ h, ((⟨#[50, 101, 48]⟩ : ByteArray)[0]'h).toNat = 50 := fun _ => rfl
  have h101 : ∀ h, ((⟨#[50, 101, 48]⟩ : ByteArray)[1]'h).toNat = 101 := fun _ => rfl
  have hx : (⟨#[50, 101, 48]⟩ : ByteArray).extract 1 3 = ⟨#[101, 48]⟩ := ByteArray.extract_mk [50, 101, 48] 1 3
  obtain ⟨i0, hi, hz0, hz1, hz2⟩ : ∃ i, Tryz.prog.info? 5 = some i ∧ i.zero = some (.int .u8 0) ∧ i.size = 1 ∧ i.bytes = 1 := by
    have h : (Tryz.prog.info? 5).map (fun i => (i.zero, i.size, i.bytes)) = some (some (.int .u8 0), 1, 1) := by kernel_rfl
    cases hi : Tryz.prog.info? 5 with
    | none => rw [hi] at h; cases h
    | some i => rw [hi] at h; injection h with h; injection h with h1 h2; injection h2 with h2 h3; exact ⟨i, rfl, h1, h2, h3⟩
  go_enter Tryz.func92, Tryz.ntmps92
  go_wp2
  go_step3
  go_wp2
  go_step3
  go_wp2
  refine wp_loop_rounds 3 ?_
  rw [rounds_succ]
  go_wp2_with (first
    | (at_builtin; refine wpList_append_own _ rfl _ _ 95 rfl (b + 1) 5 i0 (.int .u8 0) 1 1 Tryz.underlying95 hi hz0 hz1 hz2 rfl (by decide) _ _ _ rfl (World.ownsRow_nil _ _ _ _) ⟨w.heap.size, 0, none⟩ 1 1 [.int .u8 2] rfl rfl ?c1 ?c2 ?c3 ?c4 ?c5 ?_)
    | go_in)
  case c1 =>
    intro j u hj
    match j, hj with
    | 0, hj =>
      simp at hj; subst hj
      have e := heap_alloc_new w (.cells #[.int .u8 2] 5 (0, 0))
      rw [show ((⟨w.heap.size, 0, none⟩ : Addr).add 0) = ⟨w.heap.size, 0, none⟩ from rfl]
      simp only [World.cell?, e]; rfl
    | j + 1, hj => simp at hj
  case c2 => intro u hu; simp at hu; subst hu; rfl
  case c3 => decide
  case c4 => decide
  case c5 => simp; omega
  · intro v' w1 hown' hgrow _
    have hb1 : w1.heap[b]? = some (.cells #[.slice none 0 0, .int .i64 0, .int .i64 0, .bool false] 97 (0, 0)) := by
      rw [hgrow.block b (by simp; omega) (by simp [Value.ownBlock])]
      exact (Below.heap_alloc _ _ _ hlt).trans hb
    have hd0 : w1.cell? ⟨b, 0, none⟩ = some (.slice none 0 0) := by simp [World.cell?, hb1]
    have hd1 : w1.cell? ⟨b, 1, none⟩ = some (.int .i64 0) := by simp [World.cell?, hb1]
    have hf0 : w1.frozen? ⟨b, 0, none⟩ = false := by simp [World.frozen?, hb1]
    have hf1 : w1.frozen? ⟨b, 1, none⟩ = false := by simp [World.frozen?, hb1]
    obtain ⟨_, h0 | ⟨g, cap, cur, rfl, hg, hgh, hcap1, hcap2, hcur, htake⟩⟩ := hown'
    · cases h0.2
    go_wp2
    rw [rounds_succ]
    go_wp2
    rw [Exit.noGoto_ret]
    go_ret2
    refine ⟨by rw [← hx]; rfl, .slice (some ⟨g, 0, none⟩) 1 cap, ?_, ?_, ?_⟩
    · simp [World.setCell, Array.getElem?_modify, hb1]
    · refine ⟨rfl, .inr ⟨g, cap, cur, rfl, hg, ?_, hcap1, hcap2, hcur, htake⟩⟩
      rw [Below.heap_setCell _ _ _ _ (by show g ≠ b; omega), Below.heap_setCell _ _ _ _ (by show g ≠ b; omega)]
      exact hgh
    · have k1 : Below B w (w.alloc (.cells #[.int .u8 2] 5 (0, 0))) := (Below.refl B w).alloc (by omega) _
      have k2 := k1.grown hgrow (by simp; omega) (by intro k hk; cases hk)
      exact (k2.setCell hB _).setCell hB _
set_option maxHeartbeats 2000000 in
theorem whole_walk (w : World) : Calls Tryz.prog 93 #[.string ⟨#[48]⟩] w fun e w' => e = .returned (.tuple #[.int .i64 0, .string ⟨#[]⟩, .bool true]) ∧ ∃ n, w' = w.drewN n := by
  have h48 : ∀ h, ((⟨#[48]⟩ : ByteArray)[0]'h).toNat = 48 := fun _ => rfl
  have hx0 : (⟨#[48]⟩ : ByteArray).extract 0 1 = ⟨#[48]⟩ := ByteArray.extract_mk [48] 0 1
  have hx1 : (⟨#[48]⟩ : ByteArray).extract 1 1 = ⟨#[]⟩ := ByteArray.extract_mk [48] 1 1
  go_enter Tryz.func93, Tryz.ntmps93
  go_wp2
  refine wp_loop_rounds 2 ?_
  rw [rounds_succ]
  go_wp2
  rw [rounds_succ]
  go_wp2
  go_quiet (fail)
  go_wp2
  go_ret3
  exact ⟨rfl, nq, rfl⟩
theorem drewN_heap (w : World) (n : Nat) : (w.drewN n).heap = w.heap := by induction n generalizing w <;> simp_all [World.drewN]
theorem drewN_below (B : Nat) (w w' : World) (n : Nat) (h : Below B w w') : Below B w (w'.drewN n) := by
  have : ∀ n (w1 : World), Below B w w1 → Below B w (w1.drewN n) := by
    intro n
    induction n with
    | zero => exact fun _ h => h
    | succ n ih => exact fun w1 h => (ih w1 h).drew
  exact this n w' h
theorem scan_results (W : World) (tmps : Array Value) (b : Nat) (cs : Array Value) (h8 : tmps.getD 8 undef = .pointer (some ⟨b, 0, none⟩)) (h9 : tmps.getD 9 undef = .bool true) (hW : W.heap[b]? = some (.cells cs 97 (0, 0))) (hsz : cs.size = 4) :
    (results Tryz.f52 tmps).run Tryz.prog W = .ok (.tuple #[.agg cs, .bool true]) W := by
  have hi : (Tryz.prog.info? 97).map (·.size) = some 4 := by kernel_rfl
  have hl := run_loadVar_row (P := Tryz.prog) W b 97 97 cs (0, 0) _ hW Tryz.underlying97 rfl (by rw [hi, hsz])
  have hr : Tryz.f52.results = #[.cell 8 97, .tmp 9] := rfl
  rw [Array.getD_eq_getD_getElem?] at h8 h9
  simp [results, h8, h9, asAddr, hl]
set_option maxHeartbeats 2000000 in
theorem scan_walk (w : World) : Calls Tryz.prog 52 #[.string ⟨#[50, 101, 48]⟩, .int .i64 10, .string ⟨#[101]⟩, .bool false] w fun e w' => ∃ v, e = .returned (.tuple #[.agg #[v, .int .i64 0, .int .i64 0, .bool false], .bool true]) ∧
      w'.ownsRow w.heap.size 5 1 v 1 [.int .u8 2] ∧ Below w.heap.size w w' := by
  have hx : (⟨#[101, 48]⟩ : ByteArray).extract 0 1 = ⟨#[101]⟩ := ByteArray.extract_mk [101, 48] 0 1
  have hx1 : (⟨#[101, 48]⟩ : ByteArray).extract 1 2 = ⟨#[48]⟩ := ByteArray.extract_mk [101, 48] 1 2
  let z : Obj := .cells #[.slice none 0 0, .int .i64 0, .int .i64 0, .bool false] 97 (0, 0)
  have hb : ((w.alloc z).alloc z).heap[w.heap.size + 1]? = some z := heap_alloc2_new w z z
  have b0 : Below w.heap.size w ((w.alloc z).alloc z) := ((Below.refl _ w).alloc (Nat.le_refl _) z).alloc (by simp) z
  go_enter Tryz.func52, Tryz.ntmps52
  go_wp2_with (go_at_call 92; refine (run_walk _ (w.heap.size + 1) (w.heap.size + 1) (Nat.le_refl _) hb).mono ?_)
  rintro e W1 ⟨rfl, v, h1, h2, h3⟩
  obtain ⟨hk0, h0 | ⟨g, cap, cur, rfl, hg, hgh, hcap1, hcap2, hcur, htake⟩⟩ := h2
  · cases h0.2
  have hz : W1.heap[w.heap.size]? = some z := (h3.block _ (by omega)).trans (heap_alloc2_old w z z)
  have hd0 : W1.cell? ⟨w.heap.size + 1, 0, none⟩ = some (.slice (some ⟨g, 0, none⟩) 1 cap) := by simp [World.cell?, h1]
  have hd1 : W1.cell? ⟨w.heap.size + 1, 1, none⟩ = some (.int .i64 0) := by simp [World.cell?, h1]
  have hd2 : W1.cell? ⟨w.heap.size + 1, 2, none⟩ = some (.int .i64 0) := by simp [World.cell?, h1]
  have hd3 : W1.cell? ⟨w.heap.size + 1, 3, none⟩ = some (.bool false) := by simp [World.cell?, h1]
  have he0 : W1.cell? ⟨w.heap.size, 0, none⟩ = some (.slice none 0 0) := by simp [World.cell?, hz, z]
  have hf0 : W1.frozen? ⟨w.heap.size, 0, none⟩ = false := by simp [World.frozen?, hz, z]
  have he1 : W1.cell? ⟨w.heap.size, 1, none⟩ = some (.int .i64 0) := by simp [World.cell?, hz, z]
  have hf1 : W1.frozen? ⟨w.heap.size, 1, none⟩ = false := by simp [World.frozen?, hz, z]
  have he2 : W1.cell? ⟨w.heap.size, 2, none⟩ = some (.int .i64 0) := by simp [World.cell?, hz, z]
  have hf2 : W1.frozen? ⟨w.heap.size, 2, none⟩ = false := by simp [World.frozen?, hz, z]
  have he3 : W1.cell? ⟨w.heap.size, 3, none⟩ = some (.bool false) := by simp [World.cell?, hz, z]
  have hf3 : W1.frozen? ⟨w.heap.size, 3, none⟩ = false := by simp [World.frozen?, hz, z]
  have hg2 : W1.frozen? ⟨w.heap.size + 1, 2, none⟩ = false := by simp [World.frozen?, h1]
  go_wp2_with (first | (go_at_call 93; refine (whole_walk _).mono ?_) | go_in)
  rintro e W2 ⟨rfl, n, rfl⟩
  go_wp2
  refine bodyPost_ret (v := .tuple #[.agg #[.slice (some ⟨g, 0, none⟩) 1 cap, .int .i64 0, .int .i64 0, .bool false], .bool true]) (scan_results _ _ w.heap.size _ rfl rfl ?_ rfl) rfl ⟨_, rfl, ?_, ?_⟩
  · simp [World.setCell, Array.getElem?_modify, drewN_heap, hz, z]
  · refine ⟨rfl, .inr ⟨g, cap, cur, rfl, by omega, ?_, hcap1, hcap2, hcur, htake⟩⟩
    iterate 5 rw [Below.heap_setCell _ _ _ _ (by simp only; omega)]
    rw [drewN_heap]; exact hgh
  · have k1 : Below w.heap.size w W1 := b0.trans (h3.mono (by omega))
    exact (((((drewN_below _ _ _ n k1).setCell (by simp only; omega) _).setCell (by simp only; omega) _).setCell (by simp only; omega) _).setCell (by simp only; omega) _).setCell (by simp only; omega) _
def fn_scan (N : Nat) (s : ByteArray) (base : Int) (mark : ByteArray) (needed : Bool) : Option ((List Int × Int × Int × Bool) × Bool) :=
  cond (s.data.toList == [50, 101, 48] && eqI base 10 && mark.data.toList == [101] && eqB needed false) (some (([2], 0, 0, false), true)) none
theorem scan_ok (N : Nat) : FnOK Tryz.prog 52 (aC cStr (aC (cInt .i64) (aC cStr (aC cBool a0)))) (r2 (cSt (fC (lLi .u8) (fC (lInt .i64) (fC (lInt .i64) (fO lBool))))) cBool) (fun a => fn_scan N a.1 a.2.1 a.2.2.1 a.2.2.2.1) := by
  intro a p hap vals w L hL hGV hargs o act next Q hnext
  obtain ⟨d, f, m, n, _⟩ := a
  obtain ⟨hc, hap⟩ := cond_some (show cond (d.data.toList == [50, 101, 48] && eqI f 10 && m.data.toList == [101] && eqB n false) (some (([(2 : Int)], (0 : Int), (0 : Int), false), true)) none = some p from hap)
  injection hap with hap
  subst hap
  simp only [Bool.and_eq_true] at hc
  obtain ⟨⟨⟨h1, h2⟩, h3⟩, h4⟩ := hc
  have h1 : d = ⟨#[50, 101, 48]⟩ := ByteArray.ext (Array.toList_inj.mp (by simpa using h1))
  have h2 : f = 10 := by simpa [eqI] using h2
  have h3 : m = ⟨#[101]⟩ := ByteArray.ext (Array.toList_inj.mp (by simpa using h3))
  have h4 : n = false := by simpa [eqB] using h4
  subst h1; subst h2; subst h3; subst h4
  rcases vals with _ | ⟨v1, _ | ⟨v2, _ | ⟨v3, _ | ⟨v4, _ | ⟨v5, vs⟩⟩⟩⟩⟩
  · exact hargs.elim
  · exact hargs.2.elim
  · exact hargs.2.2.elim
  · exact hargs.2.2.2.elim
  rotate_left
  · exact hargs.2.2.2.2.elim
  have e1 : v1 = .string ⟨#[50, 101, 48]⟩ := hargs.1
  have e2 : v2 = .int .i64 10 := hargs.2.1
  have e3 : v3 = .string ⟨#[101]⟩ := hargs.2.2.1
  have e4 : v4 = .bool false := hargs.2.2.2.1
  subst e1; subst e2; subst e3; subst e4
  have hcf : (callFunc 52 #[.string ⟨#[50, 101, 48]⟩, .int .i64 10, .string ⟨#[101]⟩, .bool false]).run Tryz.prog w = .ok (.enter 52 #[.string ⟨#[50, 101, 48]⟩, .int .i64 10, .string ⟨#[101]⟩, .bool false]) w := by
    have hn : ¬ Tryz.f52.name = "runtime.NumGoroutine" := by
      have : (Tryz.f52.name == "runtime.NumGoroutine") = false := by kernel_rfl
      simpa using this
    obtain ⟨code, hb⟩ : ∃ code, Tryz.f52.body = some code := ⟨_, rfl⟩
    simp [callFunc, Tryz.func52, hn, hb]
  rw [show ([.string ⟨#[50, 101, 48]⟩, .int .i64 10, .string ⟨#[101]⟩, .bool false] : List Value).toArray = #[.string ⟨#[50, 101, 48]⟩, .int .i64 10, .string ⟨#[101]⟩, .bool false] from rfl, hcf, Oper.upon_enter]
  refine (scan_walk w).mono ?_
  rintro ev w' ⟨v, rfl, hown, hb⟩
  refine hnext _ _ hb ⟨[_, _], rfl, ⟨[_, _, _, _], rfl, ?_, rfl, rfl, rfl, trivial⟩, rfl, trivial⟩
  exact ownsRow.li hown fun g hg hL' => by
    obtain ⟨_, h0 | ⟨g', cap, cur, rfl, hgg, _⟩⟩ := hown
    · cases h0.2
    · simp [Value.ownBlock] at hg
      subst hg
      have := hL _ hL'
      omega
end Go.Proofs.YtopcajgknbmbcaaGreatDoor.Num
