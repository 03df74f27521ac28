/- strconv.Itoa and show.text at every text of digits, by a walk over the kit's contracts for strings.Builder and strconv.Itoa. No statement is proved here. -/
import Derived.Test.YtcdhcihjcjpmkaaGreatDoorShf
import Derived.Test.YtcdhcihjcjpmkaaGreatDoorEng12
import Derived.WalkKit
import Derived.BigCall
import Derived.Lib.AppendIntMem
namespace Go.Proofs.YtcdhcihjcjpmkaaGreatDoor.Num
open Go Go.RowKit Go.Proofs Go.Sort Go.Lib Go.Proofs.YtcdhcihjcjpmkaaGreatDoor.Eng
set_option linter.unusedVariables false
set_option linter.unusedSimpArgs false
set_option maxRecDepth 20000
/-- digits, the power of the first, and a sign, as a text -/
def textL (d : ByteArray) (n : Int) (m : Bool) : List UInt8 :=
  cond m [45] [] ++ ((d.extract 0 1).data.toList ++ (cond (Nat.blt 1 d.size) ([46] ++ (d.extract 1 d.size).data.toList) [] ++ ([101] ++ Lib.itoa n)))
theorem pow10_tab : (Lib.pow10Tab.map fun z => Value.int .u64 z) = [.int .u64 1, .int .u64 10, .int .u64 100, .int .u64 1000, .int .u64 10000, .int .u64 100000, .int .u64 1000000, .int .u64 10000000, .int .u64 100000000, .int .u64 1000000000, .int .u64 10000000000, .int .u64 100000000000, .int .u64 1000000000000, .int .u64 10000000000000, .int .u64 100000000000000, .int .u64 1000000000000000, .int .u64 10000000000000000, .int .u64 100000000000000000, .int .u64 1000000000000000000, .int .u64 10000000000000000000] := by kernel_rfl
theorem tab_of_GV {w : World} (h : GV w) : Lib.TabIs Tryz.prog w "internal/strconv.uint64pow10" .u64 Lib.pow10Tab := by
  obtain ⟨t, m, h1⟩ := h.2 (0, _) (by unfold gtabs; exact List.mem_cons_self ..)
  have hg : Tryz.prog.globalNamed "internal/strconv.uint64pow10" = some 0 := by kernel_rfl
  unfold Lib.TabIs World.var?
  rw [pow10_tab, hg]
  simp [h1]
theorem size_one (d : ByteArray) (h : 1 ≤ d.size) : (d.extract 0 1).size = 1 := by rw [ByteArray.size_extract]; omega
theorem cells_app (a b : List UInt8) : Lib.byteCells (a ++ b) = Lib.byteCells a ++ Lib.byteCells b := by simp [Lib.byteCells]
theorem cells_str (s : ByteArray) : Lib.strCells s = Lib.byteCells s.data.toList := rfl
theorem builder_grow {T e : TypeId} {B b : Nat} {p : Value} {bs : List Value} {w : World} (h : Lib.BuilderAt T e B b p bs w) (k : Nat) (os : Array Obj) : Lib.BuilderAt T e B b p bs (grow (w.drewN k) os) := by
  have hlt := h.lt
  obtain ⟨h1, v, h2, h3, h4⟩ := h
  exact ⟨h1, v, ((below_grow w.heap.size w (Nat.le_refl _) k os).block b hlt).trans h2, ownsRow_grow h3 k os, h4⟩
/-- the end of the walk: the mark, the power, and out -/
theorem lens (a b : List Value) (n : Nat) (h : a.length + b.length ≤ n) : (a ++ b).length ≤ n := by rw [List.length_append]; exact h
theorem dec_len : ∀ (k n : Nat), n < 10 ^ k → 0 < k → (Lib.decDigits n).length ≤ k
  | 0, n, _, h => by omega
  | k + 1, n, h, _ => by
    rw [Lib.decDigits]
    split
    · simp
    · rename_i hn
      rw [List.length_append]
      have h2 : n / 10 < 10 ^ k := by rw [Nat.pow_succ] at h; omega
      have hk : 0 < k := by
        rcases Nat.eq_zero_or_pos k with h3 | h3
        · subst h3; simp at h; omega
        · exact h3
      have := dec_len k (n / 10) h2 hk
      simp
      omega
theorem itoa_len (n : Int) (h0 : -1000000 ≤ n) (h1 : n ≤ 1000000) : (Lib.itoa n).length ≤ 9 := by
  unfold Lib.itoa
  split
  · have := dec_len 8 n.natAbs (by omega) (by decide)
    simp; omega
  · have := dec_len 8 n.toNat (by omega) (by decide)
    omega
set_option maxHeartbeats 1000000 in
theorem text_walk (d : ByteArray) (n : Int) (m : Bool) (h1 : 1 ≤ d.size) (h2 : d.size ≤ 100000) (n0 : -1000000 ≤ n) (n1 : n ≤ 1000000) (w : World) (hGV : GV w) : Calls Tryz.prog 16 #[.string d, .int .i64 n, .bool m] w fun e w' => e = .returned (.string ⟨(textL d n m).toArray⟩) ∧ Below w.heap.size w w' := by
  have h0 : Lib.IsBuilder 82 5 w.heap.size w.heap.size [] (w.alloc (.cells #[.pointer none, .slice none 0 0] 82 (0, 0))) := Lib.fresh_isBuilder 82 5 w
  have b0 : Below w.heap.size w (w.alloc (.cells #[.pointer none, .slice none 0 0] 82 (0, 0))) := (Below.refl _ w).alloc (Nat.le_refl _) _
  have hS1 : (d.extract 0 1).size = 1 := size_one d h1
  have hS2 : (d.extract 1 d.size).size ≤ 100000 := by rw [ByteArray.size_extract]; omega
  have hI := itoa_len n n0 n1
  have hI2 : (⟨(Lib.itoa n).toArray⟩ : ByteArray).size ≤ 9 := hI
  cases m
  · go_enter Tryz.func16, Tryz.ntmps16
    go_wp2_with (go_at_call 37; refine (Shf.WriteString w.heap.size w.heap.size _ (d.extract 0 1) _ (h0) (by simp [Lib.strCells_length, hS1, hI2]; try omega) (b0.size)).mono ?_)
    rintro e W1 ⟨rfl, g1, b1⟩
    go_wp2_with (go_at_call 36; refine (Shf.WriteByte w.heap.size w.heap.size _ _ _ (Or.inr g1) (by simp [Lib.strCells_length, hS1]; try omega) (Nat.le_trans b0.size (b1.size))).mono ?_)
    · rintro e W2 ⟨rfl, g2, b2⟩
      have hbig : Nat.blt 1 d.size = true := by rw [Nat.blt_eq]; omega
      go_wp2_with (go_at_call 37; refine (Shf.WriteString w.heap.size w.heap.size _ (d.extract 1 d.size) _ (Or.inr g2) (by simp [Lib.strCells_length, hS1, hI2]; try omega) (Nat.le_trans b0.size (Nat.le_trans b1.size (b2.size)))).mono ?_)
      rintro e W3 ⟨rfl, g3, b3⟩
      go_wp2_with (go_at_call 36; refine (Shf.WriteByte w.heap.size w.heap.size _ _ _ (Or.inr g3) (by simp [Lib.strCells_length, hS1]; try omega) (Nat.le_trans b0.size (Nat.le_trans b1.size (Nat.le_trans b2.size (b3.size))))).mono ?_)
      rintro e W4 ⟨rfl, g4, b4⟩
      have bT := b0.trans (b1.trans (b2.trans (b3.trans (b4))))
      go_wp2_with (go_at_call 22; refine (Shf.strconv_Itoa n (by omega) (by omega) _ (tab_of_GV (hGV.turn bT))).mono ?_)
      rintro e W5 ⟨rfl, kk, os, rfl⟩
      have b5 := below_grow w.heap.size W4 bT.size kk os
      have g5 := builder_grow g4 kk os
      go_wp2_with (go_at_call 37; refine (Shf.WriteString w.heap.size w.heap.size _ ⟨(Lib.itoa n).toArray⟩ _ (Or.inr g5) (by simp [Lib.strCells_length, hS1, hI2]; try omega) (Nat.le_trans bT.size (b5.size))).mono ?_)
      rintro e W6 ⟨rfl, g6, b6⟩
      have g6' : Lib.IsBuilder 82 5 w.heap.size w.heap.size (Lib.byteCells (textL d n false)) W6 := by
        refine Or.inr ?_
        have e1 := g6
        unfold textL; rw [hbig]
        simpa [Lib.byteCells, Lib.strCells] using e1
      have hne : textL d n false ≠ [] := by unfold textL; simp
      go_wp2_with (go_at_call 38; refine (Shf.Builder_String w.heap.size w.heap.size (textL d n false) _ g6' hne).mono ?_)
      rintro e W7 ⟨rfl, b7⟩
      go_wp2
      go_ret
      exact ⟨rfl, bT.trans (b5.trans (b6.trans b7))⟩
    · rintro e W2 ⟨rfl, g2, b2⟩
      have hbig : Nat.blt 1 d.size = false := by cases hb : Nat.blt 1 d.size with | false => rfl | true => rw [Nat.blt_eq] at hb; omega
      have bT := b0.trans (b1.trans (b2))
      go_wp2_with (go_at_call 22; refine (Shf.strconv_Itoa n (by omega) (by omega) _ (tab_of_GV (hGV.turn bT))).mono ?_)
      rintro e W5 ⟨rfl, kk, os, rfl⟩
      have b5 := below_grow w.heap.size W2 bT.size kk os
      have g5 := builder_grow g2 kk os
      go_wp2_with (go_at_call 37; refine (Shf.WriteString w.heap.size w.heap.size _ ⟨(Lib.itoa n).toArray⟩ _ (Or.inr g5) (by simp [Lib.strCells_length, hS1, hI2]; try omega) (Nat.le_trans bT.size (b5.size))).mono ?_)
      rintro e W6 ⟨rfl, g6, b6⟩
      have g6' : Lib.IsBuilder 82 5 w.heap.size w.heap.size (Lib.byteCells (textL d n false)) W6 := by
        refine Or.inr ?_
        have e1 := g6
        unfold textL; rw [hbig]
        simpa [Lib.byteCells, Lib.strCells] using e1
      have hne : textL d n false ≠ [] := by unfold textL; simp
      go_wp2_with (go_at_call 38; refine (Shf.Builder_String w.heap.size w.heap.size (textL d n false) _ g6' hne).mono ?_)
      rintro e W7 ⟨rfl, b7⟩
      go_wp2
      go_ret
      exact ⟨rfl, bT.trans (b5.trans (b6.trans b7))⟩
  · go_enter Tryz.func16, Tryz.ntmps16
    go_wp2_with (go_at_call 36; refine (Shf.WriteByte w.heap.size w.heap.size _ _ _ (h0) (by simp [Lib.strCells_length, hS1]; try omega) (b0.size)).mono ?_)
    rintro e Wm ⟨rfl, gm, bm⟩
    go_wp2_with (go_at_call 37; refine (Shf.WriteString w.heap.size w.heap.size _ (d.extract 0 1) _ (Or.inr gm) (by simp [Lib.strCells_length, hS1, hI2]; try omega) (Nat.le_trans b0.size (bm.size))).mono ?_)
    rintro e W1 ⟨rfl, g1, b1⟩
    go_wp2_with (go_at_call 36; refine (Shf.WriteByte w.heap.size w.heap.size _ _ _ (Or.inr g1) (by simp [Lib.strCells_length, hS1]; try omega) (Nat.le_trans b0.size (Nat.le_trans bm.size (b1.size)))).mono ?_)
    · rintro e W2 ⟨rfl, g2, b2⟩
      have hbig : Nat.blt 1 d.size = true := by rw [Nat.blt_eq]; omega
      go_wp2_with (go_at_call 37; refine (Shf.WriteString w.heap.size w.heap.size _ (d.extract 1 d.size) _ (Or.inr g2) (by simp [Lib.strCells_length, hS1, hI2]; try omega) (Nat.le_trans b0.size (Nat.le_trans bm.size (Nat.le_trans b1.size (b2.size))))).mono ?_)
      rintro e W3 ⟨rfl, g3, b3⟩
      go_wp2_with (go_at_call 36; refine (Shf.WriteByte w.heap.size w.heap.size _ _ _ (Or.inr g3) (by simp [Lib.strCells_length, hS1]; try omega) (Nat.le_trans b0.size (Nat.le_trans bm.size (Nat.le_trans b1.size (Nat.le_trans b2.size (b3.size)))))).mono ?_)
      rintro e W4 ⟨rfl, g4, b4⟩
      have bT := b0.trans (bm.trans (b1.trans (b2.trans (b3.trans (b4)))))
      go_wp2_with (go_at_call 22; refine (Shf.strconv_Itoa n (by omega) (by omega) _ (tab_of_GV (hGV.turn bT))).mono ?_)
      rintro e W5 ⟨rfl, kk, os, rfl⟩
      have b5 := below_grow w.heap.size W4 bT.size kk os
      have g5 := builder_grow g4 kk os
      go_wp2_with (go_at_call 37; refine (Shf.WriteString w.heap.size w.heap.size _ ⟨(Lib.itoa n).toArray⟩ _ (Or.inr g5) (by simp [Lib.strCells_length, hS1, hI2]; try omega) (Nat.le_trans bT.size (b5.size))).mono ?_)
      rintro e W6 ⟨rfl, g6, b6⟩
      have g6' : Lib.IsBuilder 82 5 w.heap.size w.heap.size (Lib.byteCells (textL d n true)) W6 := by
        refine Or.inr ?_
        have e1 := g6
        unfold textL; rw [hbig]
        simpa [Lib.byteCells, Lib.strCells] using e1
      have hne : textL d n true ≠ [] := by unfold textL; simp
      go_wp2_with (go_at_call 38; refine (Shf.Builder_String w.heap.size w.heap.size (textL d n true) _ g6' hne).mono ?_)
      rintro e W7 ⟨rfl, b7⟩
      go_wp2
      go_ret
      exact ⟨rfl, bT.trans (b5.trans (b6.trans b7))⟩
    · rintro e W2 ⟨rfl, g2, b2⟩
      have hbig : Nat.blt 1 d.size = false := by cases hb : Nat.blt 1 d.size with | false => rfl | true => rw [Nat.blt_eq] at hb; omega
      have bT := b0.trans (bm.trans (b1.trans (b2)))
      go_wp2_with (go_at_call 22; refine (Shf.strconv_Itoa n (by omega) (by omega) _ (tab_of_GV (hGV.turn bT))).mono ?_)
      rintro e W5 ⟨rfl, kk, os, rfl⟩
      have b5 := below_grow w.heap.size W2 bT.size kk os
      have g5 := builder_grow g2 kk os
      go_wp2_with (go_at_call 37; refine (Shf.WriteString w.heap.size w.heap.size _ ⟨(Lib.itoa n).toArray⟩ _ (Or.inr g5) (by simp [Lib.strCells_length, hS1, hI2]; try omega) (Nat.le_trans bT.size (b5.size))).mono ?_)
      rintro e W6 ⟨rfl, g6, b6⟩
      have g6' : Lib.IsBuilder 82 5 w.heap.size w.heap.size (Lib.byteCells (textL d n true)) W6 := by
        refine Or.inr ?_
        have e1 := g6
        unfold textL; rw [hbig]
        simpa [Lib.byteCells, Lib.strCells] using e1
      have hne : textL d n true ≠ [] := by unfold textL; simp
      go_wp2_with (go_at_call 38; refine (Shf.Builder_String w.heap.size w.heap.size (textL d n true) _ g6' hne).mono ?_)
      rintro e W7 ⟨rfl, b7⟩
      go_wp2
      go_ret
      exact ⟨rfl, bT.trans (b5.trans (b6.trans b7))⟩
def fn_text (N : Nat) (d : ByteArray) (f : Int) (m : Bool) : Option ByteArray := cond (Nat.ble 1 d.size && Nat.ble d.size 100000 && leI (-1000000) f && leI f 1000000) (some ⟨(textL d f m).toArray⟩) none
theorem text_ok (N : Nat) : FnOK Tryz.prog 16 (aC cStr (aC (cInt .i64) (aC cBool a0))) (r1 cStr) (fun a => fn_text N a.1 a.2.1 a.2.2.1) := by
  intro a p hap vals w L hL hGV hargs o act next Q hnext
  obtain ⟨d, f, m, _⟩ := a
  obtain ⟨hc, hap⟩ := cond_some (show cond (Nat.ble 1 d.size && Nat.ble d.size 100000 && leI (-1000000) f && leI f 1000000) (some (⟨(textL d f m).toArray⟩ : ByteArray)) none = some p from hap)
  injection hap with hap
  subst hap
  simp only [Bool.and_eq_true, Nat.ble_eq, leI_iff] at hc
  obtain ⟨⟨⟨h1, h2⟩, h3⟩, h4⟩ := hc
  rcases vals with _ | ⟨v1, _ | ⟨v2, _ | ⟨v3, _ | ⟨v4, vs⟩⟩⟩⟩
  · exact hargs.elim
  · exact hargs.2.elim
  · exact hargs.2.2.elim
  rotate_left
  · exact hargs.2.2.2.elim
  have e1 : v1 = .string d := hargs.1
  have e2 : v2 = .int .i64 f := hargs.2.1
  have e3 : v3 = .bool m := hargs.2.2.1
  subst e1; subst e2; subst e3
  have hcf : (callFunc 16 #[.string d, .int .i64 f, .bool m]).run Tryz.prog w = .ok (.enter 16 #[.string d, .int .i64 f, .bool m]) w := by
    have hn : ¬ Tryz.f16.name = "runtime.NumGoroutine" := by
      have : (Tryz.f16.name == "runtime.NumGoroutine") = false := by kernel_rfl
      simpa using this
    obtain ⟨code, hb⟩ : ∃ code, Tryz.f16.body = some code := ⟨_, rfl⟩
    simp [callFunc, Tryz.func16, hn, hb]
  rw [show ([.string d, .int .i64 f, .bool m] : List Value).toArray = #[.string d, .int .i64 f, .bool m] from rfl, hcf, Oper.upon_enter]
  refine (text_walk d f m h1 h2 h3 h4 w hGV).mono ?_
  rintro ev w' ⟨rfl, hb⟩
  exact hnext _ _ hb rfl
def fn_itoa (N : Nat) (n : Int) : Option ByteArray := cond (leI (-1000000) n && leI n 1000000) (some ⟨(Lib.itoa n).toArray⟩) none
theorem itoa_ok (N : Nat) : FnOK Tryz.prog 22 (aC (cInt .i64) a0) (r1 cStr) (fun a => fn_itoa N a.1) := by
  intro a p hap vals w L hL hGV hargs o act next Q hnext
  obtain ⟨n, _⟩ := a
  obtain ⟨hc, hap⟩ := cond_some (show cond (leI (-1000000) n && leI n 1000000) (some (⟨(Lib.itoa n).toArray⟩ : ByteArray)) none = some p from hap)
  injection hap with hap
  subst hap
  simp only [Bool.and_eq_true, leI_iff] at hc
  obtain ⟨h3, h4⟩ := hc
  rcases vals with _ | ⟨v1, _ | ⟨v2, vs⟩⟩
  · exact hargs.elim
  rotate_left
  · exact hargs.2.elim
  have e1 : v1 = .int .i64 n := hargs.1
  subst e1
  have hcf : (callFunc 22 #[.int .i64 n]).run Tryz.prog w = .ok (.enter 22 #[.int .i64 n]) w := by
    have hn : ¬ Tryz.f22.name = "runtime.NumGoroutine" := by
      have : (Tryz.f22.name == "runtime.NumGoroutine") = false := by kernel_rfl
      simpa using this
    obtain ⟨code, hb⟩ : ∃ code, Tryz.f22.body = some code := ⟨_, rfl⟩
    simp [callFunc, Tryz.func22, hn, hb]
  rw [show ([.int .i64 n] : List Value).toArray = #[.int .i64 n] from rfl, hcf, Oper.upon_enter]
  refine (Shf.strconv_Itoa n (by omega) (by omega) w (tab_of_GV hGV)).mono ?_
  rintro ev w' ⟨rfl, kk, os, rfl⟩
  exact hnext _ _ (below_grow w.heap.size w (Nat.le_refl _) kk os) rfl
end Go.Proofs.YtcdhcihjcjpmkaaGreatDoor.Num
