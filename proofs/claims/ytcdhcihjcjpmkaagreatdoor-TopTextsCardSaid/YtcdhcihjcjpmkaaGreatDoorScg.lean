/- read.scan at every text, by its walk. No statement is proved here. -/
import Derived.Test.YtcdhcihjcjpmkaaGreatDoorFds
import Derived.Test.YtcdhcihjcjpmkaaGreatDoorEng13
import Derived.WalkKit
import Derived.BigCall
import Derived.LoopN
import Derived.Handy
import Derived.WalkMore
import Derived.Deep.QuietTactic
import Derived.BigQuiet
namespace Go.Proofs.YtcdhcihjcjpmkaaGreatDoor.Num
open Go Go.RowKit Go.Proofs Go.Proofs.YtcdhcihjcjpmkaaGreatDoor.Eng
set_option linter.unusedVariables false
set_option linter.unusedSimpArgs false
set_option maxRecDepth 20000
theorem rounds_ind {P : Program} {c : Code} {Q : Exit → Act → World → Prop} {ι : Type} (Inv : ι → Act → World → Prop) (m : ι → Nat)
    (step : ∀ x a w, Inv x a w → ∀ R : Act → World → Prop, (∀ y a' w', m y < m x → Inv y a' w' → R a' w') → c.wp P (Exit.then R Q) a w) : ∀ n x a w, Inv x a w → m x < n → Code.rounds P c Q n a w
  | 0, x, a, w, _, h => absurd h (Nat.not_lt_zero _)
  | n + 1, x, a, w, hI, h => step x a w hI (Code.rounds P c Q n) fun y a' w' hlt hy => rounds_ind Inv m step n y a' w' hy (by omega)
theorem own_below {w w' : World} {base : Nat} {e : TypeId} {v : Value} {n : Nat} {xs : List Value} (h : w.ownsRow base e 1 v n xs) (hb : Below w.heap.size w w') : w'.ownsRow base e 1 v n xs := by
  obtain ⟨h1, h0 | ⟨g, cap, cur, rfl, hg, hgh, hr⟩⟩ := h
  · exact ⟨h1, .inl h0⟩
  · exact ⟨h1, .inr ⟨g, cap, cur, rfl, hg, (hb.block g (Array.getElem?_eq_some_iff.1 hgh).1).trans hgh, hr⟩⟩
/-- a digit of a base -/
def dval (c : Nat) (base : Int) : Option Nat := if 48 ≤ c ∧ c ≤ 57 then some (c - 48) else if base = 16 ∧ 97 ≤ c ∧ c ≤ 102 then some (c - 87) else none
def dpair (c : Nat) (base : Int) : Int × Bool := match dval c base with | some d => ((d : Int), true) | none => (0, false)
theorem digit_eq (c : Nat) (base : Int) : Fds.fn_read_digit 0 (c : Int) base = some (dpair c base) := by
  have w1 : ∀ x : Int, IntKind.u8.wrap x = x % 256 := fun x => by simp [IntKind.wrap, IntKind.bits, IntKind.signed]
  unfold Fds.fn_read_digit dpair dval
  by_cases h1 : 48 ≤ c
  · rw [show leI 48 (c : Int) = true from leI_iff.2 (by omega), cond_true]
    by_cases h2 : c ≤ 57
    · rw [show leI (c : Int) 57 = true from leI_iff.2 (by omega), cond_true, if_pos ⟨h1, h2⟩]
      show some (subI .u8 (c : Int) 48, true) = some (((c - 48 : Nat) : Int), true)
      unfold subI; rw [w1]; congr 2; omega
    · rw [show leI (c : Int) 57 = false by cases h : leI (c : Int) 57 with | false => rfl | true => (have := leI_iff.1 h; omega), cond_false, if_neg (by omega)]
      by_cases h3 : base = 16
      · rw [h3, show eqI 16 16 = true from rfl, cond_true]
        by_cases h4 : 97 ≤ c
        · rw [show leI 97 (c : Int) = true from leI_iff.2 (by omega), cond_true]
          by_cases h5 : c ≤ 102
          · rw [show leI (c : Int) 102 = true from leI_iff.2 (by omega), cond_true, if_pos ⟨rfl, h4, h5⟩]
            show some (addI .u8 (subI .u8 (c : Int) 97) 10, true) = some (((c - 87 : Nat) : Int), true)
            unfold addI subI; rw [w1, w1]; congr 2; omega
          · rw [show leI (c : Int) 102 = false by cases h : leI (c : Int) 102 with | false => rfl | true => (have := leI_iff.1 h; omega), cond_false, if_neg (by omega)]
        · rw [show leI 97 (c : Int) = false by cases h : leI 97 (c : Int) with | false => rfl | true => (have := leI_iff.1 h; omega), cond_false, if_neg (by omega)]
      · rw [show eqI base 16 = false by simpa [eqI] using h3, cond_false, if_neg (by omega)]
  · rw [show leI 48 (c : Int) = false by cases h : leI 48 (c : Int) with | false => rfl | true => (have := leI_iff.1 h; omega), cond_false, if_neg (by omega)]
    by_cases h3 : base = 16
    · rw [h3, show eqI 16 16 = true from rfl, cond_true, show leI 97 (c : Int) = false by cases h : leI 97 (c : Int) with | false => rfl | true => (have := leI_iff.1 h; omega), cond_false, if_neg (by omega)]
    · rw [show eqI base 16 = false by simpa [eqI] using h3, cond_false, if_neg (by omega)]
theorem tup2 {L : Nat → Prop} {w : World} {x y : AV} {v : Value} (h : TR L w (.tup [x, y]) v) : ∃ v1 v2, v = .tuple #[v1, v2] ∧ CR L w x v1 ∧ CR L w y v2 := by
  obtain ⟨cs, rfl, h2⟩ := h
  rcases cs with _ | ⟨v1, _ | ⟨v2, _ | ⟨v3, cs⟩⟩⟩
  · exact h2.elim
  · exact h2.2.elim
  · exact ⟨v1, v2, rfl, h2.1, h2.2.1⟩
  · exact h2.2.2.elim
theorem tup3 {L : Nat → Prop} {w : World} {x y z : AV} {v : Value} (h : TR L w (.tup [x, y, z]) v) : ∃ v1 v2 v3, v = .tuple #[v1, v2, v3] ∧ CR L w x v1 ∧ CR L w y v2 ∧ CR L w z v3 := by
  obtain ⟨cs, rfl, h2⟩ := h
  rcases cs with _ | ⟨v1, _ | ⟨v2, _ | ⟨v3, _ | ⟨v4, cs⟩⟩⟩⟩
  · exact h2.elim
  · exact h2.2.elim
  · exact h2.2.2.elim
  · exact ⟨v1, v2, v3, rfl, h2.1, h2.2.1, h2.2.2.1⟩
  · exact h2.2.2.2.elim
theorem digit_calls (c : Nat) (base : Int) (w : World) (hGV : GV w) : Calls Tryz.prog 71 #[.int .u8 c, .int .i64 base] w fun e w' => e = .returned (.tuple #[.int .u8 (dpair c base).1, .bool (dpair c base).2]) ∧ Below w.heap.size w w' := by
  have hI := Fds.ok71 0 ((c : Int), base, ()) _ (digit_eq c base)
  refine (hI.calls (code := Fds.c71) Tryz.func71 (by kernel_rfl) (by kernel_rfl) [.int .u8 c, .int .i64 base] w hGV ⟨rfl, rfl, trivial⟩).mono ?_
  rintro e w' ⟨v, rfl, hb, hv⟩
  obtain ⟨v1, v2, rfl, a1, a2⟩ := tup2 hv
  have e1 : v1 = .int .u8 (dpair c base).1 := a1
  have e2 : v2 = .bool (dpair c base).2 := a2
  subst e1; subst e2
  exact ⟨rfl, hb⟩
theorem dval_lt {c : Nat} {base : Int} {n : Nat} (h : dval c base = some n) : n < 16 := by
  unfold dval at h
  split at h
  · injection h with h; omega
  · split at h
    · injection h with h; omega
    · cases h
theorem digit_calls2 (c : Nat) (base : Int) (w : World) (hGV : GV w) : Calls Tryz.prog 71 #[.int .u8 c, .int .i64 base] w fun e w' => ∃ d is, e = .returned (.tuple #[.int .u8 d, .bool is]) ∧ ((dval c base = none ∧ d = 0 ∧ is = false) ∨ ∃ n : Nat, dval c base = some n ∧ n < 16 ∧ d = (n : Int) ∧ is = true) ∧ Below w.heap.size w w' := by
  refine (digit_calls c base w hGV).mono ?_
  rintro e w' ⟨rfl, hb⟩
  refine ⟨_, _, rfl, ?_, hb⟩
  unfold dpair
  cases h : dval c base with
  | none => exact .inl ⟨rfl, rfl, rfl⟩
  | some n => exact .inr ⟨n, rfl, dval_lt h, rfl, rfl⟩
theorem prefix_calls (s t : ByteArray) (w : World) (hGV : GV w) (r : Bool) (h : Fds.fn_strings_HasPrefix 0 s t = some r) : Calls Tryz.prog 9 #[.string s, .string t] w fun e w' => e = .returned (.bool r) ∧ Below w.heap.size w w' := by
  have hI := Fds.ok9 0 (s, t, ()) _ h
  refine (hI.calls (code := Fds.c9) Tryz.func9 (by kernel_rfl) (by kernel_rfl) [.string s, .string t] w hGV ⟨rfl, rfl, trivial⟩).mono ?_
  rintro e w' ⟨v, rfl, hb, hv⟩
  have e1 : v = .bool r := hv
  subst e1
  exact ⟨rfl, hb⟩
theorem cutp_calls (s t : ByteArray) (w : World) (hGV : GV w) (r : ByteArray × Bool) (h : Fds.fn_strings_CutPrefix 0 s t = some r) : Calls Tryz.prog 11 #[.string s, .string t] w fun e w' => e = .returned (.tuple #[.string r.1, .bool r.2]) ∧ Below w.heap.size w w' := by
  have hI := Fds.ok11 0 (s, t, ()) _ h
  refine (hI.calls (code := Fds.c11) Tryz.func11 (by kernel_rfl) (by kernel_rfl) [.string s, .string t] w hGV ⟨rfl, rfl, trivial⟩).mono ?_
  rintro e w' ⟨v, rfl, hb, hv⟩
  obtain ⟨v1, v2, rfl, a1, a2⟩ := tup2 hv
  have e1 : v1 = .string r.1 := a1
  have e2 : v2 = .bool r.2 := a2
  subst e1; subst e2
  exact ⟨rfl, hb⟩
theorem whole_calls (N : Nat) (s : ByteArray) (w : World) (hGV : GV w) (r : Int × ByteArray × Bool) (h : Fds.fn_read_whole N s = some r) : Calls Tryz.prog 32 #[.string s] w fun e w' => e = .returned (.tuple #[.int .i64 r.1, .string r.2.1, .bool r.2.2]) ∧ Below w.heap.size w w' := by
  have hI := Fds.ok32 N (s, ()) _ h
  refine (hI.calls (code := Fds.c32) Tryz.func32 (by kernel_rfl) (by kernel_rfl) [.string s] w hGV ⟨rfl, trivial⟩).mono ?_
  rintro e w' ⟨v, rfl, hb, hv⟩
  obtain ⟨v1, v2, v3, rfl, a1, a2, a3⟩ := tup3 hv
  have e1 : v1 = .int .i64 r.1 := a1
  have e2 : v2 = .string r.2.1 := a2
  have e3 : v3 = .bool r.2.2 := a3
  subst e1; subst e2; subst e3
  exact ⟨rfl, hb⟩
abbrev RS := List Int × Int × Bool
/-- what a digit does -/
def stp (behind : Int) (t : RS) (d : Nat) : RS :=
  if t.1.length < 800 ∧ (d ≠ 0 ∨ 0 < t.1.length) then (t.1 ++ [(d : Int)], t.2.1 - behind, t.2.2) else if t.1.length = 0 then (t.1, t.2.1 - behind, t.2.2) else (t.1, t.2.1 + (1 - behind), t.2.2 || decide (d ≠ 0))
/-- digits taken off -/
def runF (base behind : Int) : List UInt8 → RS → Nat × RS
  | [], t => (0, t)
  | c :: r, t => match dval c.toNat base with
    | none => (0, t)
    | some d => ((runF base behind r (stp behind t d)).1 + 1, (runF base behind r (stp behind t d)).2)
theorem arr_eq (x : Array Value) (n : Nat) (h : x.size = n) : x = ((List.range n).map fun k => x.getD k undef).toArray := by
  apply Array.ext
  · simp [h]
  · intro i h1 h2
    simp [Array.getD_eq_getD_getElem?, h1]
/-- the slots of run, five of them known -/
def Shape (a : Act) (p s base behind i : Value) : Prop := ∃ f : Nat → Value, a = { tmps := #[f 0, f 1, f 2, f 3, f 4, f 5, f 6, f 7, f 8, f 9, f 10, f 11, f 12, f 13, f 14, f 15, f 16, f 17, f 18, f 19, f 20, f 21, f 22, f 23, f 24, f 25, f 26, f 27, f 28, f 29, f 30, f 31, f 32, f 33, f 34, f 35, f 36, f 37, f 38, f 39, f 40, f 41, f 42, f 43, f 44, f 45, f 46, f 47, f 48, f 49, f 50, f 51, f 52, f 53, f 54, f 55, f 56, f 57, f 58, f 59, f 60, f 61, f 62, f 63, f 64, f 65, f 66, f 67, f 68, f 69, f 70, f 71, f 72, f 73, f 74, f 75, f 76, f 77, f 78, f 79, f 80, f 81, f 82, f 83, f 84, f 85, f 86, f 87, f 88, f 89, f 90, f 91, f 92, f 93, f 94, f 95, f 96, f 97, f 98, f 99, f 100, f 101, f 102, f 103, f 104, f 105], defers := [] } ∧ f 0 = p ∧ f 1 = s ∧ f 2 = base ∧ f 3 = behind ∧ f 10 = i
theorem shape_of {a : Act} {p s base behind i : Value} (h : a.defers = []) (hs : a.tmps.size = 106) (h0 : a.tmps.getD 0 undef = p) (h1 : a.tmps.getD 1 undef = s) (h2 : a.tmps.getD 2 undef = base) (h3 : a.tmps.getD 3 undef = behind) (h10 : a.tmps.getD 10 undef = i) : Shape a p s base behind i := by
  refine ⟨fun k => a.tmps.getD k undef, ?_, h0, h1, h2, h3, h10⟩
  obtain ⟨tm, df⟩ := a
  simp only at h hs
  subst h
  have := arr_eq tm 106 hs
  conv => lhs; rw [this]
  rfl
theorem one_cell (w : World) (n : Int) (j : Nat) (u : Value) (hj : [Value.int .u8 n][j]? = some u) : (w.alloc (.cells #[.int .u8 n] 5 (0, 0))).cell? ((⟨w.heap.size, 0, none⟩ : Addr).add j) = some u := by
  match j, hj with
  | 0, hj =>
    simp at hj; subst hj
    have e := heap_alloc_new w (.cells #[.int .u8 n] 5 (0, 0))
    rw [show ((⟨w.heap.size, 0, none⟩ : Addr).add 0) = ⟨w.heap.size, 0, none⟩ from rfl]
    simp only [World.cell?, e]; rfl
  | j + 1, hj => simp at hj
theorem one_one (n : Int) : ∀ u ∈ [Value.int .u8 n], u.oneCell' = true := by intro u hu; simp at hu; subst hu; rfl
theorem stp_ok (behind : Int) (hb : behind = 0 ∨ behind = 1) (t : RS) (d : Nat) (h : t.1.length ≤ 800) : (stp behind t d).1.length ≤ 800 ∧ t.2.1 - 1 ≤ (stp behind t d).2.1 ∧ (stp behind t d).2.1 ≤ t.2.1 + 1 := by
  unfold stp
  split
  · rename_i h1
    refine ⟨?_, ?_, ?_⟩
    · simp only [List.length_append, List.length_singleton]; omega
    · simp only; omega
    · simp only; omega
  · split
    · exact ⟨h, by simp only; omega, by simp only; omega⟩
    · exact ⟨h, by simp only; omega, by simp only; omega⟩
theorem bne_dec (n : Nat) : ((n : Int) != 0) = !decide (n = 0) := by
  cases n with
  | zero => rfl
  | succ n => simp; omega
theorem max_ok {k : Nat} (h : k ≤ 800) : k + 1 ≤ maxLen := by simp only [maxLen]; omega
theorem size_ok {w : World} {b : Nat} (h : b < w.heap.size) (o : Obj) : b + 1 ≤ (w.alloc o).heap.size := by simp; omega
def RInv (w : World) (B b : Nat) (s : ByteArray) (base behind : Int) (r : Nat × RS) (x : Nat × RS) (a : Act) (wc : World) : Prop :=
  Shape a (.pointer (some ⟨b, 0, none⟩)) (.string s) (.int .i64 base) (.int .i64 behind) (.int .i64 x.1) ∧ x.1 ≤ s.size ∧ (-1000000 - 2 * (x.1 : Int) ≤ x.2.2.1 ∧ x.2.2.1 ≤ 1000000 + 2 * (x.1 : Int)) ∧
  (∃ v, wc.heap[b]? = some (.cells #[v, .int .i64 x.2.2.1, .int .i64 0, .bool x.2.2.2] 41 (0, 0)) ∧ wc.ownsRow (b + 1) 5 1 v x.2.1.length (x.2.1.map (Value.int .u8))) ∧ Below B w wc ∧ x.2.1.length ≤ 800 ∧
  r = (x.1 + (runF base behind (s.data.toList.drop x.1) x.2).1, (runF base behind (s.data.toList.drop x.1) x.2).2)
set_option maxHeartbeats 4000000 in
theorem run_walk (wS w : World) (hGV : GV wS) (b : Nat) (B : Nat) (hB : B ≤ b) (hBS : wS.heap.size ≤ B) (hW : Below wS.heap.size wS w) (s : ByteArray) (hs : s.size ≤ 100000) (base behind : Int) (hbh : behind = 0 ∨ behind = 1) (t0 : RS) (hpl : -1000000 ≤ t0.2.1 ∧ t0.2.1 ≤ 1000000) (hD : t0.1.length ≤ 800) (v0 : Value)
    (hb : w.heap[b]? = some (.cells #[v0, .int .i64 t0.2.1, .int .i64 0, .bool t0.2.2] 41 (0, 0))) (hown : w.ownsRow (b + 1) 5 1 v0 t0.1.length (t0.1.map (Value.int .u8))) :
    Calls Tryz.prog 31 #[.pointer (some ⟨b, 0, none⟩), .string s, .int .i64 base, .int .i64 behind] w fun e w' => e = .returned (.tuple #[.string (s.extract (runF base behind s.data.toList t0).1 s.size), .int .i64 (runF base behind s.data.toList t0).1]) ∧
      ∃ v, w'.heap[b]? = some (.cells #[v, .int .i64 (runF base behind s.data.toList t0).2.2.1, .int .i64 0, .bool (runF base behind s.data.toList t0).2.2.2] 41 (0, 0)) ∧ w'.ownsRow (b + 1) 5 1 v (runF base behind s.data.toList t0).2.1.length ((runF base behind s.data.toList t0).2.1.map (Value.int .u8)) ∧ Below B w w' := by
  have hlt : b < w.heap.size := (Array.getElem?_eq_some_iff.1 hb).1
  generalize hr : runF base behind s.data.toList t0 = r
  obtain ⟨i0, hi, hz0, hz1, hz2⟩ : ∃ i, Tryz.prog.info? 5 = some i ∧ i.zero = some (.int .u8 0) ∧ i.size = 1 ∧ i.bytes = 1 := by
    have h : (Tryz.prog.info? 5).map (fun i => (i.zero, i.size, i.bytes)) = some (some (.int .u8 0), 1, 1) := by kernel_rfl
    cases hi : Tryz.prog.info? 5 with
    | none => rw [hi] at h; cases h
    | some i => rw [hi] at h; injection h with h; injection h with h1 h2; injection h2 with h2 h3; exact ⟨i, rfl, h1, h2, h3⟩
  go_enter Tryz.func31, Tryz.ntmps31
  go_wp2
  go_step3
  go_wp2
  go_step3
  go_wp2
  refine wp_loop_rounds (s.size + 1) ?_
  refine rounds_ind (RInv w B b s base behind r) (fun x => s.size - x.1) ?step (s.size + 1) (0, t0) _ _ ⟨shape_of rfl rfl rfl rfl rfl rfl rfl, Nat.zero_le _, by simp only; omega, ⟨v0, ?_, ?_⟩, ?_, hD, by simp [hr]⟩ (by simp only; omega)
  case step =>
    rintro ⟨i, t⟩ a wc ⟨⟨f, rfl, f0, f1, f2, f3, f10⟩, k1, k2, ⟨v, k3, k4⟩, k5, k6, k7⟩ R hR
    simp only at k1 k2 k3 k4 k6 k7
    rw [f0, f1, f2, f3, f10]
    have gvc : GV wc := hGV.turn (hW.trans (k5.mono hBS))
    go_wp2_with (go_at_call 71; refine (digit_calls2 _ base _ gvc).mono ?_)
    · rintro e w1 x (⟨rfl, ⟨hd, rfl⟩, hb1⟩ | ⟨rfl, ⟨n, hd, hn, rfl⟩, hb1⟩)
      · have hlt' : i < s.size := by omega
        have hdrop : s.data.toList.drop i = s[i] :: s.data.toList.drop (i + 1) := by
          have h1 : i < s.data.toList.length := by rw [Array.length_toList]; exact hlt'
          rw [List.drop_eq_getElem_cons h1]; rfl
        have hr' : r = (i, t) := by rw [k7, hdrop]; simp [runF, hd]
        have hltc : b < wc.heap.size := (Array.getElem?_eq_some_iff.1 k3).1
        go_wp2
        rw [Exit.noGoto_ret]
        go_ret2
        rw [hr']
        exact ⟨rfl, v, (hb1.block b hltc).trans k3, own_below k4 hb1, k5.trans (hb1.mono (Nat.le_of_lt (Nat.lt_of_le_of_lt hB hltc)))⟩
      · have hlt' : i < s.size := by omega
        have hdrop : s.data.toList.drop i = s[i] :: s.data.toList.drop (i + 1) := by
          have h1 : i < s.data.toList.length := by rw [Array.length_toList]; exact hlt'
          rw [List.drop_eq_getElem_cons h1]; rfl
        have hltc : b < wc.heap.size := (Array.getElem?_eq_some_iff.1 k3).1
        have hr' : r = (i + 1 + (runF base behind (s.data.toList.drop (i + 1)) (stp behind t n)).1, (runF base behind (s.data.toList.drop (i + 1)) (stp behind t n)).2) := by
          rw [k7, hdrop]; simp [runF, hd]; omega
        have hb' : w1.heap[b]? = some (.cells #[v, .int .i64 t.2.1, .int .i64 0, .bool t.2.2] 41 (0, 0)) := (hb1.block b hltc).trans k3
        have hown1 := own_below k4 hb1
        have k5' : Below B w w1 := k5.trans (hb1.mono (Nat.le_of_lt (Nat.lt_of_le_of_lt hB hltc)))
        have hlt1 : b < w1.heap.size := (Array.getElem?_eq_some_iff.1 hb').1
        obtain ⟨sa, cap, rfl⟩ : ∃ sa cap, v = .slice sa t.1.length cap := by
          rcases hown1.2 with ⟨h1, h2⟩ | ⟨g, cap, cur, h1, _⟩
          · exact ⟨none, 0, by rw [h1, h2]⟩
          · exact ⟨_, cap, h1⟩
        have hc0 : w1.cell? ⟨b, 0, none⟩ = some (.slice sa t.1.length cap) := by simp [World.cell?, hb']
        have hc1 : w1.cell? ⟨b, 1, none⟩ = some (.int .i64 t.2.1) := by simp [World.cell?, hb']
        have hc3 : w1.cell? ⟨b, 3, none⟩ = some (.bool t.2.2) := by simp [World.cell?, hb']
        have hf0 : w1.frozen? ⟨b, 0, none⟩ = false := by simp [World.frozen?, hb']
        have hf1 : w1.frozen? ⟨b, 1, none⟩ = false := by simp [World.frozen?, hb']
        have hf3 : w1.frozen? ⟨b, 3, none⟩ = false := by simp [World.frozen?, hb']
        obtain ⟨so1, so2, so3⟩ := stp_ok behind hbh t n k6
        have hBb : B ≤ b := hB
        have hstep : ∀ (a : Act) (W : World) (t' : RS) (v' : Value), t' = stp behind t n → Shape a (.pointer (some ⟨b, 0, none⟩)) (.string s) (.int .i64 base) (.int .i64 behind) (.int .i64 ((i + 1 : Nat) : Int)) →
            W.heap[b]? = some (.cells #[v', .int .i64 t'.2.1, .int .i64 0, .bool t'.2.2] 41 (0, 0)) → W.ownsRow (b + 1) 5 1 v' t'.1.length (t'.1.map (Value.int .u8)) → Below B w W → R a W := by
          intro a W t' v' ht' hsh g1 g2 g3
          subst ht'
          exact hR (i + 1, stp behind t n) a W (by simp only; omega) ⟨hsh, by simp only; omega, by simp only; omega, ⟨v', g1, g2⟩, g3, so1, hr'⟩
        have hne : (Value.slice sa t.1.length cap).ownBlock ≠ some b := by
          rcases hown1.2 with ⟨h1, _⟩ | ⟨g, cap2, cur, h1, hg, _⟩
          · rw [h1]; simp [Value.ownBlock]
          · rw [h1]; simp [Value.ownBlock]; omega
        go_wp2_with (first
          | (at_builtin; refine wpList_append_own _ rfl _ _ 39 rfl (b + 1) 5 i0 (.int .u8 0) 1 1 Tryz.underlying39 hi hz0 hz1 hz2 rfl (by decide) _ _ _ rfl (own_below hown1 ((Below.refl _ w1).alloc (Nat.le_refl _) _)) ⟨w1.heap.size, 0, none⟩ 1 1 [_] rfl rfl (one_cell w1 _) (one_one _) (max_ok k6) (by omega) (size_ok hlt1 _) ?_)
          | go_in)
        · intro v' w2 hown' hgrow hnn
          have hb2 : w2.heap[b]? = some (.cells #[.slice sa t.1.length cap, .int .i64 t.2.1, .int .i64 0, .bool t.2.2] 41 (0, 0)) := by
            rw [hgrow.block b (by simp; omega) (Ne.symm hne)]
            exact (Below.heap_alloc _ _ _ hlt1).trans hb'
          have hd0 : w2.cell? ⟨b, 0, none⟩ = some (.slice sa t.1.length cap) := by simp [World.cell?, hb2]
          have hd1 : w2.cell? ⟨b, 1, none⟩ = some (.int .i64 t.2.1) := by simp [World.cell?, hb2]
          have hg0 : w2.frozen? ⟨b, 0, none⟩ = false := by simp [World.frozen?, hb2]
          have hg1 : w2.frozen? ⟨b, 1, none⟩ = false := by simp [World.frozen?, hb2]
          have hbel : Below B w w2 := (k5'.alloc (Nat.le_trans hBb (Nat.le_of_lt hlt1)) _).grown hgrow (by simp; omega) (by
            intro k hk
            rcases hown1.2 with ⟨h1, _⟩ | ⟨g, cap2, cur, h1, hg, _⟩
            · rw [h1] at hk; cases hk
            · rw [h1] at hk; simp [Value.ownBlock] at hk; omega)
          obtain ⟨hk0, ⟨h0, _⟩ | ⟨g, cap', cur, rfl, hg, hgh, hcap1, hcap2, hcur, htake⟩⟩ := hown'
          · exact absurd h0 hnn
          go_wp2
          refine hstep _ _ (t.1 ++ [(n : Int)], t.2.1 - behind, t.2.2) (.slice (some ⟨g, 0, none⟩) (t.1.length + 1) cap') ?_ (shape_of rfl rfl rfl rfl rfl rfl rfl) ?_ ?_ ?_
          · unfold stp; rw [if_pos ⟨by omega, by omega⟩]
          · simp [World.setCell, Array.getElem?_modify, hb2]
          · have e1 : (t.1 ++ [(n : Int)]).length = t.1.length + 1 := by simp
            simp only [e1]
            refine ownsRow_setCell_below (ownsRow_setCell_below ⟨?_, .inr ⟨g, cap', cur, rfl, hg, hgh, hcap1, hcap2, hcur, ?_⟩⟩ (by simp only; omega) _) (by simp only; omega) _
            · simp
            · rw [htake]; simp; try omega
          · exact (hbel.setCell hBb _).setCell hBb _
        · refine hstep _ _ (t.1, t.2.1 - behind, t.2.2) (.slice sa t.1.length cap) ?_ (shape_of rfl rfl rfl rfl rfl rfl rfl) ?_ ?_ ?_
          · have hz : t.1.length = 0 := by omega
            unfold stp; rw [if_neg (by omega), if_pos hz]
          · simp [World.setCell, Array.getElem?_modify, hb']
          · exact ownsRow_setCell_below hown1 (by simp only; omega) _
          · exact k5'.setCell hBb _
        · intro v' w2 hown' hgrow hnn
          have hb2 : w2.heap[b]? = some (.cells #[.slice sa t.1.length cap, .int .i64 t.2.1, .int .i64 0, .bool t.2.2] 41 (0, 0)) := by
            rw [hgrow.block b (by simp; omega) (Ne.symm hne)]
            exact (Below.heap_alloc _ _ _ hlt1).trans hb'
          have hd0 : w2.cell? ⟨b, 0, none⟩ = some (.slice sa t.1.length cap) := by simp [World.cell?, hb2]
          have hd1 : w2.cell? ⟨b, 1, none⟩ = some (.int .i64 t.2.1) := by simp [World.cell?, hb2]
          have hg0 : w2.frozen? ⟨b, 0, none⟩ = false := by simp [World.frozen?, hb2]
          have hg1 : w2.frozen? ⟨b, 1, none⟩ = false := by simp [World.frozen?, hb2]
          have hbel : Below B w w2 := (k5'.alloc (Nat.le_trans hBb (Nat.le_of_lt hlt1)) _).grown hgrow (by simp; omega) (by
            intro k hk
            rcases hown1.2 with ⟨h1, _⟩ | ⟨g, cap2, cur, h1, hg, _⟩
            · rw [h1] at hk; cases hk
            · rw [h1] at hk; simp [Value.ownBlock] at hk; omega)
          obtain ⟨hk0, ⟨h0, _⟩ | ⟨g, cap', cur, rfl, hg, hgh, hcap1, hcap2, hcur, htake⟩⟩ := hown'
          · exact absurd h0 hnn
          go_wp2
          refine hstep _ _ (t.1 ++ [(n : Int)], t.2.1 - behind, t.2.2) (.slice (some ⟨g, 0, none⟩) (t.1.length + 1) cap') ?_ (shape_of rfl rfl rfl rfl rfl rfl rfl) ?_ ?_ ?_
          · unfold stp; rw [if_pos ⟨by omega, by omega⟩]
          · simp [World.setCell, Array.getElem?_modify, hb2]
          · have e1 : (t.1 ++ [(n : Int)]).length = t.1.length + 1 := by simp
            simp only [e1]
            refine ownsRow_setCell_below (ownsRow_setCell_below ⟨?_, .inr ⟨g, cap', cur, rfl, hg, hgh, hcap1, hcap2, hcur, ?_⟩⟩ (by simp only; omega) _) (by simp only; omega) _
            · simp
            · rw [htake]; simp; try omega
          · exact (hbel.setCell hBb _).setCell hBb _
        · refine hstep _ _ (t.1, t.2.1 + (1 - behind), true) (.slice sa t.1.length cap) ?_ (shape_of rfl rfl rfl rfl rfl rfl rfl) ?_ ?_ ?_
          · unfold stp; rw [if_neg (by omega), if_neg (by omega)]; congr 2; simp_all
          · simp [World.setCell, Array.getElem?_modify, hb']
          · exact ownsRow_setCell_below (ownsRow_setCell_below hown1 (by simp only; omega) _) (by simp only; omega) _
          · exact (k5'.setCell hBb _).setCell hBb _
        · refine hstep _ _ (t.1, t.2.1 + (1 - behind), ((n : Int) != 0)) (.slice sa t.1.length cap) ?_ (shape_of rfl rfl rfl rfl rfl rfl rfl) ?_ ?_ ?_
          · unfold stp; rw [if_neg (by omega), if_neg (by omega)]; congr 2; simp_all; rw [bne_dec]
          · simp [World.setCell, Array.getElem?_modify, hb']
          · exact ownsRow_setCell_below (ownsRow_setCell_below hown1 (by simp only; omega) _) (by simp only; omega) _
          · exact (k5'.setCell hBb _).setCell hBb _
    · have hr' : r = (i, t) := by
        have : s.data.toList.drop i = [] := by
          apply List.drop_eq_nil_of_le; rw [Array.length_toList]; show s.size ≤ i; omega
        rw [k7, this]; rfl
      go_ret2
      rw [hr']
      exact ⟨rfl, v, k3, k4, k5⟩
  · exact hb
  · exact hown
  · exact Below.refl _ _
end Go.Proofs.YtcdhcihjcjpmkaaGreatDoor.Num
