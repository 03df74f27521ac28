/- read.scan at every text, by its walk. No statement is proved here. -/
import Derived.Test.YtcdhcihjcjpmkaaGreatDoorScg
namespace Go.Proofs.YtcdhcihjcjpmkaaGreatDoor.Num
open Go Go.RowKit Go.Proofs Go.Proofs.YtcdhcihjcjpmkaaGreatDoor.Eng
set_option linter.unusedVariables false
set_option linter.unusedSimpArgs false
set_option maxRecDepth 20000
theorem scan_results (W : World) (tmps : Array Value) (b : Nat) (cs : Array Value) (is : Bool) (h8 : tmps.getD 8 undef = .pointer (some ⟨b, 0, none⟩)) (h9 : tmps.getD 9 undef = .bool is) (hW : W.heap[b]? = some (.cells cs 41 (0, 0))) (hsz : cs.size = 4) :
    (results Tryz.f12 tmps).run Tryz.prog W = .ok (.tuple #[.agg cs, .bool is]) W := by
  have hi : (Tryz.prog.info? 41).map (·.size) = some 4 := by kernel_rfl
  have hl := run_loadVar_row (P := Tryz.prog) W b 41 41 cs (0, 0) _ hW Tryz.underlying41 rfl (by rw [hi, hsz])
  have hr : Tryz.f12.results = #[.cell 8 41, .tmp 9] := rfl
  rw [Array.getD_eq_getD_getElem?] at h8 h9
  simp [results, h8, h9, asAddr, hl]
/-- a text's digits: their number's parts, whether they are some -/
noncomputable def scanF (N : Nat) (s : ByteArray) (base : Int) (mark : ByteArray) (needed : Bool) : Option ((List Int × Int × Int × Bool) × Bool) :=
  (Fds.fn_strings_HasPrefix 0 (s.extract (runF base 0 s.data.toList ([], 0, false)).1 s.size) ⟨#[46]⟩).bind fun p =>
   (some (cond p ((s.extract (runF base 0 s.data.toList ([], 0, false)).1 s.size).extract 1 (s.extract (runF base 0 s.data.toList ([], 0, false)).1 s.size).size) ⟨#[]⟩)).bind fun s1 =>
    (some (cond p ((runF base 1 s1.data.toList (runF base 0 s.data.toList ([], 0, false)).2).1, (runF base 1 s1.data.toList (runF base 0 s.data.toList ([], 0, false)).2).2, s1.extract (runF base 1 s1.data.toList (runF base 0 s.data.toList ([], 0, false)).2).1 s1.size)
       (0, (runF base 0 s.data.toList ([], 0, false)).2, s.extract (runF base 0 s.data.toList ([], 0, false)).1 s.size))).bind fun r =>
     cond (Nat.beq ((runF base 0 s.data.toList ([], 0, false)).1 + r.1) 0) (some (([], 0, 0, false), false))
      ((Fds.fn_strings_CutPrefix 0 r.2.2 mark).bind fun q =>
       cond q.2 ((Fds.fn_read_whole N q.1).bind fun v => some ((r.2.1.1, r.2.1.2.1, v.1, r.2.1.2.2), v.2.2 && eqS v.2.1 ⟨#[]⟩))
        (some ((r.2.1.1, r.2.1.2.1, 0, r.2.1.2.2), eqS r.2.2 ⟨#[]⟩ && !needed)))
theorem runF_len (base behind : Int) (hb : behind = 0 ∨ behind = 1) : ∀ (l : List UInt8) (t : RS), t.1.length ≤ 800 → (runF base behind l t).1 ≤ l.length ∧ (runF base behind l t).2.1.length ≤ 800 ∧ t.2.1 - (runF base behind l t).1 ≤ (runF base behind l t).2.2.1 ∧ (runF base behind l t).2.2.1 ≤ t.2.1 + (runF base behind l t).1
  | [], t, h => ⟨Nat.le_refl _, h, by simp [runF], by simp [runF]⟩
  | c :: r, t, h => by
    unfold runF
    cases hd : dval c.toNat base with
    | none => exact ⟨Nat.zero_le _, h, by simp, by simp⟩
    | some d =>
      obtain ⟨s1, s2, s3⟩ := stp_ok behind hb t d h
      obtain ⟨i1, i2, i3, i4⟩ := runF_len base behind hb r (stp behind t d) s1
      simp only [List.length_cons]
      exact ⟨by omega, i2, by omega, by omega⟩
theorem pre_size {s : ByteArray} (h : Fds.fn_strings_HasPrefix 0 s ⟨#[46]⟩ = some true) : 1 ≤ s.size := by
  unfold Fds.fn_strings_HasPrefix Fds.fn_stringslite_HasPrefix at h
  rcases Nat.eq_zero_or_pos s.size with h0 | h0
  · rw [show leI ((⟨#[46]⟩ : ByteArray).size : Int) (s.size : Int) = false by rw [h0]; rfl] at h
    cases h
  · exact h0
theorem emp (b : ByteArray) : b.toList.isEmpty = eqS b ⟨#[]⟩ := by unfold eqS; simp
theorem emp_t {b : ByteArray} (h : b.toList = []) : eqS b ⟨#[]⟩ = true := by rw [← emp, h]; rfl
theorem emp_f {b : ByteArray} (h : ¬ b.toList = []) : eqS b ⟨#[]⟩ = false := by
  rw [← emp]
  cases hh : b.toList with
  | nil => exact absurd hh h
  | cons x l => rfl
theorem own_mono {w : World} {base base' : Nat} {e : TypeId} {v : Value} {n : Nat} {xs : List Value} (h : w.ownsRow base e 1 v n xs) (hb : base' ≤ base) : w.ownsRow base' e 1 v n xs := by
  obtain ⟨h1, h0 | ⟨g, cap, cur, rfl, hg, hr⟩⟩ := h
  · exact ⟨h1, .inl h0⟩
  · exact ⟨h1, .inr ⟨g, cap, cur, rfl, Nat.le_trans hb hg, hr⟩⟩
theorem scan_own {w : World} {k : Nat} {e : TypeId} {v : Value} {n : Nat} {xs : List Value} {a b c d : Value} {i j l m : Nat} (h : w.ownsRow (k + 1 + 1) e 1 v n xs) : ((((w.setCell ⟨k, i, none⟩ a).setCell ⟨k, j, none⟩ b).setCell ⟨k, l, none⟩ c).setCell ⟨k, m, none⟩ d).ownsRow k e 1 v n xs :=
  own_mono (ownsRow_setCell_below (ownsRow_setCell_below (ownsRow_setCell_below (ownsRow_setCell_below h (by simp only; omega) _) (by simp only; omega) _) (by simp only; omega) _) (by simp only; omega) _) (by omega)
theorem scan_own1 {w : World} {k : Nat} {e : TypeId} {v : Value} {n : Nat} {xs : List Value} {a b c d f : Value} {i j l m o : Nat} (h : w.ownsRow (k + 1 + 1) e 1 v n xs) : (((((w.setCell ⟨k + 1, o, none⟩ f).setCell ⟨k, i, none⟩ a).setCell ⟨k, j, none⟩ b).setCell ⟨k, l, none⟩ c).setCell ⟨k, m, none⟩ d).ownsRow k e 1 v n xs :=
  scan_own (ownsRow_setCell_below h (by simp only; omega) _)
set_option maxHeartbeats 4000000 in
theorem scan_walk (N : Nat) (w : World) (hGV : GV w) (s : ByteArray) (hs : s.size ≤ 100000) (base : Int) (mark : ByteArray) (needed : Bool) (out : (List Int × Int × Int × Bool) × Bool) (h : scanF N s base mark needed = some out) :
    Calls Tryz.prog 12 #[.string s, .int .i64 base, .string mark, .bool needed] w fun e w' => ∃ v, e = .returned (.tuple #[.agg #[v, .int .i64 out.1.2.1, .int .i64 out.1.2.2.1, .bool out.1.2.2.2], .bool out.2]) ∧
      w'.ownsRow w.heap.size 5 1 v out.1.1.length (out.1.1.map (Value.int .u8)) ∧ Below w.heap.size w w' := by
  let z : Obj := .cells #[.slice none 0 0, .int .i64 0, .int .i64 0, .bool false] 41 (0, 0)
  have hb : ((w.alloc z).alloc z).heap[w.heap.size + 1]? = some z := heap_alloc2_new w z z
  have b0 : Below w.heap.size w ((w.alloc z).alloc z) := ((Below.refl _ w).alloc (Nat.le_refl _) z).alloc (by simp) z
  have hsl : s.data.toList.length = s.size := by rw [Array.length_toList]; rfl
  obtain ⟨a1, a2, a3, a4⟩ := runF_len base 0 (.inl rfl) s.data.toList ([], 0, false) (Nat.zero_le _)
  unfold scanF at h
  obtain ⟨p, hp, h⟩ := Option.bind_eq_some_iff.1 h
  have hrw := fun W hh => run_walk w W hGV (w.heap.size + 1) (w.heap.size + 1) (Nat.le_refl _) (Nat.le_succ _) hh s hs base 0 (.inl rfl) ([], 0, false) ⟨by decide, by decide⟩ (Nat.zero_le _)
  generalize runF base 0 s.data.toList ([], 0, false) = r1 at *
  go_enter Tryz.func12, Tryz.ntmps12
  go_wp2_with (go_at_call 31; refine (hrw _ b0 _ hb (World.ownsRow_nil _ _ _ _)).mono ?_)
  rintro e W1 rfl v h1 h2 h3
  have b1 := b0.trans (h3.mono (Nat.le_succ _))
  have gv1 : GV W1 := hGV.turn b1
  have hz : W1.heap[w.heap.size]? = some z := (h3.block _ (by omega)).trans (heap_alloc2_old w z z)
  go_wp2_with (go_at_call 9; refine (prefix_calls _ _ _ gv1 p hp).mono ?_)
  rintro e W2 ⟨rfl, c1⟩
  have b2 := b1.trans (c1.mono b1.size)
  have gv2 : GV W2 := hGV.turn b2
  have l1 : w.heap.size + 1 < W1.heap.size := (Array.getElem?_eq_some_iff.1 h1).1
  have h1' := (c1.block _ l1).trans h1
  have h2' := own_below h2 c1
  have hz' := (c1.block _ (Nat.lt_of_succ_lt l1)).trans hz
  obtain ⟨n1, st1⟩ := r1
  obtain ⟨sa, cap, rfl⟩ : ∃ sa cap, v = .slice sa st1.1.length cap := by
    rcases h2'.2 with ⟨g1, g2⟩ | ⟨g, cap, cur, g1, _⟩
    · exact ⟨none, 0, by rw [g1, g2]⟩
    · exact ⟨_, cap, g1⟩
  cases p
  · rw [Option.bind_some, Option.bind_some] at h
    simp only [cond_false, Nat.add_zero] at h
    cases n1 with
    | zero =>
      have h : out = (([], 0, 0, false), false) := by injection h with h; exact h.symm
      have hd0 : W2.cell? ⟨w.heap.size + 1, 0, none⟩ = some (.slice sa st1.1.length cap) := by simp [World.cell?, h1']
      have hd1 : W2.cell? ⟨w.heap.size + 1, 1, none⟩ = some (.int .i64 st1.2.1) := by simp [World.cell?, h1']
      have hd2 : W2.cell? ⟨w.heap.size + 1, 2, none⟩ = some (.int .i64 0) := by simp [World.cell?, h1']
      have hd3 : W2.cell? ⟨w.heap.size + 1, 3, none⟩ = some (.bool st1.2.2) := by simp [World.cell?, h1']
      have he0 : W2.cell? ⟨w.heap.size, 0, none⟩ = some (.slice none 0 0) := by simp [World.cell?, hz', z]
      have hf0 : W2.frozen? ⟨w.heap.size, 0, none⟩ = false := by simp [World.frozen?, hz', z]
      have he1 : W2.cell? ⟨w.heap.size, 1, none⟩ = some (.int .i64 0) := by simp [World.cell?, hz', z]
      have hf1 : W2.frozen? ⟨w.heap.size, 1, none⟩ = false := by simp [World.frozen?, hz', z]
      have he2 : W2.cell? ⟨w.heap.size, 2, none⟩ = some (.int .i64 0) := by simp [World.cell?, hz', z]
      have hf2 : W2.frozen? ⟨w.heap.size, 2, none⟩ = false := by simp [World.frozen?, hz', z]
      have he3 : W2.cell? ⟨w.heap.size, 3, none⟩ = some (.bool false) := by simp [World.cell?, hz', z]
      have hf3 : W2.frozen? ⟨w.heap.size, 3, none⟩ = false := by simp [World.frozen?, hz', z]
      have hg2 : W2.frozen? ⟨w.heap.size + 1, 2, none⟩ = false := by simp [World.frozen?, h1']
      subst h
      go_wp2
      refine bodyPost_ret (v := .tuple #[.agg #[.slice none 0 0, .int .i64 0, .int .i64 0, .bool false], .bool _]) (scan_results _ _ w.heap.size _ _ rfl ?_ ?_ rfl) rfl ⟨_, rfl, (World.ownsRow_nil _ _ _ _), ((((b2.setCell (Nat.le_refl _) _).setCell (Nat.le_refl _) _).setCell (Nat.le_refl _) _).setCell (Nat.le_refl _) _)⟩
      · rfl
      · simp [World.setCell, Array.getElem?_modify, hz', h1', z]
    | succ n1 =>
      obtain ⟨q, hq, h⟩ := Option.bind_eq_some_iff.1 h
      go_wp2_with (first | (go_at_call 11; refine (cutp_calls _ _ _ gv2 q hq).mono ?_) | go_in)
      rintro e W3 ⟨rfl, c3⟩
      have m3 : w.heap.size + 1 < W2.heap.size := (Array.getElem?_eq_some_iff.1 h1').1
      have h1_3 := (c3.block _ m3).trans h1'
      have hz_3 := (c3.block _ (Nat.lt_of_succ_lt m3)).trans hz'
      have ow_3 := own_below h2' c3
      have bl_3 := b2.trans (c3.mono b2.size)
      have gv_3 : GV W3 := hGV.turn bl_3
      obtain ⟨q1, q2⟩ := q
      cases q2
      · have h : out = ((st1.1, st1.2.1, 0, st1.2.2), eqS (s.extract (n1 + 1) s.size) ⟨#[]⟩ && !needed) := by injection h with h; exact h.symm
        have hd0 : W3.cell? ⟨w.heap.size + 1, 0, none⟩ = some (.slice sa st1.1.length cap) := by simp [World.cell?, h1_3]
        have hd1 : W3.cell? ⟨w.heap.size + 1, 1, none⟩ = some (.int .i64 st1.2.1) := by simp [World.cell?, h1_3]
        have hd2 : W3.cell? ⟨w.heap.size + 1, 2, none⟩ = some (.int .i64 0) := by simp [World.cell?, h1_3]
        have hd3 : W3.cell? ⟨w.heap.size + 1, 3, none⟩ = some (.bool st1.2.2) := by simp [World.cell?, h1_3]
        have he0 : W3.cell? ⟨w.heap.size, 0, none⟩ = some (.slice none 0 0) := by simp [World.cell?, hz_3, z]
        have hf0 : W3.frozen? ⟨w.heap.size, 0, none⟩ = false := by simp [World.frozen?, hz_3, z]
        have he1 : W3.cell? ⟨w.heap.size, 1, none⟩ = some (.int .i64 0) := by simp [World.cell?, hz_3, z]
        have hf1 : W3.frozen? ⟨w.heap.size, 1, none⟩ = false := by simp [World.frozen?, hz_3, z]
        have he2 : W3.cell? ⟨w.heap.size, 2, none⟩ = some (.int .i64 0) := by simp [World.cell?, hz_3, z]
        have hf2 : W3.frozen? ⟨w.heap.size, 2, none⟩ = false := by simp [World.frozen?, hz_3, z]
        have he3 : W3.cell? ⟨w.heap.size, 3, none⟩ = some (.bool false) := by simp [World.cell?, hz_3, z]
        have hf3 : W3.frozen? ⟨w.heap.size, 3, none⟩ = false := by simp [World.frozen?, hz_3, z]
        have hg2 : W3.frozen? ⟨w.heap.size + 1, 2, none⟩ = false := by simp [World.frozen?, h1_3]
        subst h
        go_wp2
        all_goals
          refine bodyPost_ret (v := .tuple #[.agg #[.slice sa st1.1.length cap, .int .i64 st1.2.1, .int .i64 0, .bool st1.2.2], .bool _]) (scan_results _ _ w.heap.size _ _ rfl ?_ ?_ rfl) rfl ⟨_, rfl, scan_own ow_3, ((((bl_3.setCell (Nat.le_refl _) _).setCell (Nat.le_refl _) _).setCell (Nat.le_refl _) _).setCell (Nat.le_refl _) _)⟩
          · first | (rw [emp_t (by assumption)]; rfl) | (rw [emp_f (by assumption)]; rfl)
          · simp [World.setCell, Array.getElem?_modify, hz_3, h1_3, z]
      · obtain ⟨v3, hv3, h⟩ := Option.bind_eq_some_iff.1 h
        have hd0 : W3.cell? ⟨w.heap.size + 1, 0, none⟩ = some (.slice sa st1.1.length cap) := by simp [World.cell?, h1_3]
        have hd1 : W3.cell? ⟨w.heap.size + 1, 1, none⟩ = some (.int .i64 st1.2.1) := by simp [World.cell?, h1_3]
        have hd2 : W3.cell? ⟨w.heap.size + 1, 2, none⟩ = some (.int .i64 0) := by simp [World.cell?, h1_3]
        have hd3 : W3.cell? ⟨w.heap.size + 1, 3, none⟩ = some (.bool st1.2.2) := by simp [World.cell?, h1_3]
        have he0 : W3.cell? ⟨w.heap.size, 0, none⟩ = some (.slice none 0 0) := by simp [World.cell?, hz_3, z]
        have hf0 : W3.frozen? ⟨w.heap.size, 0, none⟩ = false := by simp [World.frozen?, hz_3, z]
        have he1 : W3.cell? ⟨w.heap.size, 1, none⟩ = some (.int .i64 0) := by simp [World.cell?, hz_3, z]
        have hf1 : W3.frozen? ⟨w.heap.size, 1, none⟩ = false := by simp [World.frozen?, hz_3, z]
        have he2 : W3.cell? ⟨w.heap.size, 2, none⟩ = some (.int .i64 0) := by simp [World.cell?, hz_3, z]
        have hf2 : W3.frozen? ⟨w.heap.size, 2, none⟩ = false := by simp [World.frozen?, hz_3, z]
        have he3 : W3.cell? ⟨w.heap.size, 3, none⟩ = some (.bool false) := by simp [World.cell?, hz_3, z]
        have hf3 : W3.frozen? ⟨w.heap.size, 3, none⟩ = false := by simp [World.frozen?, hz_3, z]
        have hg2 : W3.frozen? ⟨w.heap.size + 1, 2, none⟩ = false := by simp [World.frozen?, h1_3]
        go_wp2_with (first | (go_at_call 32; refine (whole_calls N _ _ gv_3 v3 hv3).mono ?_) | go_in)
        rintro e W4 ⟨rfl, c4⟩
        have m4 : w.heap.size + 1 < W3.heap.size := (Array.getElem?_eq_some_iff.1 h1_3).1
        have h1_4 := (c4.block _ m4).trans h1_3
        have hz_4 := (c4.block _ (Nat.lt_of_succ_lt m4)).trans hz_3
        have ow_4 := own_below ow_3 c4
        have bl_4 := bl_3.trans (c4.mono bl_3.size)
        have gv_4 : GV W4 := hGV.turn bl_4
        have hd0 : W4.cell? ⟨w.heap.size + 1, 0, none⟩ = some (.slice sa st1.1.length cap) := by simp [World.cell?, h1_4]
        have hd1 : W4.cell? ⟨w.heap.size + 1, 1, none⟩ = some (.int .i64 st1.2.1) := by simp [World.cell?, h1_4]
        have hd2 : W4.cell? ⟨w.heap.size + 1, 2, none⟩ = some (.int .i64 0) := by simp [World.cell?, h1_4]
        have hd3 : W4.cell? ⟨w.heap.size + 1, 3, none⟩ = some (.bool st1.2.2) := by simp [World.cell?, h1_4]
        have he0 : W4.cell? ⟨w.heap.size, 0, none⟩ = some (.slice none 0 0) := by simp [World.cell?, hz_4, z]
        have hf0 : W4.frozen? ⟨w.heap.size, 0, none⟩ = false := by simp [World.frozen?, hz_4, z]
        have he1 : W4.cell? ⟨w.heap.size, 1, none⟩ = some (.int .i64 0) := by simp [World.cell?, hz_4, z]
        have hf1 : W4.frozen? ⟨w.heap.size, 1, none⟩ = false := by simp [World.frozen?, hz_4, z]
        have he2 : W4.cell? ⟨w.heap.size, 2, none⟩ = some (.int .i64 0) := by simp [World.cell?, hz_4, z]
        have hf2 : W4.frozen? ⟨w.heap.size, 2, none⟩ = false := by simp [World.frozen?, hz_4, z]
        have he3 : W4.cell? ⟨w.heap.size, 3, none⟩ = some (.bool false) := by simp [World.cell?, hz_4, z]
        have hf3 : W4.frozen? ⟨w.heap.size, 3, none⟩ = false := by simp [World.frozen?, hz_4, z]
        have hg2 : W4.frozen? ⟨w.heap.size + 1, 2, none⟩ = false := by simp [World.frozen?, h1_4]
        obtain ⟨vi, vr, vs⟩ := v3
        have h := Option.some.inj h.symm
        subst h
        cases vs
        · go_wp2
          refine bodyPost_ret (v := .tuple #[.agg #[.slice sa st1.1.length cap, .int .i64 st1.2.1, .int .i64 vi, .bool st1.2.2], .bool _]) (scan_results _ _ w.heap.size _ _ rfl ?_ ?_ rfl) rfl ⟨_, rfl, scan_own1 ow_4, (((((bl_4.setCell (Nat.le_succ _) _).setCell (Nat.le_refl _) _).setCell (Nat.le_refl _) _).setCell (Nat.le_refl _) _).setCell (Nat.le_refl _) _)⟩
          · rfl
          · simp [World.setCell, Array.getElem?_modify, hz_4, h1_4, z]
        · go_wp2
          refine bodyPost_ret (v := .tuple #[.agg #[.slice sa st1.1.length cap, .int .i64 st1.2.1, .int .i64 vi, .bool st1.2.2], .bool _]) (scan_results _ _ w.heap.size _ _ rfl ?_ ?_ rfl) rfl ⟨_, rfl, scan_own1 ow_4, (((((bl_4.setCell (Nat.le_succ _) _).setCell (Nat.le_refl _) _).setCell (Nat.le_refl _) _).setCell (Nat.le_refl _) _).setCell (Nat.le_refl _) _)⟩
          · exact congrArg Value.bool (emp vr)
          · simp [World.setCell, Array.getElem?_modify, hz_4, h1_4, z]
  · rw [Option.bind_some, Option.bind_some] at h
    simp only [cond_true] at h a1 a2 a3 a4 hp hrw
    have hsz : 1 ≤ (s.extract n1 s.size).size := pre_size hp
    have hs1 : (s.extract n1 s.size).size ≤ 100000 := by rw [ByteArray.size_extract]; omega
    clear hrw
    generalize s.extract n1 s.size = s1 at *
    have hs2 : (s1.extract 1 s1.size).size ≤ 100000 := by rw [ByteArray.size_extract]; omega
    have hrw2 := fun W hh => run_walk w W hGV (w.heap.size + 1) (w.heap.size + 1) (Nat.le_refl _) (Nat.le_succ _) hh (s1.extract 1 s1.size) hs2 base 1 (.inr rfl) st1 ⟨by omega, by omega⟩ a2
    obtain ⟨a5, _, _, _⟩ := runF_len base 1 (.inr rfl) (s1.extract 1 s1.size).data.toList st1 a2
    have hsl2 : (s1.extract 1 s1.size).data.toList.length = (s1.extract 1 s1.size).size := by rw [Array.length_toList]; rfl
    rw [hsl2] at a5
    rw [hsl] at a1
    generalize runF base 1 (s1.extract 1 s1.size).data.toList st1 = r2 at *
    go_wp2_with (go_at_call 31; refine (hrw2 _ b2 _ h1' h2').mono ?_)
    rintro e W5 ⟨rfl, v5, k1, k2, k3⟩
    have b5 := b2.trans (k3.mono (Nat.le_succ _))
    have gv5 : GV W5 := hGV.turn b5
    have hz5 : W5.heap[w.heap.size]? = some z := (k3.block _ (by omega)).trans hz'
    obtain ⟨n2, st2⟩ := r2
    simp only at h k1 k2 a5
    obtain ⟨sa, cap, rfl⟩ : ∃ sa cap, v5 = .slice sa st2.1.length cap := by
      rcases k2.2 with ⟨g1, g2⟩ | ⟨g, cap, cur, g1, _⟩
      · exact ⟨none, 0, by rw [g1, g2]⟩
      · exact ⟨_, cap, g1⟩
    generalize (s1.extract 1 s1.size).extract n2 (s1.extract 1 s1.size).size = s2 at *
    cases n1 with
    | zero =>
      cases n2 with
      | zero =>
        have h : out = (([], 0, 0, false), false) := by injection h with h; exact h.symm
        have hd0 : W5.cell? ⟨w.heap.size + 1, 0, none⟩ = some (.slice sa st2.1.length cap) := by simp [World.cell?, k1]
        have hd1 : W5.cell? ⟨w.heap.size + 1, 1, none⟩ = some (.int .i64 st2.2.1) := by simp [World.cell?, k1]
        have hd2 : W5.cell? ⟨w.heap.size + 1, 2, none⟩ = some (.int .i64 0) := by simp [World.cell?, k1]
        have hd3 : W5.cell? ⟨w.heap.size + 1, 3, none⟩ = some (.bool st2.2.2) := by simp [World.cell?, k1]
        have he0 : W5.cell? ⟨w.heap.size, 0, none⟩ = some (.slice none 0 0) := by simp [World.cell?, hz5, z]
        have hf0 : W5.frozen? ⟨w.heap.size, 0, none⟩ = false := by simp [World.frozen?, hz5, z]
        have he1 : W5.cell? ⟨w.heap.size, 1, none⟩ = some (.int .i64 0) := by simp [World.cell?, hz5, z]
        have hf1 : W5.frozen? ⟨w.heap.size, 1, none⟩ = false := by simp [World.frozen?, hz5, z]
        have he2 : W5.cell? ⟨w.heap.size, 2, none⟩ = some (.int .i64 0) := by simp [World.cell?, hz5, z]
        have hf2 : W5.frozen? ⟨w.heap.size, 2, none⟩ = false := by simp [World.frozen?, hz5, z]
        have he3 : W5.cell? ⟨w.heap.size, 3, none⟩ = some (.bool false) := by simp [World.cell?, hz5, z]
        have hf3 : W5.frozen? ⟨w.heap.size, 3, none⟩ = false := by simp [World.frozen?, hz5, z]
        have hg2 : W5.frozen? ⟨w.heap.size + 1, 2, none⟩ = false := by simp [World.frozen?, k1]
        subst h
        go_wp2
        refine bodyPost_ret (v := .tuple #[.agg #[.slice none 0 0, .int .i64 0, .int .i64 0, .bool false], .bool _]) (scan_results _ _ w.heap.size _ _ rfl ?_ ?_ rfl) rfl ⟨_, rfl, (World.ownsRow_nil _ _ _ _), ((((b5.setCell (Nat.le_refl _) _).setCell (Nat.le_refl _) _).setCell (Nat.le_refl _) _).setCell (Nat.le_refl _) _)⟩
        · rfl
        · simp [World.setCell, Array.getElem?_modify, hz5, k1, z]
      | succ n2 =>
        rw [show Nat.beq (0 + (n2 + 1)) 0 = false by rw [Nat.zero_add]; rfl, cond_false] at h
        obtain ⟨q, hq, h⟩ := Option.bind_eq_some_iff.1 h
        have hd0 : W5.cell? ⟨w.heap.size + 1, 0, none⟩ = some (.slice sa st2.1.length cap) := by simp [World.cell?, k1]
        have hd1 : W5.cell? ⟨w.heap.size + 1, 1, none⟩ = some (.int .i64 st2.2.1) := by simp [World.cell?, k1]
        have hd2 : W5.cell? ⟨w.heap.size + 1, 2, none⟩ = some (.int .i64 0) := by simp [World.cell?, k1]
        have hd3 : W5.cell? ⟨w.heap.size + 1, 3, none⟩ = some (.bool st2.2.2) := by simp [World.cell?, k1]
        have he0 : W5.cell? ⟨w.heap.size, 0, none⟩ = some (.slice none 0 0) := by simp [World.cell?, hz5, z]
        have hf0 : W5.frozen? ⟨w.heap.size, 0, none⟩ = false := by simp [World.frozen?, hz5, z]
        have he1 : W5.cell? ⟨w.heap.size, 1, none⟩ = some (.int .i64 0) := by simp [World.cell?, hz5, z]
        have hf1 : W5.frozen? ⟨w.heap.size, 1, none⟩ = false := by simp [World.frozen?, hz5, z]
        have he2 : W5.cell? ⟨w.heap.size, 2, none⟩ = some (.int .i64 0) := by simp [World.cell?, hz5, z]
        have hf2 : W5.frozen? ⟨w.heap.size, 2, none⟩ = false := by simp [World.frozen?, hz5, z]
        have he3 : W5.cell? ⟨w.heap.size, 3, none⟩ = some (.bool false) := by simp [World.cell?, hz5, z]
        have hf3 : W5.frozen? ⟨w.heap.size, 3, none⟩ = false := by simp [World.frozen?, hz5, z]
        have hg2 : W5.frozen? ⟨w.heap.size + 1, 2, none⟩ = false := by simp [World.frozen?, k1]
        go_wp2_with (first | (go_at_call 11; refine (cutp_calls _ _ _ gv5 q hq).mono ?_) | go_in)
        rintro e W3 ⟨rfl, c3⟩
        have m3 : w.heap.size + 1 < W5.heap.size := (Array.getElem?_eq_some_iff.1 k1).1
        have h1_3 := (c3.block _ m3).trans k1
        have hz_3 := (c3.block _ (Nat.lt_of_succ_lt m3)).trans hz5
        have ow_3 := own_below k2 c3
        have bl_3 := b5.trans (c3.mono b5.size)
        have gv_3 : GV W3 := hGV.turn bl_3
        obtain ⟨q1, q2⟩ := q
        cases q2
        · have h : out = ((st2.1, st2.2.1, 0, st2.2.2), eqS (s2) ⟨#[]⟩ && !needed) := by injection h with h; exact h.symm
          have hd0 : W3.cell? ⟨w.heap.size + 1, 0, none⟩ = some (.slice sa st2.1.length cap) := by simp [World.cell?, h1_3]
          have hd1 : W3.cell? ⟨w.heap.size + 1, 1, none⟩ = some (.int .i64 st2.2.1) := by simp [World.cell?, h1_3]
          have hd2 : W3.cell? ⟨w.heap.size + 1, 2, none⟩ = some (.int .i64 0) := by simp [World.cell?, h1_3]
          have hd3 : W3.cell? ⟨w.heap.size + 1, 3, none⟩ = some (.bool st2.2.2) := by simp [World.cell?, h1_3]
          have he0 : W3.cell? ⟨w.heap.size, 0, none⟩ = some (.slice none 0 0) := by simp [World.cell?, hz_3, z]
          have hf0 : W3.frozen? ⟨w.heap.size, 0, none⟩ = false := by simp [World.frozen?, hz_3, z]
          have he1 : W3.cell? ⟨w.heap.size, 1, none⟩ = some (.int .i64 0) := by simp [World.cell?, hz_3, z]
          have hf1 : W3.frozen? ⟨w.heap.size, 1, none⟩ = false := by simp [World.frozen?, hz_3, z]
          have he2 : W3.cell? ⟨w.heap.size, 2, none⟩ = some (.int .i64 0) := by simp [World.cell?, hz_3, z]
          have hf2 : W3.frozen? ⟨w.heap.size, 2, none⟩ = false := by simp [World.frozen?, hz_3, z]
          have he3 : W3.cell? ⟨w.heap.size, 3, none⟩ = some (.bool false) := by simp [World.cell?, hz_3, z]
          have hf3 : W3.frozen? ⟨w.heap.size, 3, none⟩ = false := by simp [World.frozen?, hz_3, z]
          have hg2 : W3.frozen? ⟨w.heap.size + 1, 2, none⟩ = false := by simp [World.frozen?, h1_3]
          subst h
          go_wp2
          all_goals
            refine bodyPost_ret (v := .tuple #[.agg #[.slice sa st2.1.length cap, .int .i64 st2.2.1, .int .i64 0, .bool st2.2.2], .bool _]) (scan_results _ _ w.heap.size _ _ rfl ?_ ?_ rfl) rfl ⟨_, rfl, scan_own ow_3, ((((bl_3.setCell (Nat.le_refl _) _).setCell (Nat.le_refl _) _).setCell (Nat.le_refl _) _).setCell (Nat.le_refl _) _)⟩
            · first | (rw [emp_t (by assumption)]; rfl) | (rw [emp_f (by assumption)]; rfl)
            · simp [World.setCell, Array.getElem?_modify, hz_3, h1_3, z]
        · obtain ⟨v3, hv3, h⟩ := Option.bind_eq_some_iff.1 h
          have hd0 : W3.cell? ⟨w.heap.size + 1, 0, none⟩ = some (.slice sa st2.1.length cap) := by simp [World.cell?, h1_3]
          have hd1 : W3.cell? ⟨w.heap.size + 1, 1, none⟩ = some (.int .i64 st2.2.1) := by simp [World.cell?, h1_3]
          have hd2 : W3.cell? ⟨w.heap.size + 1, 2, none⟩ = some (.int .i64 0) := by simp [World.cell?, h1_3]
          have hd3 : W3.cell? ⟨w.heap.size + 1, 3, none⟩ = some (.bool st2.2.2) := by simp [World.cell?, h1_3]
          have he0 : W3.cell? ⟨w.heap.size, 0, none⟩ = some (.slice none 0 0) := by simp [World.cell?, hz_3, z]
          have hf0 : W3.frozen? ⟨w.heap.size, 0, none⟩ = false := by simp [World.frozen?, hz_3, z]
          have he1 : W3.cell? ⟨w.heap.size, 1, none⟩ = some (.int .i64 0) := by simp [World.cell?, hz_3, z]
          have hf1 : W3.frozen? ⟨w.heap.size, 1, none⟩ = false := by simp [World.frozen?, hz_3, z]
          have he2 : W3.cell? ⟨w.heap.size, 2, none⟩ = some (.int .i64 0) := by simp [World.cell?, hz_3, z]
          have hf2 : W3.frozen? ⟨w.heap.size, 2, none⟩ = false := by simp [World.frozen?, hz_3, z]
          have he3 : W3.cell? ⟨w.heap.size, 3, none⟩ = some (.bool false) := by simp [World.cell?, hz_3, z]
          have hf3 : W3.frozen? ⟨w.heap.size, 3, none⟩ = false := by simp [World.frozen?, hz_3, z]
          have hg2 : W3.frozen? ⟨w.heap.size + 1, 2, none⟩ = false := by simp [World.frozen?, h1_3]
          go_wp2_with (first | (go_at_call 32; refine (whole_calls N _ _ gv_3 v3 hv3).mono ?_) | go_in)
          rintro e W4 ⟨rfl, c4⟩
          have m4 : w.heap.size + 1 < W3.heap.size := (Array.getElem?_eq_some_iff.1 h1_3).1
          have h1_4 := (c4.block _ m4).trans h1_3
          have hz_4 := (c4.block _ (Nat.lt_of_succ_lt m4)).trans hz_3
          have ow_4 := own_below ow_3 c4
          have bl_4 := bl_3.trans (c4.mono bl_3.size)
          have gv_4 : GV W4 := hGV.turn bl_4
          have hd0 : W4.cell? ⟨w.heap.size + 1, 0, none⟩ = some (.slice sa st2.1.length cap) := by simp [World.cell?, h1_4]
          have hd1 : W4.cell? ⟨w.heap.size + 1, 1, none⟩ = some (.int .i64 st2.2.1) := by simp [World.cell?, h1_4]
          have hd2 : W4.cell? ⟨w.heap.size + 1, 2, none⟩ = some (.int .i64 0) := by simp [World.cell?, h1_4]
          have hd3 : W4.cell? ⟨w.heap.size + 1, 3, none⟩ = some (.bool st2.2.2) := by simp [World.cell?, h1_4]
          have he0 : W4.cell? ⟨w.heap.size, 0, none⟩ = some (.slice none 0 0) := by simp [World.cell?, hz_4, z]
          have hf0 : W4.frozen? ⟨w.heap.size, 0, none⟩ = false := by simp [World.frozen?, hz_4, z]
          have he1 : W4.cell? ⟨w.heap.size, 1, none⟩ = some (.int .i64 0) := by simp [World.cell?, hz_4, z]
          have hf1 : W4.frozen? ⟨w.heap.size, 1, none⟩ = false := by simp [World.frozen?, hz_4, z]
          have he2 : W4.cell? ⟨w.heap.size, 2, none⟩ = some (.int .i64 0) := by simp [World.cell?, hz_4, z]
          have hf2 : W4.frozen? ⟨w.heap.size, 2, none⟩ = false := by simp [World.frozen?, hz_4, z]
          have he3 : W4.cell? ⟨w.heap.size, 3, none⟩ = some (.bool false) := by simp [World.cell?, hz_4, z]
          have hf3 : W4.frozen? ⟨w.heap.size, 3, none⟩ = false := by simp [World.frozen?, hz_4, z]
          have hg2 : W4.frozen? ⟨w.heap.size + 1, 2, none⟩ = false := by simp [World.frozen?, h1_4]
          obtain ⟨vi, vr, vs⟩ := v3
          have h := Option.some.inj h.symm
          subst h
          cases vs
          · go_wp2
            refine bodyPost_ret (v := .tuple #[.agg #[.slice sa st2.1.length cap, .int .i64 st2.2.1, .int .i64 vi, .bool st2.2.2], .bool _]) (scan_results _ _ w.heap.size _ _ rfl ?_ ?_ rfl) rfl ⟨_, rfl, scan_own1 ow_4, (((((bl_4.setCell (Nat.le_succ _) _).setCell (Nat.le_refl _) _).setCell (Nat.le_refl _) _).setCell (Nat.le_refl _) _).setCell (Nat.le_refl _) _)⟩
            · rfl
            · simp [World.setCell, Array.getElem?_modify, hz_4, h1_4, z]
          · go_wp2
            refine bodyPost_ret (v := .tuple #[.agg #[.slice sa st2.1.length cap, .int .i64 st2.2.1, .int .i64 vi, .bool st2.2.2], .bool _]) (scan_results _ _ w.heap.size _ _ rfl ?_ ?_ rfl) rfl ⟨_, rfl, scan_own1 ow_4, (((((bl_4.setCell (Nat.le_succ _) _).setCell (Nat.le_refl _) _).setCell (Nat.le_refl _) _).setCell (Nat.le_refl _) _).setCell (Nat.le_refl _) _)⟩
            · exact congrArg Value.bool (emp vr)
            · simp [World.setCell, Array.getElem?_modify, hz_4, h1_4, z]
    | succ n1 =>
      rw [show Nat.beq (n1 + 1 + n2) 0 = false by rw [Nat.add_right_comm]; rfl, cond_false] at h
      obtain ⟨q, hq, h⟩ := Option.bind_eq_some_iff.1 h
      have hd0 : W5.cell? ⟨w.heap.size + 1, 0, none⟩ = some (.slice sa st2.1.length cap) := by simp [World.cell?, k1]
      have hd1 : W5.cell? ⟨w.heap.size + 1, 1, none⟩ = some (.int .i64 st2.2.1) := by simp [World.cell?, k1]
      have hd2 : W5.cell? ⟨w.heap.size + 1, 2, none⟩ = some (.int .i64 0) := by simp [World.cell?, k1]
      have hd3 : W5.cell? ⟨w.heap.size + 1, 3, none⟩ = some (.bool st2.2.2) := by simp [World.cell?, k1]
      have he0 : W5.cell? ⟨w.heap.size, 0, none⟩ = some (.slice none 0 0) := by simp [World.cell?, hz5, z]
      have hf0 : W5.frozen? ⟨w.heap.size, 0, none⟩ = false := by simp [World.frozen?, hz5, z]
      have he1 : W5.cell? ⟨w.heap.size, 1, none⟩ = some (.int .i64 0) := by simp [World.cell?, hz5, z]
      have hf1 : W5.frozen? ⟨w.heap.size, 1, none⟩ = false := by simp [World.frozen?, hz5, z]
      have he2 : W5.cell? ⟨w.heap.size, 2, none⟩ = some (.int .i64 0) := by simp [World.cell?, hz5, z]
      have hf2 : W5.frozen? ⟨w.heap.size, 2, none⟩ = false := by simp [World.frozen?, hz5, z]
      have he3 : W5.cell? ⟨w.heap.size, 3, none⟩ = some (.bool false) := by simp [World.cell?, hz5, z]
      have hf3 : W5.frozen? ⟨w.heap.size, 3, none⟩ = false := by simp [World.frozen?, hz5, z]
      have hg2 : W5.frozen? ⟨w.heap.size + 1, 2, none⟩ = false := by simp [World.frozen?, k1]
      go_wp2_with (first | (go_at_call 11; refine (cutp_calls _ _ _ gv5 q hq).mono ?_) | go_in)
      rintro e W3 ⟨rfl, c3⟩
      have m3 : w.heap.size + 1 < W5.heap.size := (Array.getElem?_eq_some_iff.1 k1).1
      have h1_3 := (c3.block _ m3).trans k1
      have hz_3 := (c3.block _ (Nat.lt_of_succ_lt m3)).trans hz5
      have ow_3 := own_below k2 c3
      have bl_3 := b5.trans (c3.mono b5.size)
      have gv_3 : GV W3 := hGV.turn bl_3
      obtain ⟨q1, q2⟩ := q
      cases q2
      · have h : out = ((st2.1, st2.2.1, 0, st2.2.2), eqS (s2) ⟨#[]⟩ && !needed) := by injection h with h; exact h.symm
        have hd0 : W3.cell? ⟨w.heap.size + 1, 0, none⟩ = some (.slice sa st2.1.length cap) := by simp [World.cell?, h1_3]
        have hd1 : W3.cell? ⟨w.heap.size + 1, 1, none⟩ = some (.int .i64 st2.2.1) := by simp [World.cell?, h1_3]
        have hd2 : W3.cell? ⟨w.heap.size + 1, 2, none⟩ = some (.int .i64 0) := by simp [World.cell?, h1_3]
        have hd3 : W3.cell? ⟨w.heap.size + 1, 3, none⟩ = some (.bool st2.2.2) := by simp [World.cell?, h1_3]
        have he0 : W3.cell? ⟨w.heap.size, 0, none⟩ = some (.slice none 0 0) := by simp [World.cell?, hz_3, z]
        have hf0 : W3.frozen? ⟨w.heap.size, 0, none⟩ = false := by simp [World.frozen?, hz_3, z]
        have he1 : W3.cell? ⟨w.heap.size, 1, none⟩ = some (.int .i64 0) := by simp [World.cell?, hz_3, z]
        have hf1 : W3.frozen? ⟨w.heap.size, 1, none⟩ = false := by simp [World.frozen?, hz_3, z]
        have he2 : W3.cell? ⟨w.heap.size, 2, none⟩ = some (.int .i64 0) := by simp [World.cell?, hz_3, z]
        have hf2 : W3.frozen? ⟨w.heap.size, 2, none⟩ = false := by simp [World.frozen?, hz_3, z]
        have he3 : W3.cell? ⟨w.heap.size, 3, none⟩ = some (.bool false) := by simp [World.cell?, hz_3, z]
        have hf3 : W3.frozen? ⟨w.heap.size, 3, none⟩ = false := by simp [World.frozen?, hz_3, z]
        have hg2 : W3.frozen? ⟨w.heap.size + 1, 2, none⟩ = false := by simp [World.frozen?, h1_3]
        subst h
        go_wp2
        all_goals
          refine bodyPost_ret (v := .tuple #[.agg #[.slice sa st2.1.length cap, .int .i64 st2.2.1, .int .i64 0, .bool st2.2.2], .bool _]) (scan_results _ _ w.heap.size _ _ rfl ?_ ?_ rfl) rfl ⟨_, rfl, scan_own ow_3, ((((bl_3.setCell (Nat.le_refl _) _).setCell (Nat.le_refl _) _).setCell (Nat.le_refl _) _).setCell (Nat.le_refl _) _)⟩
          · first | (rw [emp_t (by assumption)]; rfl) | (rw [emp_f (by assumption)]; rfl)
          · simp [World.setCell, Array.getElem?_modify, hz_3, h1_3, z]
      · obtain ⟨v3, hv3, h⟩ := Option.bind_eq_some_iff.1 h
        have hd0 : W3.cell? ⟨w.heap.size + 1, 0, none⟩ = some (.slice sa st2.1.length cap) := by simp [World.cell?, h1_3]
        have hd1 : W3.cell? ⟨w.heap.size + 1, 1, none⟩ = some (.int .i64 st2.2.1) := by simp [World.cell?, h1_3]
        have hd2 : W3.cell? ⟨w.heap.size + 1, 2, none⟩ = some (.int .i64 0) := by simp [World.cell?, h1_3]
        have hd3 : W3.cell? ⟨w.heap.size + 1, 3, none⟩ = some (.bool st2.2.2) := by simp [World.cell?, h1_3]
        have he0 : W3.cell? ⟨w.heap.size, 0, none⟩ = some (.slice none 0 0) := by simp [World.cell?, hz_3, z]
        have hf0 : W3.frozen? ⟨w.heap.size, 0, none⟩ = false := by simp [World.frozen?, hz_3, z]
        have he1 : W3.cell? ⟨w.heap.size, 1, none⟩ = some (.int .i64 0) := by simp [World.cell?, hz_3, z]
        have hf1 : W3.frozen? ⟨w.heap.size, 1, none⟩ = false := by simp [World.frozen?, hz_3, z]
        have he2 : W3.cell? ⟨w.heap.size, 2, none⟩ = some (.int .i64 0) := by simp [World.cell?, hz_3, z]
        have hf2 : W3.frozen? ⟨w.heap.size, 2, none⟩ = false := by simp [World.frozen?, hz_3, z]
        have he3 : W3.cell? ⟨w.heap.size, 3, none⟩ = some (.bool false) := by simp [World.cell?, hz_3, z]
        have hf3 : W3.frozen? ⟨w.heap.size, 3, none⟩ = false := by simp [World.frozen?, hz_3, z]
        have hg2 : W3.frozen? ⟨w.heap.size + 1, 2, none⟩ = false := by simp [World.frozen?, h1_3]
        go_wp2_with (first | (go_at_call 32; refine (whole_calls N _ _ gv_3 v3 hv3).mono ?_) | go_in)
        rintro e W4 ⟨rfl, c4⟩
        have m4 : w.heap.size + 1 < W3.heap.size := (Array.getElem?_eq_some_iff.1 h1_3).1
        have h1_4 := (c4.block _ m4).trans h1_3
        have hz_4 := (c4.block _ (Nat.lt_of_succ_lt m4)).trans hz_3
        have ow_4 := own_below ow_3 c4
        have bl_4 := bl_3.trans (c4.mono bl_3.size)
        have gv_4 : GV W4 := hGV.turn bl_4
        have hd0 : W4.cell? ⟨w.heap.size + 1, 0, none⟩ = some (.slice sa st2.1.length cap) := by simp [World.cell?, h1_4]
        have hd1 : W4.cell? ⟨w.heap.size + 1, 1, none⟩ = some (.int .i64 st2.2.1) := by simp [World.cell?, h1_4]
        have hd2 : W4.cell? ⟨w.heap.size + 1, 2, none⟩ = some (.int .i64 0) := by simp [World.cell?, h1_4]
        have hd3 : W4.cell? ⟨w.heap.size + 1, 3, none⟩ = some (.bool st2.2.2) := by simp [World.cell?, h1_4]
        have he0 : W4.cell? ⟨w.heap.size, 0, none⟩ = some (.slice none 0 0) := by simp [World.cell?, hz_4, z]
        have hf0 : W4.frozen? ⟨w.heap.size, 0, none⟩ = false := by simp [World.frozen?, hz_4, z]
        have he1 : W4.cell? ⟨w.heap.size, 1, none⟩ = some (.int .i64 0) := by simp [World.cell?, hz_4, z]
        have hf1 : W4.frozen? ⟨w.heap.size, 1, none⟩ = false := by simp [World.frozen?, hz_4, z]
        have he2 : W4.cell? ⟨w.heap.size, 2, none⟩ = some (.int .i64 0) := by simp [World.cell?, hz_4, z]
        have hf2 : W4.frozen? ⟨w.heap.size, 2, none⟩ = false := by simp [World.frozen?, hz_4, z]
        have he3 : W4.cell? ⟨w.heap.size, 3, none⟩ = some (.bool false) := by simp [World.cell?, hz_4, z]
        have hf3 : W4.frozen? ⟨w.heap.size, 3, none⟩ = false := by simp [World.frozen?, hz_4, z]
        have hg2 : W4.frozen? ⟨w.heap.size + 1, 2, none⟩ = false := by simp [World.frozen?, h1_4]
        obtain ⟨vi, vr, vs⟩ := v3
        have h := Option.some.inj h.symm
        subst h
        cases vs
        · go_wp2
          refine bodyPost_ret (v := .tuple #[.agg #[.slice sa st2.1.length cap, .int .i64 st2.2.1, .int .i64 vi, .bool st2.2.2], .bool _]) (scan_results _ _ w.heap.size _ _ rfl ?_ ?_ rfl) rfl ⟨_, rfl, scan_own1 ow_4, (((((bl_4.setCell (Nat.le_succ _) _).setCell (Nat.le_refl _) _).setCell (Nat.le_refl _) _).setCell (Nat.le_refl _) _).setCell (Nat.le_refl _) _)⟩
          · rfl
          · simp [World.setCell, Array.getElem?_modify, hz_4, h1_4, z]
        · go_wp2
          refine bodyPost_ret (v := .tuple #[.agg #[.slice sa st2.1.length cap, .int .i64 st2.2.1, .int .i64 vi, .bool st2.2.2], .bool _]) (scan_results _ _ w.heap.size _ _ rfl ?_ ?_ rfl) rfl ⟨_, rfl, scan_own1 ow_4, (((((bl_4.setCell (Nat.le_succ _) _).setCell (Nat.le_refl _) _).setCell (Nat.le_refl _) _).setCell (Nat.le_refl _) _).setCell (Nat.le_refl _) _)⟩
          · exact congrArg Value.bool (emp vr)
          · simp [World.setCell, Array.getElem?_modify, hz_4, h1_4, z]
end Go.Proofs.YtcdhcihjcjpmkaaGreatDoor.Num
