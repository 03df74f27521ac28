/- PLAIN FACTS on the operations, part 1: what hangs on no mode. No statement is proved here. -/
import Derived.Test.YtopcajgknbmbcaaGreatDoorTop3
namespace Go.Proofs.YtopcajgknbmbcaaGreatDoor.Top
open Go Go.RowKit Go.Proofs.YtopcajgknbmbcaaGreatDoor.Eng Go.Proofs.YtopcajgknbmbcaaGreatDoor.Fns Go.Proofs.YtopcajgknbmbcaaGreatDoor.Bw Go.Proofs.YtopcajgknbmbcaaGreatDoor.Wid Go.Proofs.YtopcajgknbmbcaaGreatDoor.Patp
set_option linter.unusedVariables false
set_option linter.unusedSimpArgs false
/-- a pattern that is a number or endless -/
def okP (p : Int) : Prop := 0 ≤ p ∧ p < 18446744073709551616 ∧ p % 9223372036854775808 ≤ 9218868437227405312
def CSpec (g : Int → Option (Int × Int)) : Prop := ∃ p f, (∀ m, g m = some (p, f)) ∧ (p = 9221120237041090560 ∨ (okP p ∧ (f = 0 ∨ f = 2)))
def ZSpec (g : Int → Option (Int × Int)) : Prop := ∀ m, g m = some (sg (eqI m 4), 0)
/-- what an operation answers, by all modes -/
def Sp (g : Int → Option (Int × Int)) : Prop := CSpec g ∨ RSpec g ∨ ZSpec g
theorem Sp.bnd {α : Type} {e : Option α} {v : α} (h : e = some v) {K : α → Int → Option (Int × Int)} (hk : Sp (K v)) : Sp (fun m => e.bind fun r => K r m) := by
  rw [h]; exact hk
theorem Sp.cnd {b : Bool} {A B : Int → Option (Int × Int)} (ha : b = true → Sp A) (hb : b = false → Sp B) : Sp (fun m => cond b (A m) (B m)) := by
  cases b
  · exact hb rfl
  · exact ha rfl
theorem bind_eta {α β : Type} (o : Option (α × β)) : (o.bind fun r => some (r.1, r.2)) = o := by cases o <;> rfl
theorem Sp.eta {g : Int → Option (Int × Int)} (h : Sp g) : Sp (fun m => (g m).bind fun r => some (r.1, r.2)) := by
  have : (fun m => (g m).bind fun r => some (r.1, r.2)) = g := funext fun m => bind_eta _
  rw [this]; exact h
theorem Sp.nan (f : Int) : Sp (fun _ => some (9221120237041090560, f)) := .inl ⟨_, f, fun _ => rfl, .inl rfl⟩
theorem Sp.const {p f : Int} (h : okP p) (hf : f = 0 ∨ f = 2) : Sp (fun _ => some (p, f)) := .inl ⟨p, f, fun _ => rfl, .inr ⟨h, hf⟩⟩
/-- a sum: of no mode, or a nought with the sign of one -/
def MI (g : Int → Option NumV) : Prop := (∃ z, WF z ∧ ∀ m, g m = some z) ∨ (∀ m, g m = some (eqI m 4, 0, Vec.zero 4, false))
theorem MI.bnd {α : Type} {e : Option α} {v : α} (h : e = some v) {K : α → Int → Option NumV} (hk : MI (K v)) : MI (fun m => e.bind fun r => K r m) := by
  rw [h]; exact hk
theorem MI.cnd {b : Bool} {A B : Int → Option NumV} (ha : b = true → MI A) (hb : b = false → MI B) : MI (fun m => cond b (A m) (B m)) := by
  cases b
  · exact hb rfl
  · exact ha rfl
theorem bind_eta4 (o : Option NumV) : (o.bind fun r => some (r.1, r.2.1, r.2.2.1, r.2.2.2)) = o := by cases o <;> rfl
theorem MI.eta {g : Int → Option NumV} (h : MI g) : MI (fun m => (g m).bind fun r => some (r.1, r.2.1, r.2.2.1, r.2.2.2)) := by
  have : (fun m => (g m).bind fun r => some (r.1, r.2.1, r.2.2.1, r.2.2.2)) = g := funext fun m => bind_eta4 _
  rw [this]; exact h
theorem MI.const {mi mo : Bool} {E : Int} {s : Nat} (hs : s < 2 ^ 256) : MI (fun _ => some (mi, E, W s, mo)) := .inl ⟨_, ⟨s, hs, rfl⟩, fun _ => rfl⟩
theorem nought_mi (N : Nat) (a b : Bool) : MI (fun m => fn_sums_nought N a b m) := by
  unfold fn_sums_nought
  refine MI.cnd (fun _ => ?_) fun _ => .inr fun _ => rfl
  rw [W_zero]
  exact MI.const (by decide)
theorem aligned_mi (N : Nat) (hN : 300 ≤ N) (mi mo mi2 mo2 : Bool) (E E2 : Int) (s s2 : Nat) (hs : s < 2 ^ 256) (hs2 : s2 < 2 ^ 256) : MI (fun m => fn_sums_aligned N (mi, E, W s, mo) (mi2, E2, W s2, mo2) m) := by
  unfold fn_sums_aligned
  simp only
  refine MI.bnd (shl_eq N hN s _) ?_
  have h1 := shl_lt s hs (subI .i64 E E2)
  refine MI.cnd (fun _ => ?_) fun _ => ?_
  · exact MI.bnd (add_eq N hN _ _ h1 hs2) (MI.const (p256 _))
  · refine MI.bnd (cmp_eq N hN _ _ h1 hs2) (MI.cnd (fun _ => ?_) fun _ => MI.cnd (fun _ => ?_) fun _ => ?_)
    · exact MI.eta (nought_mi N false true)
    · exact MI.bnd (sub_eq N hN _ _ h1 hs2) (MI.const (p256 _))
    · exact MI.bnd (sub_eq N hN _ _ hs2 h1) (MI.const (p256 _))
theorem beside_mi (N : Nat) (hN : 300 ≤ N) (mi mo mi2 mo2 : Bool) (E E2 : Int) (s s2 : Nat) (hs : s < 2 ^ 256) (hs2 : s2 < 2 ^ 256) : MI (fun _ => fn_sums_beside N (mi, E, W s, mo) (mi2, E2, W s2, mo2)) := by
  unfold fn_sums_beside
  simp only
  refine MI.bnd (len_eq N hN s hs) (MI.bnd (shr_eq N hN s2 hs2 _) (MI.bnd (shl_eq N hN s _) (MI.cnd (fun _ => ?_) fun _ => ?_)))
  · exact MI.bnd (add_eq N hN _ _ (shl_lt _ hs _) (shr_lt _ hs2 _)) (MI.const (p256 _))
  · refine MI.bnd (sub_eq N hN _ _ (shl_lt _ hs _) (shr_lt _ hs2 _)) (MI.cnd (fun _ => ?_) fun _ => MI.const (p256 _))
    exact MI.bnd (of_one N) (MI.bnd (sub_eq N hN _ _ (p256 _) (by decide)) (MI.const (p256 _)))
theorem join_mi (N : Nat) (hN : 300 ≤ N) (mi mo mi2 mo2 : Bool) (E E2 : Int) (s s2 : Nat) (hs : s < 2 ^ 256) (hs2 : s2 < 2 ^ 256) : MI (fun m => fn_sums_join N (mi, E, W s, mo) (mi2, E2, W s2, mo2) m) := by
  have big : MI (fun m => cond (ltI E E2) ((fn_wide_Len N (W s2)).bind fun r8 =>
       cond (ltI (subI .i64 (addI .i64 r8 E2) E) 250)
        ((fn_sums_aligned N (mi2, E2, W s2, mo2) (mi, E, W s, mo) m).bind fun r9 => some (r9.1, r9.2.1, r9.2.2.1, r9.2.2.2))
        ((fn_sums_beside N (mi2, E2, W s2, mo2) (mi, E, W s, mo)).bind fun r10 => some (r10.1, r10.2.1, r10.2.2.1, r10.2.2.2)))
      ((fn_wide_Len N (W s)).bind fun r11 =>
       cond (ltI (subI .i64 (addI .i64 r11 E) E2) 250)
        ((fn_sums_aligned N (mi, E, W s, mo) (mi2, E2, W s2, mo2) m).bind fun r12 => some (r12.1, r12.2.1, r12.2.2.1, r12.2.2.2))
        ((fn_sums_beside N (mi, E, W s, mo) (mi2, E2, W s2, mo2)).bind fun r13 => some (r13.1, r13.2.1, r13.2.2.1, r13.2.2.2)))) := by
    refine MI.cnd (fun _ => ?_) fun _ => ?_
    · exact MI.bnd (len_eq N hN s2 hs2) (MI.cnd (fun _ => MI.eta (aligned_mi N hN mi2 mo2 mi mo E2 E s2 s hs2 hs)) fun _ => MI.eta (beside_mi N hN mi2 mo2 mi mo E2 E s2 s hs2 hs))
    · exact MI.bnd (len_eq N hN s hs) (MI.cnd (fun _ => MI.eta (aligned_mi N hN mi mo mi2 mo2 E E2 s s2 hs hs2)) fun _ => MI.eta (beside_mi N hN mi mo mi2 mo2 E E2 s s2 hs hs2))
  unfold fn_sums_join
  simp only
  exact MI.cnd (fun _ => MI.cnd (fun _ => MI.eta (nought_mi N mi mi2)) fun _ => MI.cnd (fun _ => MI.const hs2) fun _ => MI.cnd (fun _ => MI.const hs) fun _ => big)
    fun _ => MI.cnd (fun _ => MI.const hs2) fun _ => MI.cnd (fun _ => MI.const hs) fun _ => big
theorem round_z (N : Nat) (hN : 300 ≤ N) (m : Int) : fn_rnd_Round N (eqI m 4, 0, Vec.zero 4, false) m = some (sg (eqI m 4), 0) := by
  obtain ⟨E0, hnear, e0, e1⟩ := near_eq N (eqI m 4, 0, Vec.zero 4, false)
  have hex : fn_rnd_Num_exact N (eqI m 4, E0, Vec.zero 4, false) = some (eqI m 4, E0, Vec.zero 4, false) := rfl
  have hz : eqL (Vec.zero 4).1 (Vec.zero 4).1 = true := by rw [W_zero, W_eq (by decide) (by decide)]; rfl
  rw [round_unf, hnear, Option.bind_some, hex, Option.bind_some, hz, cond_true, sign_eq, Option.bind_some, copy_sg N 0 _ (by decide) (by decide), Option.bind_some, Int.add_zero]
/-- a sum, rounded -/
theorem Sp.sum (N : Nat) (hN : 300 ≤ N) {J : Int → Option NumV} (h : MI J) : Sp (fun m => (J m).bind fun r => (fn_rnd_Round N (r.1, r.2.1, r.2.2.1, r.2.2.2) m).bind fun q => some (q.1, q.2)) := by
  rcases h with ⟨z, hz, h⟩ | h
  · have : (fun m => (J m).bind fun r => (fn_rnd_Round N (r.1, r.2.1, r.2.2.1, r.2.2.2) m).bind fun q => some (q.1, q.2)) = fun m => fn_rnd_Round N z m := funext fun m => by
      rw [h m, Option.bind_some, bind_eta]
    rw [this]
    exact .inr (.inl (round_spec N hN z hz))
  · refine .inr (.inr fun m => ?_)
    show (J m).bind _ = _
    rw [h m, Option.bind_some, round_z N hN m, Option.bind_some]
theorem Sp.rnd (N : Nat) (hN : 300 ≤ N) {x : NumV} (hx : WF x) : Sp (fun m => (fn_rnd_Round N x m).bind fun q => some (q.1, q.2)) :=
  Sp.eta (.inr (.inl (round_spec N hN x hx)))
end Go.Proofs.YtopcajgknbmbcaaGreatDoor.Top
