/- PROVED HERE: PatHex' pure statement, over the functions that eng2.py printed: the digits of any pattern; the pattern of any digits, or the error. No condition beyond the arguments' kinds. -/
import Derived.Test.YtnpcejiijhgkjaaDoorTab
import Derived.Test.YtnpcejiijhgkjaaDoorDig
import Derived.Test.YtnpcejiijhgkjaaDoorFnPatHex
import Derived.Laws.RangeAny
namespace Go.Proofs.YtnpcejiijhgkjaaDoor
open Go Go.RowKit Eng Fns Bw Dig Num
set_option linter.unusedVariables false
set_option linter.unusedSimpArgs false
theorem bnd {α β : Type} {x : Option α} {a : α} {f : α → Option β} {r : Option β} (h : x = some a) (h2 : f a = r) : x.bind f = r := by rw [h, Option.bind_some]; exact h2
theorem cnT {β : Type} {b : Bool} {x y r : β} (h : b = true) (h2 : x = r) : cond b x y = r := by rw [h]; exact h2
theorem cnF {β : Type} {b : Bool} {x y r : β} (h : b = false) (h2 : y = r) : cond b x y = r := by rw [h]; exact h2
/-! ### digits and bytes -/
def hexd (d : Nat) : Nat := if d < 10 then 48 + d else 87 + d
def hexv (c : Nat) : Option Nat := if 48 ≤ c ∧ c ≤ 57 then some (c - 48) else if 97 ≤ c ∧ c ≤ 102 then some (c - 87) else none
theorem hexv_d {d : Nat} (h : d < 16) : hexv (hexd d) = some d := by
  unfold hexv hexd
  split
  · rw [if_pos (by omega)]; congr 1; omega
  · rw [if_neg (by omega), if_pos (by omega)]; congr 1; omega
theorem hexv_iff {k b : Nat} (h : k < 16) : hexd k = b ↔ hexv b = some k := by
  constructor
  · rintro rfl; exact hexv_d h
  · unfold hexv hexd
    split
    · intro he; injection he with he; split <;> omega
    · split
      · intro he; injection he with he; split <;> omega
      · intro he; cases he
theorem hexv_lt {b d : Nat} (h : hexv b = some d) : d < 16 := by
  unfold hexv at h
  split at h
  · injection h with h; omega
  · split at h
    · injection h with h; omega
    · cases h
def byte (s : ByteArray) (j : Nat) : Nat := if h : j < s.size then s[j].toNat else 0
theorem sAt_byte (s : ByteArray) (j : Nat) : sAt s (j : Int) = (byte s j : Int) := by
  unfold sAt byte
  rw [Int.toNat_natCast]
  split <;> rfl
theorem byte_lt (s : ByteArray) (j : Nat) : byte s j < 256 := by
  unfold byte
  split
  · exact UInt8.toNat_lt _
  · decide
def bs (l : List Nat) : ByteArray := ⟨(l.map UInt8.ofNat).toArray⟩
theorem bs_size (l : List Nat) : (bs l).size = l.length := by simp [bs, ByteArray.size]
theorem bs_cons (x : Nat) (l : List Nat) : bs [x] ++ bs l = bs (x :: l) := by
  apply ByteArray.ext
  rw [ByteArray.data_append]
  simp [bs]
theorem bs_byte {l : List Nat} {j x : Nat} (h : l[j]? = some x) (hx : x < 256) : byte (bs l) j = x := by
  obtain ⟨h1, h2⟩ := List.getElem?_eq_some_iff.1 h
  unfold byte
  rw [dif_pos (by rw [bs_size]; exact h1)]
  have : (bs l)[j]'(by rw [bs_size]; exact h1) = UInt8.ofNat x := by
    rw [ByteArray.getElem_eq_getElem_data]
    simp [bs, h2]
  rw [this]
  simp; omega
theorem bstr_eq : ∀ (xs : List Nat), bstr (xs.map fun n : Nat => (n : Int)) = bs xs := by
  have gen : ∀ (xs : List Nat) (r : ByteArray), (xs.map fun n : Nat => (n : Int)).foldl (fun r n => r.push (UInt8.ofNat n.toNat)) r = ⟨r.data ++ (xs.map UInt8.ofNat).toArray⟩ := by
    intro xs
    induction xs with
    | nil => intro r; simp
    | cons x xs ih =>
      intro r
      rw [List.map_cons, List.foldl_cons, ih]
      congr 1
      simp [ByteArray.push]
  intro xs
  unfold bstr
  rw [gen]
  simp [bs, ByteArray.empty, ByteArray.emptyWithCapacity]
  rfl
/-- the lowest k digits of a number, the highest first -/
def hd (p : Nat) : Nat → List Nat
  | 0 => []
  | k + 1 => hexd (p / 16 ^ k % 16) :: hd p k
theorem hd_len (p : Nat) : ∀ k, (hd p k).length = k
  | 0 => rfl
  | k + 1 => by rw [hd, List.length_cons, hd_len p k]
theorem hd_get (p : Nat) : ∀ (k j : Nat), j < k → (hd p k)[j]? = some (hexd (p / 16 ^ (k - 1 - j) % 16))
  | 0, j, h => by omega
  | k + 1, 0, h => by simp [hd]
  | k + 1, j + 1, h => by
    rw [hd, List.getElem?_cons_succ, hd_get p k j (by omega)]
    congr 5; omega
theorem hexd_lt {d : Nat} (h : d < 16) : hexd d < 256 := by unfold hexd; split <;> omega
/-! ### the document's digits -/
theorem lit_cut : ∀ d : Fin 16, (⟨#[48, 49, 50, 51, 52, 53, 54, 55, 56, 57, 97, 98, 99, 100, 101, 102]⟩ : ByteArray).extract d.1 (d.1 + 1) = bs [hexd d.1] := by decide +kernel
theorem lit_at : ∀ d : Fin 16, sAt (⟨#[48, 49, 50, 51, 52, 53, 54, 55, 56, 57, 97, 98, 99, 100, 101, 102]⟩ : ByteArray) (d.1 : Int) = (hexd d.1 : Int) := by decide +kernel
theorem str_at : ∀ d : Fin 16, sAt str0 (d.1 : Int) = (hexd d.1 : Int) := by decide +kernel
theorem str_size : (str0.size : Int) = 36 := by decide +kernel
theorem refHex_loop (N p : Nat) (hp : p < 18446744073709551616) : ∀ (r i f : Nat), i + r = 16 → r < f → l8_0 N f ((p / 16 ^ i : Nat) : Int) (bs (hd p i)) (i : Int) = some (bs (hd p 16)) := by
  intro r
  induction r with
  | zero =>
    intro i f hi hf
    obtain ⟨f, rfl⟩ : ∃ n', f = n' + 1 := ⟨f - 1, by omega⟩
    show s8_0 N _ _ _ _ = _
    unfold s8_0
    have : i = 16 := by omega
    subst this
    rw [ltI_f (by omega), cond_false]
  | succ r ih =>
    intro i f hi hf
    obtain ⟨f, rfl⟩ : ∃ n', f = n' + 1 := ⟨f - 1, by omega⟩
    show s8_0 N (l8_0 N f) _ _ _ = _
    unfold s8_0
    have ih := ih (i + 1) f (by omega) (by omega)
    have hd16 : p / 16 ^ i % 16 < 16 := Nat.mod_lt _ (by decide)
    have hdl : p / 16 ^ i ≤ p := Nat.div_le_self _ _
    have e1 : remI .u64 ((p / 16 ^ i : Nat) : Int) 16 = ((p / 16 ^ i % 16 : Nat) : Int) := remN .u64 _ 16
    have e2 : addI .u64 ((p / 16 ^ i % 16 : Nat) : Int) 1 = ((p / 16 ^ i % 16 + 1 : Nat) : Int) := addN (k := .u64) (b := 1) (by simp only [lim]; omega)
    have e3 : quoI .u64 ((p / 16 ^ i : Nat) : Int) 16 = ((p / 16 ^ (i + 1) : Nat) : Int) := by
      rw [Nat.pow_succ, ← Nat.div_div_eq_div_mul]
      exact quoN (k := .u64) (b := 16) (by simp only [lim]; omega)
    have e4 := lit_cut ⟨p / 16 ^ i % 16, hd16⟩
    simp only at e4
    have hsz : ((⟨#[48, 49, 50, 51, 52, 53, 54, 55, 56, 57, 97, 98, 99, 100, 101, 102]⟩ : ByteArray).size : Int) = 16 := rfl
    rw [ltI_t (by omega), cond_true, e1, e2, leI_t (by omega), leI_t (by omega), hsz, leI_t (by omega)]
    simp only [Bool.and_self, cond_true, Int.toNat_natCast]
    rw [e4, bs_size, bs_size, hd_len, leI_t (by simp; omega), cond_true, e3, bs_cons, succI i (by omega)]
    exact ih
theorem refHex_eq (N p : Nat) (hp : p < 18446744073709551616) (hN : 20 < N) : fn_tillerref03_Hex N (p : Int) = some (bs (hd p 16)) := by
  unfold fn_tillerref03_Hex t8
  have h := refHex_loop N p hp 16 0 N rfl (by omega)
  rw [Nat.pow_zero, Nat.div_one] at h
  exact h
/-! ### the program's digits -/
theorem cut_st (v : Vec 65) (i : Nat) (x : Int) (h : i < 65) : Vec.cut (Vec.st v (i : Int) x) i 65 = x :: Vec.cut v (i + 1) 65 := by
  unfold Vec.cut Vec.st
  have hv := v.2
  simp only [Int.toNat_natCast]
  have e : (v.1.set i x).drop i = x :: v.1.drop (i + 1) := by
    rw [List.drop_set, if_neg (by omega), Nat.sub_self, List.drop_eq_getElem_cons (by omega)]
    rfl
  rw [e, show 65 - i = 64 - i + 1 by omega, List.take_succ_cons, show 65 - (i + 1) = 64 - i by omega]
theorem fmt_loop (N p : Nat) (hp : p < 18446744073709551616) (s4 : ByteArray) (l9 : List Int) : ∀ (r k f : Nat) (v : Vec 65), k + r = 15 → p / 16 ^ k < 16 ^ (r + 1) → r + 1 < f → Vec.cut v (65 - k) 65 = (hd p k).map (fun n : Nat => (n : Int)) →
    ∃ k', k' ≤ 15 ∧ p / 16 ^ k' < 16 ∧ l27_0 N f [] ((p / 16 ^ k : Nat) : Int) false false s4 ((65 - k : Nat) : Int) 4 16 15 l9 v = some (l9, bs (hd p (k' + 1))) := by
  have last : ∀ (k f : Nat) (v : Vec 65), k ≤ 15 → p / 16 ^ k < 16 → 0 < f → Vec.cut v (65 - k) 65 = (hd p k).map (fun n : Nat => (n : Int)) →
      l27_0 N f [] ((p / 16 ^ k : Nat) : Int) false false s4 ((65 - k : Nat) : Int) 4 16 15 l9 v = some (l9, bs (hd p (k + 1))) := by
    intro k f v hk hlt hf hv
    obtain ⟨f, rfl⟩ : ∃ n', f = n' + 1 := ⟨f - 1, by omega⟩
    obtain ⟨u, hu⟩ : ∃ u, u = p / 16 ^ k := ⟨_, rfl⟩
    have hhd : hd p (k + 1) = hexd (u % 16) :: hd p k := by rw [hd, hu]
    rw [← hu] at hlt ⊢
    show s27_0 N _ _ _ _ _ _ _ _ _ _ _ _ = _
    unfold s27_0
    have e0 : subI .i64 ((65 - k : Nat) : Int) 1 = ((64 - k : Nat) : Int) := by rw [subI_i (by omega) (by omega)]; omega
    have e1 := str_at ⟨u, hlt⟩
    simp only at e1
    have e2 : bstr (Vec.cut (Vec.st v ((64 - k : Nat) : Int) (hexd u : Int)) (64 - k) 65) = bs (hd p (k + 1)) := by
      rw [cut_st v (64 - k) _ (by omega), show 64 - k + 1 = 65 - k by omega, hv, hhd, Nat.mod_eq_of_lt hlt, ← bstr_eq]
      rfl
    rw [leI_f (by omega), cond_false, e0, leI_t (by omega), cond_true, str_size, ltI_t (by omega), cond_true, leI_t (by omega), cond_true, ltI_t (by omega), cond_true, cond_false, cond_false, leI_t (by omega), leI_t (by omega)]
    simp only [Int.toNat_natCast]
    rw [show (true && true && true && true) = true from rfl, cond_true, show (Nat.ble (64 - k) 65 && Nat.ble 65 65) = true by simp; omega, cond_true, e1, e2]
  intro r
  induction r with
  | zero =>
    intro k f v hk hlt hf hv
    exact ⟨k, by omega, by simpa using hlt, last k f v (by omega) (by simpa using hlt) (by omega) hv⟩
  | succ r ih =>
    intro k f v hk hlt hf hv
    by_cases h16 : p / 16 ^ k < 16
    · exact ⟨k, by omega, h16, last k f v (by omega) h16 (by omega) hv⟩
    obtain ⟨f, rfl⟩ : ∃ n', f = n' + 1 := ⟨f - 1, by omega⟩
    have hd16 : p / 16 ^ k % 16 < 16 := Nat.mod_lt _ (by decide)
    have hdl : p / 16 ^ k ≤ p := Nat.div_le_self _ _
    have e0 : subI .i64 ((65 - k : Nat) : Int) 1 = ((64 - k : Nat) : Int) := by rw [subI_i (by omega) (by omega)]; omega
    have e1 := str_at ⟨p / 16 ^ k % 16, hd16⟩
    simp only at e1
    have e2 : andI .u64 ((p / 16 ^ k : Nat) : Int) 15 = ((p / 16 ^ k % 16 : Nat) : Int) := by
      rw [show (15 : Int) = ((2 ^ 4 - 1 : Nat) : Int) from rfl, andI_n (by omega) (by decide), Nat.and_two_pow_sub_one_eq_mod]
    have e3 : shrI .u64 ((p / 16 ^ k : Nat) : Int) 4 = ((p / 16 ^ (k + 1) : Nat) : Int) := by
      rw [Nat.pow_succ, ← Nat.div_div_eq_div_mul]
      exact shrN (k := .u64) (b := 4) (by decide)
    have hv2 : Vec.cut (Vec.st v ((64 - k : Nat) : Int) (hexd (p / 16 ^ k % 16) : Int)) (65 - (k + 1)) 65 = (hd p (k + 1)).map (fun n : Nat => (n : Int)) := by
      rw [show 65 - (k + 1) = 64 - k by omega, cut_st v (64 - k) _ (by omega), show 64 - k + 1 = 65 - k by omega, hv]
      rfl
    have hlt2 : p / 16 ^ (k + 1) < 16 ^ (r + 1) := by
      rw [Nat.pow_succ, ← Nat.div_div_eq_div_mul, Nat.div_lt_iff_lt_mul (by decide), ← Nat.pow_succ]
      exact hlt
    obtain ⟨k', h1, h2, h3⟩ := ih (k + 1) f _ (by omega) hlt2 (by omega) hv2
    refine ⟨k', h1, h2, ?_⟩
    have z1 : ¬ ((p / 16 ^ k : Nat) : Int) < 16 := by
      intro h; exact h16 (by exact_mod_cast h)
    have z2 : (16 : Int) ≤ ((p / 16 ^ k : Nat) : Int) := by
      exact_mod_cast Nat.le_of_not_lt h16
    have z3 : (0 : Int) ≤ ((p / 16 ^ k % 16 : Nat) : Int) := Int.natCast_nonneg _
    have z4 : ((p / 16 ^ k % 16 : Nat) : Int) < 36 := by exact_mod_cast Nat.lt_of_lt_of_le hd16 (by decide)
    show s27_0 N (l27_0 N f) _ _ _ _ _ _ _ _ _ _ _ = _
    unfold s27_0
    rw [leI_t z2, cond_true, e2, e0, leI_t z3, cond_true, str_size, ltI_t z4, cond_true, leI_t (by omega), cond_true, ltI_t (by omega), cond_true, ltI_f (by omega), cond_false, e3, e1]
    rw [show 65 - (k + 1) = 64 - k by omega] at h3
    exact h3

theorem fmt_eq (N p : Nat) (hp : p < 18446744073709551616) (hN : 20 < N) : ∃ k, k ≤ 15 ∧ p / 16 ^ k < 16 ∧ fn_strconv_FormatUint_13 N (p : Int) 16 = some (bs (hd p (k + 1))) := by
  obtain ⟨k, h1, h2, h3⟩ := fmt_loop N p hp (⟨#[]⟩ : ByteArray) [] 15 0 N (Vec.zero 65) rfl (by rw [Nat.pow_zero, Nat.div_one]; exact hp) (by omega) rfl
  rw [Nat.pow_zero, Nat.div_one] at h3
  refine ⟨k, h1, h2, ?_⟩
  have hb : fn_strconv_formatBits N [] (p : Int) 16 false false = some ([], bs (hd p (k + 1))) := h3
  have hf : fn_strconv_FormatUint N (p : Int) 16 = some (bs (hd p (k + 1))) := by
    unfold fn_strconv_FormatUint
    exact cnF rfl (bnd hb rfl)
  unfold fn_strconv_FormatUint_13
  exact bnd hf rfl
theorem pad_loop (N p : Nat) : ∀ (r k f : Nat), k + r = 16 → r < f → p / 16 ^ k = 0 → l7_0 N f (bs (hd p k)) = some (bs (hd p 16)) := by
  intro r
  induction r with
  | zero =>
    intro k f hk hf hz
    obtain ⟨f, rfl⟩ : ∃ n', f = n' + 1 := ⟨f - 1, by omega⟩
    show s7_0 N _ _ = _
    unfold s7_0
    have : k = 16 := by omega
    subst this
    rw [bs_size, hd_len, ltI_f (by omega), cond_false]
  | succ r ih =>
    intro k f hk hf hz
    obtain ⟨f, rfl⟩ : ∃ n', f = n' + 1 := ⟨f - 1, by omega⟩
    show s7_0 N (l7_0 N f) _ = _
    unfold s7_0
    have e : (⟨#[48]⟩ : ByteArray) ++ bs (hd p k) = bs (hd p (k + 1)) := by
      rw [hd, hz]
      exact bs_cons 48 _
    have hz2 : p / 16 ^ (k + 1) = 0 := by rw [Nat.pow_succ, ← Nat.div_div_eq_div_mul, hz]
    rw [bs_size, hd_len, ltI_t (by omega), cond_true, leI_t (by show (((1 + k : Nat)) : Int) ≤ _; omega), cond_true, e]
    exact ih (k + 1) f (by omega) (by omega) hz2
theorem hex_eq (N p : Nat) (hp : p < 18446744073709551616) (hN : 20 < N) : fn_pat_Hex N (p : Int) = some (bs (hd p 16)) := by
  obtain ⟨k, h1, h2, h3⟩ := fmt_eq N p hp hN
  have hz : p / 16 ^ (k + 1) = 0 := by rw [Nat.pow_succ, ← Nat.div_div_eq_div_mul]; exact Nat.div_eq_of_lt h2
  unfold fn_pat_Hex
  exact bnd h3 (pad_loop N p (15 - k) (k + 1) N (by omega) (by omega) hz)
/-! ### digits read -/
def vv (s : ByteArray) : Nat → Nat
  | 0 => 0
  | i + 1 => 16 * vv s i + (hexv (byte s i)).getD 0
theorem vv_lt (s : ByteArray) : ∀ i, vv s i < 16 ^ i
  | 0 => by show 0 < 16 ^ 0; decide
  | i + 1 => by
    have h := vv_lt s i
    have h2 : (hexv (byte s i)).getD 0 < 16 := by
      cases hh : hexv (byte s i) with
      | none => decide
      | some d => exact hexv_lt hh
    rw [vv, Nat.pow_succ]; omega
def good (s : ByteArray) : Prop := ∀ j, j < s.size → hexv (byte s j) ≠ none
theorem dec_low (s : ByteArray) (i : Nat) (h : i < s.size) (hb : byte s i < 128) : Utf8.decode s i = (byte s i, 1) := by
  have e : byte s i = (s[i]'h).toNat := by unfold byte; rw [dif_pos h]
  rw [e] at hb ⊢
  exact decode_ascii s i h hb
theorem dec_high (s : ByteArray) (i : Nat) (h : i < s.size) (hb : ¬ byte s i < 128) : 128 ≤ (Utf8.decode s i).1 := by
  have e : byte s i = (s[i]'h).toNat := by unfold byte; rw [dif_pos h]
  rw [e] at hb
  exact (decode_high s i h (by omega)).1
open Classical in
noncomputable def patR (s : ByteArray) : Int × Option Int := if s.size < 1 ∨ 16 < s.size ∨ ¬ good s then (0, some 3) else ((vv s s.size : Nat), none)
open Classical in
noncomputable def refR (s : ByteArray) : Int × Int := if s.size < 1 ∨ 16 < s.size ∨ ¬ good s then (0, 3) else ((vv s s.size : Nat), 0)
theorem or4 (a d : Nat) (ha : a < 1152921504606846976) (hd : d < 16) : orI .u64 (shlI .u64 (a : Int) 4) (d : Int) = ((16 * a + d : Nat) : Int) := by
  rw [show (4 : Int) = ((4 : Nat) : Int) from rfl, shlI_n (by omega), show (2 : Nat) ^ 4 = 16 from rfl, Nat.mod_eq_of_lt (by omega), orI_n (by omega) (by omega)]
  congr 1
  have := Nat.two_pow_add_eq_or_of_lt (i := 4) (b := d) (by omega) a
  rw [show (2 : Nat) ^ 4 = 16 from rfl] at this
  rw [Nat.mul_comm a]
  exact this.symm
theorem pat_loop (N : Nat) (s : ByteArray) : ∀ (r i f : Nat) (acc : Int), i + r = s.size → r < f → (∀ j, j < i → hexv (byte s j) ≠ none) → (s.size ≤ 16 → acc = ((vv s i : Nat) : Int)) → l5_0 N f s acc s i = some (patR s) := by
  intro r
  induction r with
  | zero =>
    intro i f acc hi hf hg ha
    obtain ⟨f, rfl⟩ : ∃ n', f = n' + 1 := ⟨f - 1, by omega⟩
    show s5_0 N _ _ _ _ _ = _
    unfold s5_0
    have hi2 : i = s.size := by omega
    have hgood : good s := fun j hj => hg j (by omega)
    rw [show Nat.blt i s.size = false from Bool.eq_false_iff.2 fun h => by have := nblt.1 h; omega, cond_false]
    unfold patR
    by_cases h1 : s.size < 1
    · rw [ltI_t (by omega), cond_true, if_pos (.inl h1)]
    · rw [ltI_f (by omega), cond_false]
      by_cases h2 : 16 < s.size
      · rw [ltI_t (by omega), cond_true, if_pos (.inr (.inl h2))]
      · rw [ltI_f (by omega), cond_false, if_neg (by rintro (h | h | h); exact h1 h; exact h2 h; exact h hgood), ha (by omega), hi2]
  | succ r ih =>
    intro i f acc hi hf hg ha
    obtain ⟨f, rfl⟩ : ∃ n', f = n' + 1 := ⟨f - 1, by omega⟩
    show s5_0 N (l5_0 N f) _ _ _ _ = _
    unfold s5_0
    have hlt : i < s.size := by omega
    rw [show Nat.blt i s.size = true from nblt.2 hlt, cond_true]
    have bad : hexv (byte s i) = none → patR s = (0, some 3) := fun hn => by
      unfold patR
      rw [if_pos (.inr (.inr fun hg => hg i hlt hn))]
    by_cases hb : byte s i < 128
    · rw [dec_low s i hlt hb]
      simp only
      have go : ∀ (d : Nat) (x : Int), hexv (byte s i) = some d → x = (d : Int) → l5_0 N f s (orI .u64 (shlI .u64 acc 4) (cvI .u64 x)) s (i + 1) = some (patR s) := by
        intro d x hd hx
        have hd16 := hexv_lt hd
        refine ih (i + 1) f _ (by omega) (by omega) (fun j hj => ?_) (fun h16 => ?_)
        · by_cases e : j = i
          · rw [e, hd]; simp
          · exact hg j (by omega)
        · have hv := vv_lt s i
          have hp : 16 ^ i ≤ 16 ^ 15 := Nat.pow_le_pow_right (by decide) (by omega)
          rw [ha h16, hx, cvN (by simp only [lim]; omega), or4 _ _ (by omega) hd16, vv, hd]
          rfl
      by_cases c1 : 48 ≤ byte s i
      · rw [leI_t (by omega), cond_true]
        by_cases c2 : byte s i ≤ 57
        · rw [leI_t (by omega), cond_true]
          have hd : hexv (byte s i) = some (byte s i - 48) := by unfold hexv; rw [if_pos ⟨c1, c2⟩]
          refine go _ _ hd ?_
          unfold subI
          have : IntKind.i32.wrap ((byte s i : Int) - 48) = (byte s i : Int) - 48 := by simp [IntKind.wrap, IntKind.bits, IntKind.signed]; omega
          rw [this]; omega
        · rw [leI_f (by omega), cond_false]
          by_cases c3 : 97 ≤ byte s i
          · rw [leI_t (by omega), cond_true]
            by_cases c4 : byte s i ≤ 102
            · rw [leI_t (by omega), cond_true]
              have hd : hexv (byte s i) = some (byte s i - 87) := by unfold hexv; rw [if_neg (by omega), if_pos ⟨c3, c4⟩]
              refine go _ _ hd ?_
              unfold addI subI
              have e1 : IntKind.i32.wrap ((byte s i : Int) - 97) = (byte s i : Int) - 97 := by simp [IntKind.wrap, IntKind.bits, IntKind.signed]; omega
              have e2 : IntKind.i32.wrap ((byte s i : Int) - 97 + 10) = (byte s i : Int) - 97 + 10 := by simp [IntKind.wrap, IntKind.bits, IntKind.signed]; omega
              rw [e1, e2]; omega
            · rw [leI_f (by omega), cond_false, bad (by unfold hexv; rw [if_neg (by omega), if_neg (by omega)])]
          · rw [leI_f (by omega), cond_false, bad (by unfold hexv; rw [if_neg (by omega), if_neg (by omega)])]
      · rw [leI_f (by omega), cond_false, leI_f (by omega), cond_false, bad (by unfold hexv; rw [if_neg (by omega), if_neg (by omega)])]
    · have hc := dec_high s i hlt hb
      generalize (Utf8.decode s i).1 = c at *
      rw [leI_t (by omega), cond_true, leI_f (by omega), cond_false, leI_t (by omega), cond_true, leI_f (by omega), cond_false, bad (by unfold hexv; rw [if_neg (by omega), if_neg (by omega)])]
theorem patParse_eq (N : Nat) (s : ByteArray) (hN : s.size < N) : fn_pat_Parse N s = some (patR s) := by
  unfold fn_pat_Parse
  exact pat_loop N s s.size 0 N 0 (by omega) hN (fun j hj => by omega) (fun _ => rfl)

def dk (b k : Nat) : Int := match hexv b with
  | some v => if v < k then (v : Int) else -1
  | none => -1
theorem dk_succ (b k : Nat) (hk : k < 16) : dk b (k + 1) = if hexd k = b then (k : Int) else dk b k := by
  unfold dk
  by_cases h : hexd k = b
  · rw [if_pos h, (hexv_iff hk).1 h]
    simp
  · rw [if_neg h]
    cases hv : hexv b with
    | none => rfl
    | some v =>
      have hne : v ≠ k := by
        rintro rfl
        exact h ((hexv_iff hk).2 hv)
      simp only
      by_cases h2 : v < k
      · rw [if_pos h2, if_pos (by omega)]
      · rw [if_neg h2, if_neg (by omega)]
theorem ref_in (N : Nat) (s : ByteArray) (i : Nat) (v1 : Int) (hi : i < s.size) (E : ByteArray → Int → Int → Option (Int × Int)) : ∀ (r k f : Nat), k + r = 16 → r < f →
    l6_1 N E f s v1 (i : Int) (dk (byte s i) k) (k : Int) = cond (ltI (dk (byte s i) 16) 0) (some (0, 3)) (E s (addI .u64 (mulI .u64 16 v1) (cvI .u64 (dk (byte s i) 16))) (addI .i64 (i : Int) 1)) := by
  intro r
  induction r with
  | zero =>
    intro k f hk hf
    obtain ⟨f, rfl⟩ : ∃ n', f = n' + 1 := ⟨f - 1, by omega⟩
    show s6_1 N _ _ _ _ _ _ _ = _
    unfold s6_1
    have : k = 16 := by omega
    subst this
    rw [ltI_f (show ¬ ((16 : Nat) : Int) < 16 by omega), cond_false]
  | succ r ih =>
    intro k f hk hf
    obtain ⟨f, rfl⟩ : ∃ n', f = n' + 1 := ⟨f - 1, by omega⟩
    show s6_1 N (l6_1 N E f) E _ _ _ _ _ = _
    unfold s6_1
    have hk16 : k < 16 := by omega
    have ih := ih (k + 1) f (by omega) (by omega)
    have e1 := lit_at ⟨k, hk16⟩
    simp only at e1
    have hsz : ((⟨#[48, 49, 50, 51, 52, 53, 54, 55, 56, 57, 97, 98, 99, 100, 101, 102]⟩ : ByteArray).size : Int) = 16 := rfl
    rw [ltI_t (show (k : Int) < 16 by omega), cond_true, leI_t (show (0 : Int) ≤ (k : Int) by omega), cond_true, hsz, ltI_t (show (k : Int) < 16 by omega), cond_true, leI_t (show (0 : Int) ≤ (i : Int) by omega), cond_true, ltI_t (show (i : Int) < (s.size : Int) by omega), cond_true, e1, sAt_byte, eq_n, succI k (by omega)]
    rw [dk_succ _ _ hk16] at ih
    by_cases h : hexd k = byte s i
    · rw [if_pos h] at ih
      rw [decide_eq_true h, cond_true]
      exact ih
    · rw [if_neg h] at ih
      rw [decide_eq_false h, cond_false]
      exact ih
theorem ref_loop (N : Nat) (s : ByteArray) (h0 : ¬ s.size < 1) (h16 : ¬ 16 < s.size) (hN : 20 < N) : ∀ (r i f : Nat), i + r = s.size → r < f → (∀ j, j < i → hexv (byte s j) ≠ none) → l6_0 N f s ((vv s i : Nat) : Int) (i : Int) = some (refR s) := by
  intro r
  induction r with
  | zero =>
    intro i f hi hf hg
    obtain ⟨f, rfl⟩ : ∃ n', f = n' + 1 := ⟨f - 1, by omega⟩
    show s6_0 N _ _ _ _ = _
    unfold s6_0
    have hi2 : i = s.size := by omega
    have hgood : good s := fun j hj => hg j (by omega)
    rw [ltI_f (by omega), cond_false]
    unfold refR
    rw [if_neg (by rintro (h | h | h); exact h0 h; exact h16 h; exact h hgood), hi2]
  | succ r ih =>
    intro i f hi hf hg
    obtain ⟨f, rfl⟩ : ∃ n', f = n' + 1 := ⟨f - 1, by omega⟩
    show s6_0 N (l6_1 N (l6_0 N f) N) _ _ _ = _
    unfold s6_0
    have hlt : i < s.size := by omega
    have hin := ref_in N s i ((vv s i : Nat) : Int) hlt (l6_0 N f) 16 0 N rfl (by omega)
    have hd0 : dk (byte s i) 0 = -1 := by
      unfold dk
      split
      · rw [if_neg (by omega)]
      · rfl
    rw [hd0] at hin
    rw [ltI_t (by omega), cond_true]
    refine Eq.trans hin ?_
    cases hv : hexv (byte s i) with
    | none =>
      have hd : dk (byte s i) 16 = -1 := by unfold dk; rw [hv]
      have : refR s = (0, 3) := by
        unfold refR
        rw [if_pos (.inr (.inr fun hg => hg i hlt hv))]
      rw [hd, this]
      rfl
    | some d =>
      have hd16 := hexv_lt hv
      have hd : dk (byte s i) 16 = (d : Int) := by unfold dk; rw [hv]; simp only; rw [if_pos hd16]
      have hvl := vv_lt s i
      have hp : 16 ^ i ≤ 16 ^ 15 := Nat.pow_le_pow_right (by decide) (by omega)
      have e1 : mulI .u64 16 ((vv s i : Nat) : Int) = ((16 * vv s i : Nat) : Int) := mulN (k := .u64) (a := 16) (by simp only [lim]; omega)
      have ih := ih (i + 1) f (by omega) (by omega) (fun j hj => by
        by_cases e : j = i
        · rw [e, hv]; simp
        · exact hg j (by omega))
      rw [hd, ltI_f (by omega), cond_false, e1, cvN (by simp only [lim]; omega), addN (by simp only [lim]; omega), succI i (by omega)]
      rw [vv, hv] at ih
      exact ih
theorem tl_loop (s : ByteArray) : ∀ (n i : Nat) (r : List UInt8), i + n = s.size → (ByteArray.toList.loop s i r).length = r.length + n := by
  intro n
  induction n with
  | zero =>
    intro i r hi
    rw [ByteArray.toList.loop, if_neg (by omega)]
    simp
  | succ n ih =>
    intro i r hi
    rw [ByteArray.toList.loop, if_pos (by omega), ih (i + 1) _ (by omega)]
    simp; omega
theorem toList_len (s : ByteArray) : s.toList.length = s.size := by
  have := tl_loop s s.size 0 [] (by omega)
  rw [List.length_nil, Nat.zero_add] at this
  exact this
theorem refParse_eq (N : Nat) (s : ByteArray) (hN : 20 < N) : fn_tillerref03_Parse N s = some (refR s) := by
  unfold fn_tillerref03_Parse t6
  by_cases h0 : s.size < 1
  · have he : eqS s (⟨#[]⟩ : ByteArray) = true := by
      have : s = (⟨#[]⟩ : ByteArray) := by
        apply ByteArray.ext
        apply Array.eq_empty_of_size_eq_zero
        show s.size = 0
        omega
      rw [this]; unfold eqS; exact beq_self_eq_true _
    unfold refR
    rw [he, cond_true, if_pos (.inl h0)]
  · have he : eqS s (⟨#[]⟩ : ByteArray) = false := by
      cases hq : eqS s (⟨#[]⟩ : ByteArray) with
      | false => rfl
      | true =>
        exfalso
        have hl : s.toList = (⟨#[]⟩ : ByteArray).toList := by simpa [eqS] using hq
        have := congrArg List.length hl
        rw [toList_len, toList_len] at this
        exact h0 (by rw [this]; decide)
    rw [he, cond_false]
    by_cases h16 : 16 < s.size
    · unfold refR
      rw [ltI_t (by omega), cond_true, if_pos (.inr (.inl h16))]
    · rw [ltI_f (by omega), cond_false]
      exact ref_loop N s h0 h16 hN s.size 0 N (by omega) (by omega) (fun j hj => by omega)
/-! ### the digits of a pattern, read -/
theorem vv_hd (p : Nat) (hp : p < 18446744073709551616) : ∀ i, i ≤ 16 → vv (bs (hd p 16)) i = p / 16 ^ (16 - i)
  | 0, _ => (Nat.div_eq_of_lt hp).symm
  | i + 1, h => by
    have hb : byte (bs (hd p 16)) i = hexd (p / 16 ^ (16 - 1 - i) % 16) := bs_byte (hd_get p 16 i (by omega)) (hexd_lt (Nat.mod_lt _ (by decide)))
    rw [vv, vv_hd p hp i (by omega), hb, hexv_d (Nat.mod_lt _ (by decide)), show 16 - i = 16 - 1 - i + 1 by omega, show 16 - (i + 1) = 16 - 1 - i by omega, Nat.pow_succ, ← Nat.div_div_eq_div_mul]
    simp only [Option.getD_some]
    exact Nat.div_add_mod _ _
theorem patR_hd (p : Nat) (hp : p < 18446744073709551616) : patR (bs (hd p 16)) = ((p : Int), none) := by
  have hsz : (bs (hd p 16)).size = 16 := by rw [bs_size, hd_len]
  have hg : good (bs (hd p 16)) := by
    intro j hj
    rw [hsz] at hj
    rw [bs_byte (hd_get p 16 j hj) (hexd_lt (Nat.mod_lt _ (by decide))), hexv_d (Nat.mod_lt _ (by decide))]
    simp
  unfold patR
  rw [if_neg (by rintro (h | h | h); omega; omega; exact h hg), hsz, vv_hd p hp 16 (Nat.le_refl _), Nat.sub_self, Nat.pow_zero, Nat.div_one]
theorem sure_eq (N : Nat) (hN : 20 < N) : fn_tillerlaw03_sure N = some true := by
  unfold fn_tillerlaw03_sure
  have h1 : fn_pat_Take N 4607182418800017408 = some (false, 2, -52, 4503599627370496) := by kernel_rfl
  have h2 : fn_pat_IsNaN N 9221120237041090560 = some true := by kernel_rfl
  have h3 : fn_pat_Hex N 10 = some (bs (hd 10 16)) := hex_eq N 10 (by omega) hN
  have h4 : eqS (bs (hd 10 16)) (⟨#[48, 48, 48, 48, 48, 48, 48, 48, 48, 48, 48, 48, 48, 48, 48, 97]⟩ : ByteArray) = true := by decide +kernel
  refine bnd h1 (cnT (by decide +kernel) (bnd h2 (cnT rfl (bnd h3 ?_))))
  rw [h4]
theorem pure_PatHex : ∀ (a0 : Int) (a1 : ByteArray), okN .u64 a0 → a1.size ≤ maxLen → ∃ N, fn_tillerlaw03_PatHex N a0 a1 = some true := by
  intro p s hp _
  have hp2 := u64_in hp
  obtain ⟨n, rfl⟩ := Int.eq_ofNat_of_zero_le hp2.1
  have hn : n < 18446744073709551616 := by omega
  refine ⟨s.size + 100, ?_⟩
  have k1 := patParse_eq (s.size + 100) s (by omega)
  have k2 := refParse_eq (s.size + 100) s (by omega)
  have k3 := hex_eq (s.size + 100) n hn (by omega)
  have k4 := patParse_eq (s.size + 100) (bs (hd n 16)) (by rw [bs_size, hd_len]; omega)
  rw [patR_hd n hn] at k4
  have k6 := refHex_eq (s.size + 100) n hn (by omega)
  have k7 : eqS (bs (hd n 16)) (bs (hd n 16)) = true := by unfold eqS; exact beq_self_eq_true _
  have k8 : eqI (patR s).1 (refR s).1 = true := by
    unfold patR refR
    split <;> exact eqI_t rfl
  have k9 : eqI ((patR s).2.getD 0) (refR s).2 = true := by
    unfold patR refR
    split <;> rfl
  unfold fn_tillerlaw03_PatHex
  exact bnd k1 (bnd k2 (bnd k3 (bnd k4 (bnd k3 (bnd k6 (cnT k7 (cnT k8 (bnd rfl (cnT k9 (cnT (eqI_t rfl) (cnT rfl (bnd (sure_eq _ (by omega)) rfl))))))))))))
end Go.Proofs.YtnpcejiijhgkjaaDoor
