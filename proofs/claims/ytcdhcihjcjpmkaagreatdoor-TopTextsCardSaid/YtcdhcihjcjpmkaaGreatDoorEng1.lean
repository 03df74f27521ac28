/- THE ENGINE, part 1: a plain evaluator of the loaded code over values without memory (numbers, rows of numbers). No statement is proved here. -/
import Derived.WalkKit
import Derived.KernelRfl
import Derived.Orders
namespace Go.Proofs.YtcdhcihjcjpmkaaGreatDoor.Eng
open Go Go.RowKit
set_option linter.unusedVariables false

/-- a row of n whole numbers -/
structure Vec (n : Nat) where
  val : List Int
  len : val.length = n
def Vec.rd {n : Nat} (x : Vec n) (i : Int) : Int := x.1.getD i.toNat 0
def Vec.st {n : Nat} (x : Vec n) (i : Int) (v : Int) : Vec n := ⟨x.1.set i.toNat v, by rw [List.length_set]; exact x.2⟩
def Vec.zero (n : Nat) : Vec n := ⟨List.replicate n 0, List.length_replicate ..⟩
def Vec.of (l : List Int) : Vec l.length := ⟨l, rfl⟩
def Vec.sub {n : Nat} (x : Vec n) (off m : Nat) (h : off + m ≤ n) : Vec m := ⟨(x.1.drop off).take m, by rw [List.length_take, List.length_drop, x.2]; omega⟩
def Vec.cut {n : Nat} (x : Vec n) (lo hi : Nat) : List Int := (x.1.drop lo).take (hi - lo)
def sAt (s : ByteArray) (i : Int) : Int := if h : i.toNat < s.size then (s[i.toNat].toNat : Int) else 0
def lrd (xs : List Int) (i : Int) : Int := xs.getD i.toNat 0

/-- whole numbers: what an operation answers, by name -/
def addI (k : IntKind) (a b : Int) : Int := k.wrap (a + b)
def subI (k : IntKind) (a b : Int) : Int := k.wrap (a - b)
def mulI (k : IntKind) (a b : Int) : Int := k.wrap (a * b)
def quoI (k : IntKind) (a b : Int) : Int := k.wrap (a.tdiv b)
def remI (_ : IntKind) (a b : Int) : Int := a.tmod b
def andI (k : IntKind) (a b : Int) : Int := bits .and k a b
def orI (k : IntKind) (a b : Int) : Int := bits .or k a b
def xorI (k : IntKind) (a b : Int) : Int := bits .xor k a b
def bicI (k : IntKind) (a b : Int) : Int := bits .andNot k a b
def shlI (k : IntKind) (a b : Int) : Int := k.wrap (a * 2 ^ (min b.toNat k.bits))
def shrI (k : IntKind) (a b : Int) : Int := a.fdiv (2 ^ (min b.toNat k.bits))
def cvI (k : IntKind) (a : Int) : Int := k.wrap a
def notI (k : IntKind) (a : Int) : Int := bits .xor k (if k.signed then -1 else k.max) a
/-- is a length one that a machine may count? (Nat.ble: the kernel does not count the literal down) -/
def fitS (n : Nat) : Bool := Nat.ble n 9223372036854775807
theorem fitS_iff {n : Nat} : fitS n = true ↔ n ≤ 9223372036854775807 := by rw [fitS, Nat.ble_eq]
/-- is a number below 0? By its form: so the kernel stops where a number is not known, and never counts a literal down. -/
def ltM : Int → Bool
  | .ofNat _ => false
  | .negSucc _ => true
def ltI (a b : Int) : Bool := ltM (a - b)
theorem ltI_dec (a b : Int) : ltI a b = decide (a < b) := by
  unfold ltI
  cases h : a - b with
  | ofNat n => have h2 : a - b = (n : Int) := h; exact (decide_eq_false (by omega)).symm
  | negSucc n => have h2 : a - b = -((n : Int) + 1) := by rw [h, Int.negSucc_eq]
                 exact (decide_eq_true (by omega)).symm
def leI (a b : Int) : Bool := decide (a ≤ b)
def eqI (a b : Int) : Bool := a == b
def maxI (a b : Int) : Int := if b > a then b else a
def minI (a b : Int) : Int := if b < a then b else a
def isNoneI : Option Int → Bool
  | Option.none => true
  | some _ => false
def eqB (a b : Bool) : Bool := a == b
def eqL (a b : List Int) : Bool := a == b
def eqS (a b : ByteArray) : Bool := a.toList == b.toList
def ikEq : IntKind → IntKind → Bool
  | .i8, .i8 | .i16, .i16 | .i32, .i32 | .i64, .i64 | .u8, .u8 | .u16, .u16 | .u32, .u32 | .u64, .u64 => true
  | _, _ => false
theorem ikEq_iff {a b : IntKind} : ikEq a b = true ↔ a = b := by cases a <;> cases b <;> simp [ikEq]

/-- values as the evaluator has them -/
inductive AV where
  | none
  | v (x : Value)
  | er (t : TypeId) (e : Option Int)
  | arr (k : IntKind) (n : Nat) (x : Vec n)
  | li (k : IntKind) (xs : List Int)
  | agg (ps : List AV)
  | sta (ps : List AV)
  | tup (ps : List AV)
  | ptr (b off : Nat)
  | pidx (b n : Nat) (i : Int)
  | lidx (k : IntKind) (xs : List Int) (i : Int)
  | bor (b lo hi : Nat)
  | own (b : Nat)
  | ridx (b : Nat) (i : Int)

def errV (t : TypeId) : Option Int → Value
  | Option.none => .nilIface
  | some c => .iface t (.int .i64 c)

/-- what lies in memory that the call made itself -/
inductive OB where
  | arr (k : IntKind) (n : Nat) (x : Vec n)
  | agg (ps : List AV)
  | row (k : IntKind) (e : TypeId) (xs : List Int)
  | dead
  | it (s : ByteArray) (p : Nat)
  | sta (ps : List AV)

/-- a part of a struct that may have arrays -/
inductive FD where
  | one (z : Value)
  | arr (k : IntKind) (n : Nat)
/-- a type, as far as the evaluator must know it -/
inductive TD where
  | int (k : IntKind)
  | bool
  | str
  | arr (k : IntKind) (n : Nat)
  | st (zs : List Value)
  | sta (fs : List FD)
  | sl (k : IntKind) (e : TypeId)
  | one (z : Value)
  | err
  | other

/-- what the evaluator knows of the program: types; for a slot that is an address, the block it leads to; the calls and cuts behind which the rows handed to them are let go; the callees that write into their first argument -/
structure Tb : Type 1 where
  ty : TypeId → TD
  rt : List (Nat × Nat)
  kl : List Nat
  wr : Nat → Option (∀ R : Type, TypeId → List AV → (List Int → AV → Option R) → Option R)
instance : CoeFun Tb fun _ => TypeId → TD := ⟨Tb.ty⟩
def lookB : List (Nat × Nat) → Nat → Nat
  | [], s => s
  | (i, b) :: r, s => cond (Nat.beq i s) b (lookB r s)
def rootOK (rt : List (Nat × Nat)) (x : Operand) (b : Nat) : Bool :=
  match x with
  | .tmp s => Nat.beq (lookB rt s) b
  | _ => false

structure St where
  slots : List AV
  heap : List (Option OB)

def getS : List AV → Nat → AV
  | [], _ => .none
  | x :: _, 0 => x
  | _ :: r, n + 1 => getS r n
def setS : List AV → Nat → AV → List AV
  | [], _, _ => []
  | _ :: r, 0, y => y :: r
  | x :: r, n + 1, y => x :: setS r n y
def getH : List (Option OB) → Nat → Option OB
  | [], _ => Option.none
  | x :: _, 0 => x
  | _ :: r, n + 1 => getH r n
def setH : List (Option OB) → Nat → Option OB → List (Option OB)
  | [], _, _ => []
  | _ :: r, 0, y => y :: r
  | x :: r, n + 1, y => x :: setH r n y

def St.ev (st : St) : Operand → AV
  | .tmp t => getS st.slots t
  | .const c => .v c
  | .func f => .v (.func (.func f) #[] #[])
  | .global _ => .none
def St.put (st : St) (d : Option Tmp) (x : AV) : St :=
  match d with
  | Option.none => st
  | some t => ⟨setS st.slots t x, st.heap⟩

/-- what an operation does: it answers; it makes a block and answers where; it writes a block -/
inductive Out where
  | val (x : AV)
  | mk (ob : OB)
  | store (b : Nat) (ob : OB)
  | row (ks : List Nat) (k : IntKind) (e : TypeId) (xs : List Int)
  | kval (ks : List Nat) (x : AV)
  | upd (b : Nat) (ob : OB) (x : AV)

def killH (h : List (Option OB)) : List Nat → List (Option OB)
  | [] => h
  | b :: r => killH (setH h b (some .dead)) r
def apply (o : Oper) (st : St) : Out → St
  | .val x => st.put o.dst x
  | .mk ob => match o.dst with
    | some d => ⟨setS st.slots d (.ptr d 0), setH st.heap d (some ob)⟩
    | Option.none => st
  | .store b ob => ⟨st.slots, setH st.heap b (some ob)⟩
  | .row ks k e xs => match o.dst with
    | some d => ⟨setS st.slots d (.own d), setH (killH st.heap ks) d (some (.row k e xs))⟩
    | Option.none => st
  | .kval ks x => ⟨(st.put o.dst x).slots, killH st.heap ks⟩
  | .upd b ob x => ⟨(st.put o.dst x).slots, setH st.heap b (some ob)⟩

variable {R : Type}

/-- one cell -/
def leaf : AV → Bool
  | .v (.int _ _) | .v (.bool _) | .v (.string _) | .v (.slice _ _ _) | .v .nilIface | .er _ _ | .li _ _ => true
  | _ => false
def allLeaf : List AV → Bool
  | [] => true
  | x :: r => leaf x && allLeaf r
/-- a type whose variables are one cell: its nought -/
def scal : TD → Option Value
  | .int k => some (.int k 0)
  | .bool => some (.bool false)
  | .str => some (.string ⟨#[]⟩)
  | .sl _ _ => some (.slice Option.none 0 0)
  | .one z => some z
  | .err => some .nilIface
  | _ => Option.none

/-- structs of numbers and truths alone; two of them are the same, part by part -/
def cmpZs : List Value → Bool
  | [] => true
  | .int _ _ :: r => cmpZs r
  | .bool _ :: r => cmpZs r
  | _ => false
def eqPz : List Value → List AV → List AV → Option Bool
  | [], [], [] => some true
  | .int _ _ :: zs, .v (.int k a) :: r, .v (.int k' b) :: s => cond (ikEq k k') (match eqPz zs r s with | some t => some (eqI a b && t) | Option.none => Option.none) Option.none
  | .bool _ :: zs, .v (.bool a) :: r, .v (.bool b) :: s => match eqPz zs r s with | some t => some (eqB a b && t) | Option.none => Option.none
  | _, _, _ => Option.none

def ibop (op : BinOp) (k : IntKind) (a b : Int) (K : AV → Option R) : Option R :=
  match op with
  | .add => K (.v (.int k (addI k a b)))
  | .sub => K (.v (.int k (subI k a b)))
  | .mul => K (.v (.int k (mulI k a b)))
  | .quo => cond (eqI b 0) Option.none (K (.v (.int k (quoI k a b))))
  | .rem => cond (eqI b 0) Option.none (K (.v (.int k (remI k a b))))
  | .and => K (.v (.int k (andI k a b)))
  | .or => K (.v (.int k (orI k a b)))
  | .xor => K (.v (.int k (xorI k a b)))
  | .andNot => K (.v (.int k (bicI k a b)))
  | .eql => K (.v (.bool (eqI a b)))
  | .neq => K (.v (.bool (!(eqI a b))))
  | .lss => K (.v (.bool (ltI a b)))
  | .leq => K (.v (.bool (leI a b)))
  | .gtr => K (.v (.bool (ltI b a)))
  | .geq => K (.v (.bool (leI b a)))
  | _ => Option.none

def bop (T : Tb) (op : BinOp) (xt : TypeId) (x y : AV) (K : AV → Option R) : Option R :=
  match x, y with
  | .v (.int k a), .v (.int k' b) =>
    match op with
    | .shl => cond (ltI b 0) Option.none (K (.v (.int k (shlI k a b))))
    | .shr => cond (ltI b 0) Option.none (K (.v (.int k (shrI k a b))))
    | op => cond (ikEq k k') (ibop op k a b K) Option.none
  | .v (.bool a), .v (.bool b) =>
    match T xt with
    | .bool => match op with
      | .eql => K (.v (.bool (eqB a b)))
      | .neq => K (.v (.bool (!(eqB a b))))
      | _ => Option.none
    | _ => Option.none
  | .v (.string a), .v (.string b) =>
    match op with
    | .eql => K (.v (.bool (eqS a b)))
    | .neq => K (.v (.bool (!(eqS a b))))
    | .add => cond (fitS (a.size + b.size)) (K (.v (.string (a ++ b)))) Option.none
    | _ => Option.none
  | .arr k n a, .arr k' n' b =>
    match T xt with
    | .arr k2 n2 => cond (ikEq k k2 && ikEq k' k2 && Nat.beq n n2 && Nat.beq n' n2) (match op with
      | .eql => K (.v (.bool (eqL a.1 b.1)))
      | .neq => K (.v (.bool (!(eqL a.1 b.1))))
      | _ => Option.none) Option.none
    | _ => Option.none
  | .agg ps, .agg qs =>
    match T xt with
    | .st zs => cond (cmpZs zs) (match eqPz zs ps qs, op with
      | some b, .eql => K (.v (.bool b))
      | some b, .neq => K (.v (.bool (!b)))
      | _, _ => Option.none) Option.none
    | _ => Option.none
  | _, _ => Option.none

/-- an error, held against nil -/
def errNil : TD → Operand → Bool
  | .err, .const .nilIface => true
  | _, _ => false
def ebop (op : BinOp) (x : AV) (K : AV → Option R) : Option R :=
  match x with
  | .er _ e => match op with
    | .eql => K (.v (.bool (isNoneI e)))
    | .neq => K (.v (.bool (!(isNoneI e))))
    | _ => Option.none
  | .v .nilIface => match op with
    | .eql => K (.v (.bool true))
    | .neq => K (.v (.bool false))
    | _ => Option.none
  | _ => Option.none

/-! structs that may have arrays: their parts, cell by cell -/
def FD.w : FD → Nat
  | .one _ => 1
  | .arr _ n => n
def FD.z : FD → AV
  | .one z => .v z
  | .arr k n => .arr k n (Vec.zero n)
def partW : AV → Nat
  | .arr _ n _ => n
  | _ => 1
def partOK : FD → AV → Bool
  | .one _, x => leaf x
  | .arr k n, .arr k' n' _ => ikEq k k' && Nat.beq n n'
  | _, _ => false
def partsOK : List FD → List AV → Bool
  | [], [] => true
  | f :: fs, p :: ps => partOK f p && partsOK fs ps
  | _, _ => false
def offAt : List FD → Nat → Nat
  | [], _ => 0
  | _ :: _, 0 => 0
  | f :: fs, n + 1 => f.w + offAt fs n
/-- the part that begins at a cell -/
def atOff : List AV → Nat → Option AV
  | [], _ => Option.none
  | p :: _, 0 => some p
  | p :: r, off + 1 => cond (Nat.ble (partW p) (off + 1)) (atOff r (off + 1 - partW p)) Option.none
def setOff : List AV → Nat → AV → Option (List AV)
  | [], _, _ => Option.none
  | _ :: r, 0, x => some (x :: r)
  | p :: r, off + 1, x => cond (Nat.ble (partW p) (off + 1)) (match setOff r (off + 1 - partW p) x with
    | some r' => some (p :: r')
    | Option.none => Option.none) Option.none
def getFD : List FD → Nat → Option FD
  | [], _ => Option.none
  | f :: _, 0 => some f
  | _ :: r, n + 1 => getFD r n
def fillSta (fs : List FD) (ρ : Operand → AV) : List (Nat × Operand) → List AV → Option (List AV)
  | [], zs => some zs
  | (i, x) :: r, zs => match getFD fs i with
    | some f => cond (partOK f (ρ x)) (fillSta fs ρ r (setS zs i (ρ x))) Option.none
    | Option.none => Option.none
/-- the value of a variable of a type, of one block -/
def whole (t : TD) (ob : OB) (off : Nat) : Option AV :=
  match t, ob with
  | .arr k n, .arr k' n' x => cond (ikEq k k') (cond (Nat.beq n n' && Nat.beq off 0) (some (.arr k' n' x)) (if h : off + n ≤ n' then some (.arr k n (x.sub off n h)) else Option.none)) Option.none
  | .st zs, .agg ps => cond (Nat.beq off 0 && Nat.beq zs.length ps.length) (some (.agg ps)) Option.none
  | .sta fs, .sta ps => cond (Nat.beq off 0 && partsOK fs ps) (some (.sta ps)) Option.none
  | .arr k n, .sta ps => match atOff ps off with
    | some (.arr k' n' x) => cond (ikEq k k' && Nat.beq n n') (some (.arr k' n' x)) Option.none
    | _ => Option.none
  | t, .agg ps => match scal t with
    | some _ => cond (Nat.blt off ps.length) (some (getS ps off)) Option.none
    | Option.none => Option.none
  | t, .sta ps => match scal t, atOff ps off with
    | some _, some x => cond (leaf x) (some x) Option.none
    | _, _ => Option.none
  | _, _ => Option.none
/-- a block that holds a value of a type -/
def blockOf (t : TD) (x : AV) : Option OB :=
  match t, x with
  | .arr k n, .arr k' n' y => cond (ikEq k k' && Nat.beq n n') (some (.arr k' n' y)) Option.none
  | .st zs, .agg ps => cond (Nat.beq zs.length ps.length) (some (.agg ps)) Option.none
  | .sta fs, .sta ps => cond (partsOK fs ps) (some (.sta ps)) Option.none
  | t, x => match scal t with
    | some _ => cond (leaf x) (some (.agg [x])) Option.none
    | Option.none => Option.none
def zeroOf : TD → Option OB
  | .arr k n => some (.arr k n (Vec.zero n))
  | .st zs => some (.agg (zs.map .v))
  | .sta fs => some (.sta (fs.map FD.z))
  | t => match scal t with
    | some z => some (.agg [.v z])
    | Option.none => Option.none
/-- a block with a value of a type written at a place -/
def writO (t : TD) (ob : OB) (off : Nat) (x : AV) : Option OB :=
  match t, ob, x with
  | .arr k n, .arr k' n' _, .arr k2 n2 y => cond (Nat.beq off 0 && ikEq k k' && Nat.beq n n' && ikEq k k2 && Nat.beq n n2) (some (.arr k2 n2 y)) Option.none
  | .st zs, .agg ps, .agg qs => cond (Nat.beq off 0 && Nat.beq ps.length qs.length && Nat.beq zs.length ps.length && allLeaf qs) (some (.agg qs)) Option.none
  | t, .agg ps, x => match scal t with
    | some _ => cond (Nat.blt off ps.length && leaf x) (some (.agg (setS ps off x))) Option.none
    | Option.none => Option.none
  | _, _, _ => Option.none
def writ1 (t : TD) (ps : List AV) (off : Nat) (x : AV) : Option OB :=
  match scal t, atOff ps off, setOff ps off x with
  | some _, some p, some qs => cond (leaf p && leaf x) (some (.sta qs)) Option.none
  | _, _, _ => Option.none
def writS (t : TD) (ps : List AV) (off : Nat) (x : AV) : Option OB :=
  match t with
  | .sta fs => match x with
    | .sta qs => cond (Nat.beq off 0 && partsOK fs ps && partsOK fs qs) (some (.sta qs)) Option.none
    | _ => Option.none
  | .arr k n => match x with
    | .arr k2 n2 y => match atOff ps off, setOff ps off (.arr k2 n2 y) with
      | some (.arr k' n' _), some qs => cond (ikEq k k' && Nat.beq n n' && ikEq k k2 && Nat.beq n n2) (some (.sta qs)) Option.none
      | _, _ => Option.none
    | _ => Option.none
  | t => writ1 t ps off x
def writ (t : TD) (ob : OB) (off : Nat) (x : AV) : Option OB :=
  match ob with
  | .sta ps => writS t ps off x
  | ob => writO t ob off x
/-- parts of a struct that is built -/
def fillPs (ρ : Operand → AV) : List (Nat × Operand) → List AV → Option (List AV)
  | [], zs => some zs
  | (i, x) :: r, zs => cond (leaf (ρ x) && Nat.blt i zs.length) (fillPs ρ r (setS zs i (ρ x))) Option.none
def fillVec (k : IntKind) (ρ : Operand → AV) : List (Nat × Operand) → {n : Nat} → Vec n → Option (Vec n)
  | [], _, z => some z
  | (i, x) :: r, n, z => match ρ x with
    | .v (.int k' a) => cond (ikEq k k' && Nat.blt i n) (fillVec k ρ r (z.st i a)) Option.none
    | _ => Option.none

/-- a bound of a cut: none there, or a number -/
def bnd (ρ : Operand → AV) : Option Operand → Option (Option Int)
  | Option.none => some Option.none
  | some x => match ρ x with
    | .v (.int _ j) => some (some j)
    | _ => Option.none
/-- an argument as the callee sees it -/
def argOf (h : List (Option OB)) : AV → AV
  | .bor b lo hi => match getH h b with
    | some (.arr k n x) => cond (Nat.ble lo hi && Nat.ble hi n) (.li k (x.cut lo hi)) .none
    | _ => .none
  | .own b => match getH h b with
    | some (.row k _ xs) => .li k xs
    | _ => .none
  | .ptr _ _ | .pidx _ _ _ | .lidx _ _ _ | .ridx _ _ | .tup _ => .none
  | x => x
def isBor : AV → Bool
  | .bor _ _ _ | .own _ => true
  | _ => false
def isCut : AV → Bool
  | .bor _ _ _ => true
  | _ => false
def anyCut : List AV → Bool
  | [] => false
  | x :: r => isCut x || anyCut r
/-- the rows among some values -/
def ownsOf : List AV → List Nat
  | [] => []
  | .own b :: r => b :: ownsOf r
  | _ :: r => ownsOf r
/-- the numbers of a slice that is read -/
def liOf (h : List (Option OB)) (k : IntKind) : AV → Option (List Int)
  | .li k' xs => cond (ikEq k k') (some xs) Option.none
  | .own b => match getH h b with
    | some (.row k' _ xs) => cond (ikEq k k') (some xs) Option.none
    | _ => Option.none
  | .v (.slice Option.none 0 0) => some []
  | _ => Option.none
/-- bytes as a string -/
def bstr (xs : List Int) : ByteArray := xs.foldl (fun r n => r.push (UInt8.ofNat n.toNat)) ByteArray.empty
/-- a string's bytes -/
def bytesS (b : ByteArray) : List Int := b.data.toList.map fun u => (u.toNat : Int)
/-- the bytes of a slice that is read -/
def bytesOf (h : List (Option OB)) : AV → Option (List Int)
  | .bor b lo hi => match getH h b with
    | some (.arr k n x) => cond (ikEq k .u8 && (Nat.ble lo hi && Nat.ble hi n)) (some (x.cut lo hi)) Option.none
    | _ => Option.none
  | x => liOf h .u8 x
def bytesK (h : List (Option OB)) (x : AV) (K : List Int → Option R) : Option R :=
  match x with
  | .bor b lo hi => match getH h b with
    | some (.arr k n x) => cond (ikEq k .u8 && (Nat.ble lo hi && Nat.ble hi n)) (K (x.cut lo hi)) Option.none
    | _ => Option.none
  | x => match liOf h .u8 x with
    | some xs => K xs
    | Option.none => Option.none
/-- the slots that lead to rows, where they are read -/
def liRoot (rt : List (Nat × Nat)) (x : Operand) : AV → Bool
  | .own b => rootOK rt x b
  | _ => true
def fillLi (k : IntKind) (ρ : Operand → AV) : List (Nat × Operand) → List Int → Option (List Int)
  | [], z => some z
  | (i, x) :: r, z => match ρ x with
    | .v (.int k' a) => cond (ikEq k k' && Nat.blt i z.length) (fillLi k ρ r (z.set i a)) Option.none
    | _ => Option.none
def sameOp : Operand → Operand → Bool
  | .tmp a, .tmp b => Nat.beq a b
  | _, _ => false
def memN : List Nat → Nat → Bool
  | [], _ => false
  | x :: r, n => cond (Nat.beq x n) true (memN r n)
def killsB (kl : List Nat) : Option Nat → Bool
  | some d => memN kl d
  | Option.none => false
/-- a row of the call's own, and that it is used up -/
def baseOf (h : List (Option OB)) : AV → Option (List Nat × IntKind × TypeId × List Int)
  | .own b => match getH h b with
    | some (.row k e xs) => some ([b], k, e, xs)
    | _ => Option.none
  | _ => Option.none
/-- the row that a slice's operand leads to -/
def rowFor (td : TD) (h : List (Option OB)) (x : AV) : Option (List Nat × IntKind × TypeId × List Int) :=
  match td with
  | .sl _ _ => baseOf h x
  | _ => Option.none
def rowK (k : Bool) (h : List (Option OB)) (x : AV) : Option (List Nat × IntKind × TypeId × List Int) := cond k (baseOf h x) Option.none
/-- a block's place that is free -/
def isFree (h : List (Option OB)) : Option Nat → Bool
  | some d => match getH h d with
    | Option.none => Nat.blt d h.length
    | some _ => false
  | Option.none => false
/-- how long a row may be made -/
def rowMax : Int := 17592186044416
def fitL (n : Nat) : Bool := Nat.ble n 17592186044416
def isNone : AV → Bool
  | .none => true
  | _ => false
def anyBor : List AV → Bool
  | [] => false
  | x :: r => isBor x || anyBor r
def anyNone : List AV → Bool
  | [] => false
  | x :: r => isNone x || anyNone r
/-- no row of numbers in it -/
def noLi : AV → Bool
  | .v _ | .er _ _ | .arr _ _ _ => true
  | .agg ps => ps.all fun | .v _ | .er _ _ => true | _ => false
  | .tup ps => ps.all fun | .v _ | .er _ _ | .arr _ _ _ => true | _ => false
  | _ => false
/-- may be told by a callee -/
def told : AV → Bool
  | .v _ | .er _ _ | .arr _ _ _ | .li _ _ | .agg _ | .sta _ | .tup _ => true
  | _ => false

/-- what a kept slot leads to -/
def refOf : AV → Option Nat
  | .ptr b _ | .pidx b _ _ | .bor b _ _ | .own b | .ridx b _ => some b
  | _ => Option.none
def noRef (x : AV) : Bool :=
  match refOf x with
  | Option.none => true
  | some _ => false
/-- a callee that writes into its first argument, a row -/
def wrK (F : (∀ R : Type, TypeId → List AV → (List Int → AV → Option R) → Option R)) (h : List (Option OB)) (xs : List AV) (K : Out → Option R) : Option R :=
  match xs with
  | .own b :: rest => match getH h b with
    | some (.row k e xs) => cond (anyBor rest || anyNone (rest.map (argOf h))) Option.none (F R e (.li k xs :: rest.map (argOf h)) fun ys r => cond (told r && noLi r) (K (.upd b (.row k e ys) r)) Option.none)
    | _ => Option.none
  | _ => Option.none
/-- a row, and other numbers laid over it -/
def cpL (xs ys : List Int) : List Int := ys.take xs.length ++ xs.drop ys.length

/-- one operation: what it does, and then K -/
def res (T : Tb) (G : FuncId → List AV → (AV → Option R) → Option R) (o : Oper) (ρ : Operand → AV) (h : List (Option OB)) (K : Out → Option R) : Option R :=
  match o.op with
  | .move x | .assign x => K (.val (ρ x))
  | .pick c a b => match ρ c with
    | .v (.bool t) => cond t (K (.val (ρ a))) (K (.val (ρ b)))
    | _ => Option.none
  | .alloc t => match o.dst with
    | some d => match getH h d with
      | Option.none => match zeroOf (T t) with
        | some ob => cond (Nat.blt d h.length) (K (.mk ob)) Option.none
        | Option.none => Option.none
      | some _ => Option.none
    | Option.none => Option.none
  | .box t x => match o.dst with
    | some d => match getH h d with
      | Option.none => match blockOf (T t) (ρ x) with
        | some ob => cond (Nat.blt d h.length) (K (.mk ob)) Option.none
        | Option.none => Option.none
      | some _ => Option.none
    | Option.none => Option.none
  | .build t ps => match T t with
    | .arr k n => match fillVec k ρ ps.toList (Vec.zero n) with
      | some y => K (.val (.arr k n y))
      | Option.none => Option.none
    | .sta fs => match fillSta fs ρ ps.toList (fs.map FD.z) with
      | some y => K (.val (.sta y))
      | Option.none => Option.none
    | .st zs => match fillPs ρ ps.toList (zs.map .v) with
      | some y => K (.val (.agg y))
      | Option.none => Option.none
    | _ => Option.none
  | .load t x => match ρ x with
    | .ptr b off => match getH h b with
      | some ob => match whole (T t) ob off with
        | some y => cond (noRef y && rootOK T.rt x b) (K (.val y)) Option.none
        | Option.none => Option.none
      | Option.none => Option.none
    | .pidx b m i => match T t, getH h b with
      | .int _, some (.arr k n y) => cond (Nat.ble m n && rootOK T.rt x b) (K (.val (.v (.int k (y.rd i))))) Option.none
      | _, _ => Option.none
    | .lidx k xs i => match T t with
      | .int _ => K (.val (.v (.int k (lrd xs i))))
      | _ => Option.none
    | .ridx b i => match T t, getH h b with
      | .int _, some (.row k _ xs) => cond (rootOK T.rt x b) (K (.val (.v (.int k (lrd xs i))))) Option.none
      | _, _ => Option.none
    | _ => Option.none
  | .store t x y => match o.dst with
    | some _ => Option.none
    | Option.none => match ρ x with
      | .ptr b off => match getH h b with
        | some ob => match writ (T t) ob off (ρ y) with
          | some ob' => cond (noRef (ρ y) && rootOK T.rt x b) (K (.store b ob')) Option.none
          | Option.none => Option.none
        | Option.none => Option.none
      | .pidx b m i => match T t, getH h b, ρ y with
        | .int _, some (.arr k n z), .v (.int k' a) => cond (ikEq k k' && Nat.ble m n && rootOK T.rt x b) (K (.store b (.arr k n (z.st i a)))) Option.none
        | _, _, _ => Option.none
      | .ridx b i => match T t, getH h b, ρ y with
        | .int _, some (.row k e xs), .v (.int k' a) => cond (ikEq k k' && rootOK T.rt x b) (K (.store b (.row k e (xs.set i.toNat a)))) Option.none
        | _, _, _ => Option.none
      | _ => Option.none
  | .buildSlice t n ps => match o.dst with
    | some d => match getH h d, T t with
      | Option.none, .sl k e => match fillLi k ρ ps.toList (List.replicate n 0) with
        | some xs => cond (Nat.blt d h.length && Nat.ble n 16777216) (K (.row [] k e xs)) Option.none
        | Option.none => Option.none
      | _, _ => Option.none
    | Option.none => Option.none
  | .makeSlice t l c => match o.dst with
    | some d => match getH h d, T t, ρ l with
      | Option.none, .sl k e, .v (.int _ n) => cond (Nat.blt d h.length && sameOp l c) (cond (leI 0 n) (cond (leI n rowMax) (K (.row [] k e (List.replicate n.toNat 0))) Option.none) Option.none) Option.none
      | _, _, _ => Option.none
    | Option.none => Option.none
  | .binOp op xt x y _ => cond (errNil (T xt) y) (ebop op (ρ x) fun r => K (.val r)) (bop T op xt (ρ x) (ρ y) fun r => K (.val r))
  | .unOp op _ x => match op, ρ x with
    | .neg, .v (.int k a) => K (.val (.v (.int k (subI k 0 a))))
    | .not, .v (.bool a) => K (.val (.v (.bool (!a))))
    | .xor, .v (.int k a) => K (.val (.v (.int k (notI k a))))
    | _, _ => Option.none
  | .convert s d x => match T d, T s with
    | .str, .sl k _ => cond (ikEq k .u8) (bytesK h (ρ x) fun xs => K (.val (.v (.string (bstr xs))))) Option.none
    | .sl k _, .str => match ρ x with
      | .v (.string b) => cond (ikEq k .u8) (K (.val (.li k (bytesS b)))) Option.none
      | _ => Option.none
    | _, _ => match T d, scal (T s), ρ x with
      | .int k, some _, .v (.int _ a) => K (.val (.v (.int k (cvI k a))))
      | _, _, _ => Option.none
  | .field t x f => match T t, ρ x with
    | .sta fs, .sta ps => cond (Nat.blt f fs.length && partsOK fs ps && noRef (getS ps f)) (K (.val (getS ps f))) Option.none
    | .st zs, .agg ps => cond (Nat.blt f zs.length && Nat.beq zs.length ps.length && noRef (getS ps f)) (K (.val (getS ps f))) Option.none
    | _, _ => Option.none
  | .fieldAddr t x f => match T t, ρ x with
    | .sta fs, .ptr b 0 => cond (Nat.blt f fs.length) (K (.val (.ptr b (offAt fs f)))) Option.none
    | .st zs, .ptr b off => cond (Nat.blt f zs.length) (K (.val (.ptr b (off + f)))) Option.none
    | _, _ => Option.none
  | .indexAddr t x i => match T t, ρ x, ρ i, rowFor (T t) h (ρ x) with
    | .arr _ n, .ptr b 0, .v (.int _ j), _ => cond (leI 0 j) (cond (ltI j n) (K (.val (.pidx b n j))) Option.none) Option.none
    | .sl _ _, .li k xs, .v (.int _ j), _ => cond (leI 0 j) (cond (ltI j xs.length) (K (.val (.lidx k xs j))) Option.none) Option.none
    | .sl _ _, .own b, .v (.int _ j), some (_, _, _, xs) => cond (leI 0 j) (cond (ltI j xs.length) (K (.val (.ridx b j))) Option.none) Option.none
    | _, _, _, _ => Option.none
  | .index t x i => match T t, ρ x, ρ i with
    | .arr _ n, .arr k n' y, .v (.int _ j) => cond (Nat.beq n n') (cond (leI 0 j) (cond (ltI j n) (K (.val (.v (.int k (y.rd j))))) Option.none) Option.none) Option.none
    | .str, .v (.string s), .v (.int _ j) => cond (leI 0 j) (cond (ltI j s.size) (K (.val (.v (.int .u8 (sAt s j))))) Option.none) Option.none
    | _, _, _ => Option.none
  | .slice t x lo hi mx => match T t, ρ x, bnd ρ lo, bnd ρ hi, bnd ρ mx with
    | .arr _ n, .ptr b 0, some l, some h, some Option.none => cond (leI 0 (l.getD 0) && leI (l.getD 0) (h.getD n) && leI (h.getD n) n && ltI (l.getD 0) n) (K (.val (.bor b (l.getD 0).toNat (h.getD n).toNat))) Option.none
    | .str, .v (.string s), some l, some h, some Option.none => cond (leI 0 (l.getD 0) && leI (l.getD 0) (h.getD s.size) && leI (h.getD s.size) s.size) (K (.val (.v (.string (s.extract (l.getD 0).toNat (h.getD s.size).toNat))))) Option.none
    | .sl _ _, .li k xs, some l, some h, some m => cond (leI 0 (l.getD 0) && leI (l.getD 0) (h.getD xs.length) && leI (h.getD xs.length) (m.getD xs.length) && leI (m.getD xs.length) xs.length && (h.isSome || m.isNone)) (K (.val (.li k ((xs.take (h.getD xs.length).toNat).drop (l.getD 0).toNat)))) Option.none
    | .sl _ _, .own b, some Option.none, some (some n), some Option.none => match rowK (killsB T.kl o.dst) h (ρ x) with
      | some (ks, k, e, xs) => cond (isFree h o.dst) (cond (leI 0 n && leI n xs.length) (K (.row ks k e (xs.take n.toNat))) Option.none) Option.none
      | Option.none => Option.none
    | _, _, _, _, _ => Option.none
  | .sliceToArrayPointer t x => match T t, ρ x with
    | .arr _ n, .bor b lo hi => cond (Nat.ble n (hi - lo)) (K (.val (.ptr b lo))) Option.none
    | _, _ => Option.none
  | .range xt x => match o.dst with
    | some d => match getH h d, T xt, ρ x with
      | Option.none, .str, .v (.string s) => cond (Nat.blt d h.length) (K (.mk (.it s 0))) Option.none
      | _, _, _ => Option.none
    | Option.none => Option.none
  | .next x isS => match isS, ρ x with
    | true, .ptr b 0 => match getH h b with
      | some (.it s p) => cond (Nat.blt p s.size) (K (.upd b (.it s (p + (Utf8.decode s p).2)) (.tup [.v (.bool true), .v (.int .i64 (p : Nat)), .v (.int .i32 ((Utf8.decode s p).1 : Nat))]))) (K (.val (.tup [.v (.bool false)])))
      | _ => Option.none
    | _, _ => Option.none
  | .extract x j => match ρ x with
    | .tup ps => cond (Nat.blt j ps.length && noRef (getS ps j)) (K (.val (getS ps j))) Option.none
    | _ => Option.none
  | .makeInterface t x => match T t, ρ x with
    | .int .i64, .v (.int .i64 n) => K (.val (.er t (some n)))
    | _, _ => Option.none
  | .call c => match c.callee with
    | .value (.func f) => match T.wr f with
      | some F => wrK F h (c.args.toList.map ρ) K
      | Option.none => cond (anyNone (c.args.toList.map fun x => argOf h (ρ x))) Option.none
        (G f (c.args.toList.map fun x => argOf h (ρ x)) fun r => cond (killsB T.kl o.dst)
          (cond (told r && !(anyCut (c.args.toList.map ρ))) (K (.kval (ownsOf (c.args.toList.map ρ)) r)) Option.none)
          (cond (told r && (noLi r || !(anyBor (c.args.toList.map ρ)))) (K (.val r)) Option.none))
    | .builtin .append => match c.args.toList, c.argTypes.toList, o.dst with
      | [x, y], [t, t'], some d => match T t, getH h d, baseOf h (ρ x) with
        | .sl k e, Option.none, some (ks, k', e', xs) => match liOf h k (ρ y) with
          | some ys => cond (Nat.beq t t' && ikEq k k' && Nat.beq e e' && Nat.blt d h.length) (cond (fitL (xs.length + ys.length)) (K (.row ks k e (xs ++ ys))) Option.none) Option.none
          | Option.none => Option.none
        | .sl k e, Option.none, Option.none => match ρ x, liOf h k (ρ y) with
          | .v (.slice Option.none 0 0), some ys => cond (Nat.beq t t' && Nat.blt d h.length) (cond (fitL ys.length) (K (.row [] k e ys)) Option.none) Option.none
          | _, _ => Option.none
        | _, _, _ => Option.none
      | _, _, _ => Option.none
    | .builtin .len => match c.args.toList, c.argTypes.toList with
      | [x], [t] => match T t, ρ x, rowFor (T t) h (ρ x) with
        | .sl _ _, .li _ xs, _ => K (.val (.v (.int .i64 xs.length)))
        | .sl _ _, .own b, some (_, _, _, xs) => K (.val (.v (.int .i64 xs.length)))
        | .sl _ _, .v (.slice Option.none 0 0), _ => K (.val (.v (.int .i64 0)))
        | .str, .v (.string s), _ => K (.val (.v (.int .i64 s.size)))
        | _, _, _ => Option.none
      | _, _ => Option.none
    | .builtin .copy => match c.args.toList, c.argTypes.toList with
      | [x, y], [t, t'] => match T t, ρ x, rowFor (T t) h (ρ x) with
        | .sl k e, .own b, some (_, k', e', xs) => match liOf h k (ρ y) with
          | some ys => cond (Nat.beq t t' && ikEq k k' && Nat.beq e e') (K (.upd b (.row k' e' (cpL xs ys)) (.v (.int .i64 (min ys.length xs.length : Nat))))) Option.none
          | Option.none => Option.none
        | _, _, _ => Option.none
      | _, _ => Option.none
    | .builtin .max => match c.args.toList with
      | [x, y] => match ρ x, ρ y with
        | .v (.int k a), .v (.int _ b) => K (.val (.v (.int k (maxI a b))))
        | _, _ => Option.none
      | _ => Option.none
    | .builtin .min => match c.args.toList with
      | [x, y] => match ρ x, ρ y with
        | .v (.int k a), .v (.int _ b) => K (.val (.v (.int k (minI a b))))
        | _, _ => Option.none
      | _ => Option.none
    | _ => Option.none
  | _ => Option.none

/-- is an operation wanted? A guard's answer is known from then on. -/
def guarded (ops : List Oper) (o : Oper) (st : St) (yes no : St → Option R) : Option R :=
  match o.guard with
  | Option.none => yes st
  | some (j, want) => match (ops[j]?).bind (·.dst) with
    | Option.none => Option.none
    | some d => match getS st.slots d with
      | .v (.bool b) => cond b ((cond want yes no) ⟨setS st.slots d (.v (.bool true)), st.heap⟩) ((cond want no yes) ⟨setS st.slots d (.v (.bool false)), st.heap⟩)
      | .tup [] => no st
      | _ => Option.none

def execOps (T : Tb) (G : FuncId → List AV → (AV → Option R) → Option R) (ops : List Oper) : List Oper → St → (St → Option R) → Option R
  | [], st, K => K st
  | o :: r, st, K => guarded ops o st
      (fun st => res T G o st.ev st.heap fun out => execOps T G ops r (apply o st out) K)
      (fun st => execOps T G ops r (st.put o.dst (.tup [])) K)

inductive Ex where
  | normal
  | exit (id : Nat)
  | ret

/-- what a loop's head does with a slot: keeps it; makes its row the slot's own; makes it numbers that are only read; it has the same row as another slot -/
inductive HK where
  | keep
  | row (k : IntKind) (e : TypeId)
  | li (k : IntKind)
  | al (m : Nat)
def lookK : List (Nat × HK) → Nat → Option HK
  | [], _ => Option.none
  | (i, x) :: r, n => cond (Nat.beq i n) (some x) (lookK r n)
def keptB (hs : List (Nat × HK)) (h : List (Option OB)) (b : Nat) : Bool :=
  match lookK hs b, getH h b with
  | some .keep, some (.row _ _ _) => false
  | some .keep, some .dead => false
  | some .keep, some _ => true
  | _, _ => false
def headX (hs : List (Nat × HK)) (slots : List AV) (h : List (Option OB)) (n : Nat) (x : AV) : AV :=
  match lookK hs n with
  | Option.none => .none
  | some .keep => match refOf x with
    | some b => cond (keptB hs h b) x .none
    | Option.none => x
  | some (.row k e) => match x with
    | .own b => match getH h b with
      | some (.row k' e' _) => cond (ikEq k k' && Nat.beq e e') (.own n) .none
      | _ => .none
    | .v (.slice Option.none 0 0) => .own n
    | _ => .none
  | some (.li k) => match x with
    | .own b => match getH h b with
      | some (.row k' _ xs) => cond (ikEq k k') (.li k' xs) .none
      | _ => .none
    | .v (.slice Option.none 0 0) => .li k []
    | .li _ _ => x
    | _ => .none
  | some (.al m) => match x, getS slots m, lookK hs m with
    | .own b, .own b', some (.row k e) => match getH h b with
      | some (.row k' e' _) => cond (Nat.beq b b' && (ikEq k k' && Nat.beq e e')) (.own m) .none
      | _ => .none
    | _, _, _ => .none
def headO (hs : List (Nat × HK)) (slots : List AV) (h : List (Option OB)) (n : Nat) (x : Option OB) : Option OB :=
  match lookK hs n with
  | some .keep => cond (keptB hs h n) x Option.none
  | some (.row k e) => match getS slots n with
    | .own b => match getH h b with
      | some (.row k' e' xs) => cond (ikEq k k' && Nat.beq e e') (some (.row k' e' xs)) Option.none
      | _ => Option.none
    | .v (.slice Option.none 0 0) => some (.row k e [])
    | _ => Option.none
  | _ => Option.none
def headS (hs : List (Nat × HK)) (slots : List AV) (h : List (Option OB)) : Nat → List AV → List AV
  | _, [] => []
  | n, x :: r => headX hs slots h n x :: headS hs slots h (n + 1) r
def headH (hs : List (Nat × HK)) (slots : List AV) (h : List (Option OB)) : Nat → List (Option OB) → List (Option OB)
  | _, [] => []
  | n, x :: r => headO hs slots h n x :: headH hs slots h (n + 1) r
def St.head (hs : List (Nat × HK)) (st : St) : St := ⟨headS hs st.slots st.heap 0 st.slots, headH hs st.slots st.heap 0 st.heap⟩
/-- the rows that a head makes slots' own -/
def headRows (slots : List AV) : List (Nat × HK) → List Nat
  | [] => []
  | (i, .row _ _) :: r => match getS slots i with
    | .own b => b :: headRows slots r
    | _ => headRows slots r
  | _ :: r => headRows slots r
def headLis (slots : List AV) : List (Nat × HK) → List Nat
  | [] => []
  | (i, .li _) :: r => match getS slots i with
    | .own b => b :: headLis slots r
    | _ => headLis slots r
  | _ :: r => headLis slots r
def diffN : List Nat → Bool
  | [] => true
  | x :: r => !(memN r x) && diffN r
def noneIn : List Nat → List Nat → Bool
  | [], _ => true
  | x :: r, l => !(memN l x) && noneIn r l
def headOK (hs : List (Nat × HK)) (st : St) : Bool := Nat.ble st.slots.length st.heap.length && diffN (headRows st.slots hs) && noneIn (headLis st.slots hs) (headRows st.slots hs)

/-- what comes behind: the second of two; the end of a block; the next round -/
def seqK (y : St → (Ex → St → Option R) → Option R) (K : Ex → St → Option R) : Ex → St → Option R
  | .normal, s => y s K
  | .exit id, s => K (.exit id) s
  | .ret, s => K .ret s
def blockK (id : Nat) (K : Ex → St → Option R) : Ex → St → Option R
  | .normal, s => K .normal s
  | .exit j, s => cond (Nat.beq j id) (K .normal s) (K (.exit j) s)
  | .ret, s => K .ret s
def roundK (next : St → Option R) (live : List (Nat × HK)) (K : Ex → St → Option R) : Ex → St → Option R
  | .normal, s => cond (headOK live s) (next (s.head live)) Option.none
  | .exit id, s => K (.exit id) s
  | .ret, s => K .ret s

def loopN (live : List (Nat × HK)) (body : St → (Ex → St → Option R) → Option R) : Nat → St → (Ex → St → Option R) → Option R
  | 0, _, _ => Option.none
  | n + 1, st, K => body st (roundK (fun s => loopN live body n s K) live K)

/-- which slots a loop's head keeps: by the number of the first region in its body -/
def firstR : Code → Nat
  | .region id _ _ => id
  | .seq x _ => firstR x
  | .cond _ x _ => firstR x
  | .block _ x => firstR x
  | .loop x => firstR x
  | _ => 0
def lookN : List (Nat × List (Nat × HK)) → Nat → List (Nat × HK)
  | [], _ => []
  | (i, l) :: r, n => cond (Nat.beq i n) l (lookN r n)
def liveOf (live : List (Nat × List (Nat × HK))) (c : Code) : List (Nat × HK) := lookN live (firstR c)

def exec (T : Tb) (G : FuncId → List AV → (AV → Option R) → Option R) (N : Nat) (live : List (Nat × List (Nat × HK))) : Code → St → (Ex → St → Option R) → Option R
  | .skip, st, K => K .normal st
  | .region _ ops _, st, K => execOps T G ops.toList ops.toList st (K .normal)
  | .seq x y, st, K => exec T G N live x st (seqK (exec T G N live y) K)
  | .cond c x y, st, K => match st.ev c with
    | .v (.bool b) => cond b (exec T G N live x st K) (exec T G N live y st K)
    | _ => Option.none
  | .block id c, st, K => exec T G N live c st (blockK id K)
  | .loop c, st, K => cond (headOK (liveOf live c) st) (loopN (liveOf live c) (exec T G N live c) N (st.head (liveOf live c)) K) Option.none
  | .exit id, st, K => K (.exit id) st
  | .ret, st, K => K .ret st
  | .label _, st, K => K .normal st
  | _, _, _ => Option.none

/-- parts of code -/
def cL : Code → Code
  | .seq x _ => x
  | .cond _ x _ => x
  | .block _ x => x
  | .loop x => x
  | c => c
def cR : Code → Code
  | .seq _ y => y
  | .cond _ _ y => y
  | c => c

/-- the results, read at the end -/
def resOne (T : Tb) (st : St) : ResultVar → Option AV
  | .tmp t => match getS st.slots t with
    | .own b => match getH st.heap b with
      | some (.row k _ xs) => some (.li k xs)
      | _ => Option.none
    | x => some x
  | .cell p t => match getS st.slots p with
    | .ptr b off => match getH st.heap b with
      | some ob => whole (T t) ob off
      | Option.none => Option.none
    | _ => Option.none
def resAll (T : Tb) (st : St) : List ResultVar → Option (List AV)
  | [] => some []
  | r :: rs => match resOne T st r, resAll T st rs with
    | some x, some xs => some (x :: xs)
    | _, _ => Option.none
/-- may be told as one result -/
def cellC : AV → Bool
  | .v _ | .er _ _ | .arr _ _ _ | .li _ _ | .agg _ | .sta _ => true
  | _ => false
def allC : List AV → Bool
  | [] => true
  | x :: r => cellC x && allC r
def finish (T : Tb) (rs : List ResultVar) (K : AV → Option R) (st : St) : Option R :=
  match resAll T st rs with
  | some [x] => cond (cellC x) (K x) Option.none
  | some xs => cond (allC xs) (K (.tup xs)) Option.none
  | Option.none => Option.none
def retK (T : Tb) (rs : List ResultVar) (K : AV → Option R) : Ex → St → Option R
  | .normal, st | .ret, st => finish T rs K st
  | _, _ => Option.none

def noneS : Nat → List AV
  | 0 => []
  | n + 1 => .none :: noneS n
def noneH : Nat → List (Option OB)
  | 0 => []
  | n + 1 => Option.none :: noneH n
/-- a whole function -/
def run (T : Tb) (G : FuncId → List AV → (AV → Option R) → Option R) (N : Nat) (live : List (Nat × List (Nat × HK))) (code : Code) (rs : List ResultVar) (ntmps : Nat) (args : List AV) (K : AV → Option R) : Option R :=
  exec T G N live code ⟨args ++ noneS (ntmps - args.length), noneH ntmps⟩ (retK T rs K)
/-- a function that writes into its first argument, a row -/
def finishW (T : Tb) (rs : List ResultVar) (k : IntKind) (e : TypeId) (n : Nat) (K : List Int → AV → Option R) (st : St) : Option R :=
  match getS st.slots 0 with
  | .own b => match getH st.heap b with
    | some (.row k' e' ys) => cond (ikEq k k' && Nat.beq e e' && Nat.beq ys.length n) (finish T rs (fun r => cond (noLi r) (K ys r) Option.none) st) Option.none
    | _ => Option.none
  | _ => Option.none
def retKW (T : Tb) (rs : List ResultVar) (k : IntKind) (e : TypeId) (n : Nat) (K : List Int → AV → Option R) : Ex → St → Option R
  | .normal, st | .ret, st => finishW T rs k e n K st
  | _, _ => Option.none
def runW (T : Tb) (G : FuncId → List AV → (AV → Option R) → Option R) (N : Nat) (live : List (Nat × List (Nat × HK))) (code : Code) (rs : List ResultVar) (ntmps : Nat) (k : IntKind) (e : TypeId) (xs : List Int) (args : List AV) (K : List Int → AV → Option R) : Option R :=
  exec T G N live code ⟨.own 0 :: (args ++ noneS (ntmps - (args.length + 1))), some (.row k e xs) :: noneH (ntmps - 1)⟩ (retKW T rs k e xs.length K)
end Go.Proofs.YtcdhcihjcjpmkaaGreatDoor.Eng
