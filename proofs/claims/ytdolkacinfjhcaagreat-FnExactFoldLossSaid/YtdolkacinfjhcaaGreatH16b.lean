/- Framework H, part 16b: how the walk is computed: names for what is left standing (never opened by the computation), and the rules in these names. -/
import Derived.Test.YtdolkacinfjhcaaGreatH16
set_option linter.unusedSimpArgs false
set_option linter.unusedVariables false
set_option linter.constructorNameAsVariable false
namespace Go.H
open Go.RowKit
def wAdd (k : IntKind) (x y : Int) : Int := k.wrap (x + y)
def wSub (k : IntKind) (x y : Int) : Int := k.wrap (x - y)
def wMul (k : IntKind) (x y : Int) : Int := k.wrap (x * y)
def wQuo (k : IntKind) (x y : Int) : Int := k.wrap (x.tdiv y)
def wRem (x y : Int) : Int := x.tmod y
def wAnd (k : IntKind) (x y : Int) : Int := wrapB k (BitVec.ofInt k.bits x &&& BitVec.ofInt k.bits y)
def wOr (k : IntKind) (x y : Int) : Int := wrapB k (BitVec.ofInt k.bits x ||| BitVec.ofInt k.bits y)
def wXor (k : IntKind) (x y : Int) : Int := wrapB k (BitVec.ofInt k.bits x ^^^ BitVec.ofInt k.bits y)
def wAndNot (k : IntKind) (x y : Int) : Int := wrapB k (BitVec.ofInt k.bits x &&& ~~~(BitVec.ofInt k.bits y))
def wShl (k : IntKind) (x y : Int) : Int := k.wrap (x * 2 ^ min y.toNat k.bits)
def wShr (k : IntKind) (x y : Int) : Int := x.fdiv (2 ^ min y.toNat k.bits)
def wNeg (k : IntKind) (x : Int) : Int := k.wrap (0 - x)
def wNot (k : IntKind) (x : Int) : Int := wrapB k (BitVec.ofInt k.bits (if k.signed then -1 else k.max) ^^^ BitVec.ofInt k.bits x)
def wConv (k : IntKind) (x : Int) : Int := k.wrap x
def iEq (x y : Int) : Bool := decide (x = y)
def iLt (x y : Int) : Bool := decide (x < y)
def iLe (x y : Int) : Bool := decide (x ≤ y)
def iMax (x y : Int) : Int := if y > x then y else x
def iMin (x y : Int) : Int := if y < x then y else x
def bEq (x y : Bool) : Bool := x == y
def bNot (x : Bool) : Bool := !x
def bAnd (x y : Bool) : Bool := x && y
def sEq (x y : ByteArray) : Bool := x.toList == y.toList
def sLt (x y : ByteArray) : Bool := Op.bytesLess x.toList y.toList
def sApp (x y : ByteArray) : ByteArray := x ++ y
def sCut (s : ByteArray) (l h : Nat) : ByteArray := s.extract l h
def sLen (s : ByteArray) : Int := s.size
def dLen (es : List (List D)) : Nat := es.length
def dCut (es : List (List D)) (l h : Nat) : List (List D) := (es.take h).drop l
def dApp (es fs : List (List D)) : List (List D) := es ++ fs
def dSet (es : List (List D)) (i : Nat) (c : List D) : List (List D) := es.set i c
def dRep (n : Int) (c : List D) : List (List D) := List.replicate n.toNat c
def nOf (x : Int) : Nat := x.toNat
def nInt (x : Nat) : Int := x
def nAdd (x y : Nat) : Nat := x + y
def nSub (x y : Nat) : Nat := x - y
def InB (n : Int) (m : Nat) : Prop := 0 ≤ n ∧ n < m
def InS (l h : Int) (m : Nat) : Prop := 0 ≤ l ∧ l ≤ h ∧ h ≤ m
def NZ (y : Int) : Prop := y ≠ 0
def NN (y : Int) : Prop := 0 ≤ y
def Fits (m n : Nat) : Prop := m + n ≤ 4000000000
def FitsS (x y : ByteArray) : Prop := x.size + y.size ≤ 9223372036854775807
def FitsM (l c : Int) : Prop := 0 ≤ l ∧ l ≤ c ∧ c ≤ 4000000000
def dOver (c : List D) (j : Nat) (ds : List D) : List D := over c j ds
def dRoom (j n : Nat) (c : List D) : Prop := j + n ≤ c.length
def AtD (es : List (List D)) (i : Nat) (c : List D) : Prop := es[i]? = some c
def AtB (s : ByteArray) (i : Nat) (b : UInt8) : Prop := s.data.toList[i]? = some b
def bInt (b : UInt8) : Int := b.toNat
def lenRE (es : List (List D)) (s : Option (Bool × Nat × Nat)) : Nat := match s with | none => dLen es | some (_, _, n) => n
def sEmpty : ByteArray := ByteArray.empty
section
variable (P : Program) (T : TypeId → Option TI) (st : St)
def intE (op : BinOp) (k : IntKind) (x y : Int) (K : D → Prop) : Prop :=
 match op with
 | .add => K (.int k (wAdd k x y))
 | .sub => K (.int k (wSub k x y))
 | .mul => K (.int k (wMul k x y))
 | .quo => NZ y ∧ K (.int k (wQuo k x y))
 | .rem => NZ y ∧ K (.int k (wRem x y))
 | .and => K (.int k (wAnd k x y))
 | .or => K (.int k (wOr k x y))
 | .xor => K (.int k (wXor k x y))
 | .andNot => K (.int k (wAndNot k x y))
 | .eql => K (.bool (iEq x y))
 | .neq => K (.bool (bNot (iEq x y)))
 | .lss => K (.bool (iLt x y))
 | .leq => K (.bool (iLe x y))
 | .gtr => K (.bool (iLt y x))
 | .geq => K (.bool (iLe y x))
 | .shl => NN y ∧ K (.int k (wShl k x y))
 | .shr => NN y ∧ K (.int k (wShr k x y))
def strE (op : BinOp) (x y : ByteArray) (K : D → Prop) : Prop :=
 match op with
 | .add => FitsS x y ∧ K (.str (sApp x y))
 | .eql => K (.bool (sEq x y))
 | .neq => K (.bool (bNot (sEq x y)))
 | .lss => K (.bool (sLt x y))
 | _ => False
def eqE (T : TypeId → Option TI) : Nat → TypeId → List CV → List CV → Option Bool
 | 0, _, _, _ => none
 | n + 1, t, xs, ys => match T t with
  | none => none
  | some ti => match ti.k, xs, ys with
   | .int _, [.d (.int k a)], [.d (.int k' b)] => match kindEq k k' with | true => some (iEq a b) | false => none
   | .bool, [.d (.bool a)], [.d (.bool b)] => some (bEq a b)
   | .str, [.d (.str a)], [.d (.str b)] => some (sEq a b)
   | .struct fs, xs, ys => fs.foldr (fun f acc => match T f.2 with
    | none => none
    | some tf => match Nat.ble (f.1 + tf.size) xs.length, Nat.ble (f.1 + tf.size) ys.length, eqE T n f.2 ((xs.drop f.1).take tf.size) ((ys.drop f.1).take tf.size), acc with
     | true, true, some b, some r => some (bAnd b r)
     | _, _, _, _ => none) (some true)
   | _, _, _ => none
theorem eqD_eval' (T : TypeId → Option TI) : ∀ (n : Nat) (t : TypeId) (xs ys : List CV), eqD T n t xs ys = eqE T n t xs ys
 | 0, _, _, _ => rfl
 | n + 1, t, xs, ys => by
  simp only [eqD, eqE, eqD_eval' T n]
  rfl
def binE (op : BinOp) (t : TypeId) (x y : AV) (K : D → Prop) : Prop :=
 match x, y with
 | .c (.d (.int k a)), .c (.d (.int k' b)) => match op with
  | .shl => intE .shl k a b K
  | .shr => intE .shr k a b K
  | _ => match kindEq k k' with | true => intE op k a b K | false => False
 | .c (.d (.str a)), .c (.d (.str b)) => strE op a b K
 | .c (.d (.bool a)), .c (.d (.bool b)) => match T t with
  | some ti => match ti.k, op with
   | .bool, .eql => K (.bool (bEq a b))
   | .bool, .neq => K (.bool (bNot (bEq a b)))
   | _, _ => False
  | none => False
 | .agg xs, .agg ys => match T t with
  | some ti => match ti.k, op, eqE T 8 t xs ys with
   | .struct _, .eql, some b => K (.bool b)
   | .struct _, .neq, some b => K (.bool (bNot b))
   | _, _, _ => False
  | none => False
 | _, _ => False
theorem binE_eq (op : BinOp) (t : TypeId) (x y : AV) (K : D → Prop) : binWp T op t x y K = binE T op t x y K := by
 unfold binWp binE
 simp only [eqD_eval']
 rfl
def unE (op : UnOp) (x : AV) (K : D → Prop) : Prop :=
 match op, x with
 | .not, .c (.d (.bool b)) => K (.bool (bNot b))
 | .neg, .c (.d (.int k n)) => K (.int k (wNeg k n))
 | .xor, .c (.d (.int k n)) => K (.int k (wNot k n))
 | _, _ => False
theorem unE_eq (op : UnOp) (x : AV) (K : D → Prop) : unWp op x K = unE op x K := rfl
def lenE (t : TypeId) (x : AV) (K : D → Prop) : Prop :=
 match T t, x with
 | some ti, .c x => match ti.k, x with
  | .str, .d (.str s) => K (.int .i64 (sLen s))
  | .slice _, .d (.sl _ es) => K (.int .i64 (nInt (dLen es)))
  | .slice _, .nl _ => K (.int .i64 0)
  | _, _ => False
 | _, _ => False
def lenRefE (t : TypeId) (x : AV) (K : D → Prop) : Prop :=
 match T t, x with
 | some ti, .c (.ref id ver s) => match ti.k, look st.h id with
  | .slice _, some (.arr _ _ v _ es) => match Nat.beq v ver with | true => K (.int .i64 (nInt (lenRE es s))) | false => False
  | _, _ => False
 | _, _ => lenE T t x K
theorem lenRefE_eq (t : TypeId) (x : AV) (K : D → Prop) : lenRefWp T st t x K = lenRefE T st t x K := rfl
def bndS (o : Option AV) (dflt : ByteArray) : Option Int :=
 match o with
 | none => some (sLen dflt)
 | some (.c (.d (.int _ n))) => some n
 | _ => none
def bndN (o : Option AV) (dflt : Nat) : Option Int :=
 match o with
 | none => some (nInt dflt)
 | some (.c (.d (.int _ n))) => some n
 | _ => none
def bnd0 (o : Option AV) : Option Int :=
 match o with
 | none => some 0
 | some (.c (.d (.int _ n))) => some n
 | _ => none
def sliceE (t : TypeId) (x : AV) (lo hi : Option AV) (K : CV → Prop) : Prop :=
 match T t, x with
 | some ti, .c x => match ti.k, x with
  | .str, .d (.str s) => match bnd0 lo, bndS hi s with
   | some l, some h => InS l h s.size ∧ K (.d (.str (sCut s (nOf l) (nOf h))))
   | _, _ => False
  | .slice e, .d (.sl sz es) => match T e, bnd0 lo, bndN hi (dLen es) with
   | some te, some l, some h => match Nat.beq te.size sz with
    | true => InS l h (dLen es) ∧ K (.d (.sl sz (dCut es (nOf l) (nOf h))))
    | false => False
   | _, _, _ => False
  | .slice e, .ref id ver s => match T e, look st.h id with
   | some te, some (.arr _ sz v _ es) => match bnd0 lo, bndN hi (lenRE es s) with
    | some l, some h => match Nat.beq te.size sz, Nat.beq v ver with
     | true, true => InS l h (lenRE es s) ∧ K (.ref id ver (some (match lo with | none => hdR s | some _ => false, nAdd (offR s) (nOf l), nSub (nOf h) (nOf l))))
     | _, _ => False
    | _, _ => False
   | _, _ => False
  | .slice e, .nl z => match T e, bnd0 lo, bnd0 hi with
   | some _, some l, some h => (NotNZ l ∧ NotNZ h) ∧ K (.nl z)
   | _, _, _ => False
  | _, _ => False
 | _, _ => False
where NotNZ (x : Int) : Prop := x = 0
theorem sliceE_eq (t : TypeId) (x : AV) (lo hi : Option AV) (K : CV → Prop) : sliceWp T st t x lo hi K = sliceE T st t x lo hi K := rfl
def indexE (t : TypeId) (x i : AV) (K : AV → Prop) : Prop :=
 match T t, i with
 | some ti, .c (.d (.int _ n)) =>
  match ti.k, x with
  | .slice e, .c (.d (.sl sz es)) => match T e with
   | some te => match Nat.beq te.size sz with
    | true => InB n (dLen es) ∧ ∀ c, AtD es (nOf n) c → K (.c (.d (.rp c)))
    | false => False
   | none => False
  | .slice e, .c (.ref id ver s) => match T e, look st.h id with
   | some te, some (.arr _ sz v _ es) => match Nat.beq te.size sz, Nat.beq v ver with
    | true, true => InB n (lenRE es s) ∧ K (.c (.ep id ver (nAdd (offR s) (nOf n)) 0))
    | _, _ => False
   | _, _ => False
  | .arr m e, .c (.ptr id o) => match T e with
   | some te => InB n m ∧ K (.c (.ptr id (o + n.toNat * te.size)))
   | none => False
  | .arr m e, .c (.d (.rp cs)) => match T e with
   | some te => InB n m ∧ K (.c (.d (.rp (cs.drop (n.toNat * te.size)))))
   | none => False
  | _, _ => False
 | _, _ => False
theorem indexE_eq (t : TypeId) (x i : AV) (K : AV → Prop) : indexWp T st t x i K = indexE T st t x i K := rfl
def mxE (mx : Bool) (x y : AV) (K : D → Prop) : Prop :=
 match x, y with
 | .c (.d (.int k a)), .c (.d (.int k' b)) => match kindEq k k' with
  | true => K (.int k (match mx with | true => iMax a b | false => iMin a b))
  | false => False
 | _, _ => False
theorem mxE_eq (mx : Bool) (x y : AV) (K : D → Prop) : mxWp mx x y K = mxE mx x y K := rfl
def idxE (t : TypeId) (x i : AV) (K : CV → Prop) : Prop :=
 match T t, x, i with
 | some ti, .c (.d (.str s)), .c (.d (.int _ n)) => match ti.k with
  | .str => InB n s.size ∧ ∀ b, AtB s (nOf n) b → K (.d (.int .u8 (bInt b)))
  | _ => False
 | some ti, .agg cs, .c (.d (.int _ n)) => match ti.k with
  | .arr m e => match T e with
   | some te => match te.agg, Nat.beq te.size 1, Nat.ble m cs.length with
    | false, true, true => InB n m ∧ ∀ c, cs[n.toNat]? = some c → K c
    | _, _, _ => False
   | none => False
  | _ => False
 | _, _, _ => False
theorem idxE_eq (t : TypeId) (x i : AV) (K : CV → Prop) : idxWp T t x i K = idxE T t x i K := rfl
def fDs : List D → (List D → Prop) → Prop
 | [], K => K []
 | x :: r, K => fD x fun x => fDs r fun r => K (x :: r)
theorem fDs_eq : ∀ (l : List D) (K : List D → Prop), fDs l K = K l
 | [], K => rfl
 | x :: r, K => by simp only [fDs, fD_eq, fDs_eq r]
def fDDs : List (List D) → (List (List D) → Prop) → Prop
 | [], K => K []
 | x :: r, K => fDs x fun x => fDDs r fun r => K (x :: r)
theorem fDDs_eq : ∀ (l : List (List D)) (K : List (List D) → Prop), fDDs l K = K l
 | [], K => rfl
 | x :: r, K => by simp only [fDDs, fDs_eq, fDDs_eq r]
def putE (st : St) (h : List (Nat × Ent)) (id : Nat) (e : Ent) (K : St → Prop) : Prop :=
 match st with | ⟨t, _, n, N⟩ => fE e fun e => lputK h id e fun h => fH h fun h => K ⟨t, h, n, N⟩
theorem putE_eq (st : St) (h : List (Nat × Ent)) (id : Nat) (e : Ent) (K : St → Prop) : putE st h id e K = K { st with h := lput h id e } := by
 cases st; simp only [putE, fE_eq, lputK_eq, fH_eq]
def pushE (st : St) (h : List (Nat × Ent)) (e : Ent) (K : St → Nat → Prop) : Prop :=
 match st with | ⟨t, _, n, N⟩ => fE e fun e => snocK h (n, e) fun h => fH h fun h => fN (n + 1) fun n' => K ⟨t, h, n', N⟩ n
theorem pushE_eq (st : St) (h : List (Nat × Ent)) (e : Ent) (K : St → Nat → Prop) : pushE st h e K = K (St.push { st with h := h } e) st.n := by
 cases st; simp only [pushE, fE_eq, snocK_eq, fH_eq, fN_eq, St.push]
def boxE (st : St) (ty : TypeId) (cs : List CV) (dst : Option Tmp) (K : St → Prop) : Prop := pushE st st.h (.box ty cs) fun st' id => setT st' dst (.c (.ptr id 0)) K
theorem boxE_eq (st : St) (ty : TypeId) (cs : List CV) (dst : Option Tmp) (K : St → Prop) : boxWp st ty cs dst K = boxE st ty cs dst K := by
 simp only [boxWp, boxE, pushE_eq]
def litE (T : TypeId → Option TI) (st : St) (t : TypeId) (len : Nat) (parts : List (Nat × Operand)) (dst : Option Tmp) (K : St → Prop) : Prop :=
 match T t with
 | some ti => match ti.k with
  | .slice e => match T e with
   | some te => match len with
    | 0 => match parts with | _ :: _ => False | [] => pushE st st.h (.arr e te.size 0 .own []) fun st' id => setT st' dst (.c (.ref id 0 none)) K
    | len + 1 => match Nat.beq te.size 0, Nat.ble ((len + 1) * te.size) 16777216, partsC st parts with
     | false, true, some l => match fillC (fun i => some (i * te.size, te.size)) ((List.range ((len + 1) * te.size)).map fun i => te.zero.getD (i % te.size) .u) l with
      | some cs => match frzL st.h cs with
       | some (ds, h') => fDDs (chunk te.size (len + 1) ds) fun es => pushE st h' (.arr e te.size 0 .own es) fun st' id => setT st' dst (.c (.ref id 0 none)) K
       | none => False
      | none => False
     | _, _, _ => False
   | none => False
  | _ => False
 | none => False
theorem litE_eq (T : TypeId → Option TI) (st : St) (t : TypeId) (len : Nat) (parts : List (Nat × Operand)) (dst : Option Tmp) (K : St → Prop) : litWp T st t len parts dst K = litE T st t len parts dst K := by
 unfold litWp litE
 simp only [pushE_eq, fDDs_eq]
 rfl
def storeE (t : TypeId) (addr val : AV) (K : St → Prop) : Prop :=
 match T t, avCells val with
 | some ti, some new => match Nat.beq new.length ti.size with
  | false => False
  | true => match addr with
   | .c (.ptr id off) => match look st.h id with
    | some (.box ty cs) => match Nat.ble (off + new.length) cs.length with
     | true => putE st st.h id (.box ty (over cs off new)) K
     | false => False
    | _ => False
   | .c (.ep id ver i j) => match frzL st.h new with
    | some (ds, h') => match look h' id with
     | some (.arr e sz v .own es) => match Nat.beq v ver with
      | true => fDs ds fun ds => ∀ c, AtD es i c → dRoom j ds.length c ∧ putE st h' id (.arr e sz v .own (dSet es i (dOver c j ds))) K
      | false => False
     | _ => False
    | none => False
   | _ => False
 | _, _ => False
theorem storeE_eq (t : TypeId) (addr val : AV) (K : St → Prop) : storeWp T st t addr val K = storeE T st t addr val K := by
 unfold storeWp storeE
 simp only [putE_eq, fDs_eq]
 rfl
def appXE (e : TypeId) (te : TI) (st : St) (x : AV) (new : List (List D)) (dst : Option Tmp) (K : St → Prop) : Prop :=
 match x with
 | .c (.nl _) => Fits 0 (dLen new) ∧ pushE st st.h (.arr e te.size 0 .own new) fun st' id => setT st' dst (.c (.ref id 0 none)) K
 | .c (.ref id ver none) => match look st.h id with
  | some (.arr e' sz v .own es) => match Nat.beq e' e, Nat.beq sz te.size, Nat.beq v ver with
   | true, true, true => Fits (dLen es) (dLen new) ∧ putE st st.h id (.arr e sz (ver + 1) .own (dApp es new)) fun st' => setT st' dst (.c (.ref id (ver + 1) none)) K
   | _, _, _ => False
  | _ => False
 | _ => False
theorem appXE_eq (e : TypeId) (te : TI) (st : St) (x : AV) (new : List (List D)) (dst : Option Tmp) (K : St → Prop) : appX e te st x new dst K = appXE e te st x new dst K := by
 simp only [appX, appXE, Fits, dLen, Nat.zero_add, pushE_eq, putE_eq]
 rfl
def appE (t : TypeId) (x y : AV) (dst : Option Tmp) (K : St → Prop) : Prop :=
 match T t with
 | some ti => match ti.k with
  | .slice e => match T e with
   | some te => match Nat.beq te.size 0, Nat.ble te.bytes 32768, srcOf st te.size y with
    | false, true, some new => appXE e te st x new dst K
    | _, _, _ => False
   | none => False
  | _ => False
 | none => False
theorem appE_eq (t : TypeId) (x y : AV) (dst : Option Tmp) (K : St → Prop) : appWp T st t x y dst K = appE T st t x y dst K := by
 simp only [appWp, appE, appXE_eq]
 rfl
def makeE (t : TypeId) (l c : AV) (dst : Option Tmp) (K : St → Prop) : Prop :=
 match T t, l, c with
 | some ti, .c (.d (.int _ l)), .c (.d (.int _ c)) => match ti.k with
  | .slice e => match T e with
   | some te => match Nat.beq te.size 0, Nat.ble te.bytes 32768, zD te.zero with
    | false, true, some ds => FitsM l c ∧ fDs ds fun ds => pushE st st.h (.arr e te.size 0 .own (dRep l ds)) fun st' id => setT st' dst (.c (.ref id 0 none)) K
    | _, _, _ => False
   | none => False
  | _ => False
 | _, _, _ => False
theorem makeE_eq (t : TypeId) (l c : AV) (dst : Option Tmp) (K : St → Prop) : makeWp T st t l c dst K = makeE T st t l c dst K := by
 unfold makeWp makeE
 simp only [pushE_eq, fDs_eq]
 rfl
def convE (src dst : TypeId) (x : AV) (K : D → Prop) : Prop :=
 match T src, T dst, x with
 | some si, some di, .c x => match si.k, di.k, x with
  | .int _, .int k, .d (.int _ n) => K (.int k (wConv k n))
  | .str, .str, .d (.str s) => K (.str s)
  | .slice e, .str, .d (.sl 1 es) => match T e with
   | some te => match te.k with
    | .int .u8 => ∃ s, es = encB s ∧ K (.str s)
    | _ => False
   | none => False
  | .slice e, .str, .ref id ver r => match T e, look st.h id with
   | some te, some (.arr _ 1 v ow es) => match te.k, Nat.beq v ver, ow.ns with
    | .int .u8, true, false => ∃ s, (es.drop (offR r)).take (lenR es r) = encB s ∧ K (.str s)
    | _, _, _ => False
   | _, _ => False
  | .slice e, .str, .nl _ => match T e with
   | some te => match te.k with
    | .int .u8 => K (.str sEmpty)
    | _ => False
   | none => False
  | _, _, _ => False
 | _, _, _ => False
theorem convE_eq (src dst : TypeId) (x : AV) (K : D → Prop) : convWp T st src dst x K = convE T st src dst x K := rfl
end
def callFE (P : Program) (st : St) (g : FuncId) (args : List AV) (dst : Option Tmp) (K : St → Prop) : Prop :=
 match frzAs st.h args with
 | some (args', hz) => fAs args' fun args' => ∃ res h' n', FnSpec P g args' res h' n' ∧ ownAll h' = true ∧ afterE st hz h' n' dst res K
 | none => False
where
 fAs : List AV → (List AV → Prop) → Prop
 | [], K => K []
 | x :: r, K => fA x fun x => fAs r fun r => K (x :: r)
 afterE (st : St) (hz h' : List (Nat × Ent)) (n' : Nat) (dst : Option Tmp) (res : AV) (K : St → Prop) : Prop :=
 match st with | ⟨t, _, n, N⟩ => fH (hz ++ shiftH n h') fun h => fN (n + n') fun n' => setT ⟨t, h, n', N⟩ dst (res.shift n) K
theorem fAs_eq : ∀ (l : List AV) (K : List AV → Prop), callFE.fAs l K = K l
 | [], K => rfl
 | x :: r, K => by simp only [callFE.fAs, fA_eq, fAs_eq r]
theorem callFE_eq (P : Program) (st : St) (g : FuncId) (args : List AV) (dst : Option Tmp) (K : St → Prop) : CallF P st g args dst K = callFE P st g args dst K := by
 cases st
 simp only [CallF, callFE, callFE.afterE, fAs_eq, fH_eq, fN_eq]
 rfl
def callRE (P : Program) (st : St) (g : FuncId) (args : List AV) (dst : Option Tmp) (K : St → Prop) : Prop :=
 match roAs st.h args with
 | some args' => callFE.fAs args' fun args' => ∃ res h' n', FnSpec P g args' res h' n' ∧ (ownAll h' && res.dflat) = true ∧ okHF h' ∧ callFE.afterE st st.h h' n' dst res K
 | none => False
theorem callRE_eq (P : Program) (st : St) (g : FuncId) (args : List AV) (dst : Option Tmp) (K : St → Prop) : CallR P st g args dst K = callRE P st g args dst K := by
 cases st
 simp only [CallR, callRE, callFE.afterE, fAs_eq, fH_eq, fN_eq]
 rfl
def callME (P : Program) (st : St) (g : FuncId) (args : List AV) (dst : Option Tmp) (K : St → Prop) : Prop :=
 ∃ id, match look st.h id with
  | some (.arr e sz ver .own es) => match mArgs st.h id ver args with
   | some args' => callFE.fAs args' fun args' => (∃ res es', FnSpecM P g args' e sz es res es' ∧ putE st st.h id (.arr e sz ver .own es') fun st' => setT st' dst res K) ∨ (∃ es', FnSpecV P g args' e sz es es' ∧ putE st st.h id (.arr e sz (ver + 1) .own es') fun st' => setT st' dst (.c (.ref id (ver + 1) none)) K)
   | none => False
  | _ => False
theorem callME_eq (P : Program) (st : St) (g : FuncId) (args : List AV) (dst : Option Tmp) (K : St → Prop) : CallM P st g args dst K = callME P st g args dst K := by
 simp only [CallM, callME, fAs_eq, putE_eq]
 rfl
def callJE (P : Program) (st : St) (g : FuncId) (args : List AV) (dst : Option Tmp) (K : St → Prop) : Prop :=
 ∃ m : List (Nat × Nat), match (⟨numbered 0 args, st.h, st.n, args.length⟩ : St).norm (keepN 0 args) m m.length with
  | some ⟨t, hs, n, N⟩ => fH hs fun hs => fN n fun n => ∃ args' res, (t = numbered 0 args' ∧ N = args'.length ∧ ownAll hs = true) ∧ FnSpecJ P g args' hs n res ∧ (match st with | ⟨t, h, n, N⟩ => fH (hdels h m) fun h => setT ⟨t, h, n, N⟩ dst res K)
  | none => False
theorem callJE_eq (P : Program) (st : St) (g : FuncId) (args : List AV) (dst : Option Tmp) (K : St → Prop) : CallJ P st g args dst K = callJE P st g args dst K := by
 cases st
 simp only [CallJ, callJE, fH_eq, fN_eq]
 rfl
def callBE (P : Program) (st : St) (g : FuncId) (args : List AV) (dst : Option Tmp) (K : St → Prop) : Prop :=
 ∃ id, match frzBs st.h id args with
  | some (args', hz) => match look hz id with
   | some (.box ty cs) => match allD cs with
    | true => fL cs fun cs => callFE.fAs args' fun args' => ∃ (X : Type) (R : X → Prop) (res : X → AV) (cs' : X → List CV) (h' : X → List (Nat × Ent)) (n' : X → Nat), FnSpecB P g args' ty cs X R res cs' h' n' ∧
      ∀ x, R x → (ownAll (h' x) && allD (cs' x) && (look (h' x) 0).isNone) = true ∧ (match st with | ⟨t, _, n, N⟩ => fH (lput hz id (.box ty (cs' x)) ++ shiftH n (h' x)) fun h => fN (n + n' x) fun m => setT ⟨t, h, m, N⟩ dst ((res x).shift n) K)
    | false => False
   | _ => False
  | none => False
theorem callBE_eq (P : Program) (st : St) (g : FuncId) (args : List AV) (dst : Option Tmp) (K : St → Prop) : CallB P st g args dst K = callBE P st g args dst K := by
 cases st
 simp only [CallB, callBE, fAs_eq, fL_eq, fH_eq, fN_eq]
 rfl
def callXE (P : Program) (st : St) (g : FuncId) (args : List AV) (dst : Option Tmp) (K : St → Prop) : Prop :=
 match frzAs st.h args with
 | some (args', hz) => callFE.fAs args' fun args' => ∃ (X : Type) (R : X → Prop) (res : X → AV) (h' : X → List (Nat × Ent)) (n' : X → Nat), FnSpecX P g args' X R res h' n' ∧ ∀ x, R x → ownAll (h' x) = true ∧ callFE.afterE st hz (h' x) (n' x) dst (res x) K
 | none => False
theorem callXE_eq (P : Program) (st : St) (g : FuncId) (args : List AV) (dst : Option Tmp) (K : St → Prop) : CallX P st g args dst K = callXE P st g args dst K := by
 cases st
 simp only [CallX, callXE, callFE.afterE, fAs_eq, fH_eq, fN_eq]
 rfl
def callYE (P : Program) (st : St) (g : FuncId) (args : List AV) (dst : Option Tmp) (K : St → Prop) : Prop :=
 match roAs st.h args with
 | some args' => callFE.fAs args' fun args' => ∃ (X : Type) (R : X → Prop) (res : X → AV) (h' : X → List (Nat × Ent)) (n' : X → Nat), FnSpecX P g args' X R res h' n' ∧ ∀ x, R x → (ownAll (h' x) && (res x).dflat) = true ∧ okHF (h' x) ∧ callFE.afterE st st.h (h' x) (n' x) dst (res x) K
 | none => False
theorem callYE_eq (P : Program) (st : St) (g : FuncId) (args : List AV) (dst : Option Tmp) (K : St → Prop) : CallRX P st g args dst K = callYE P st g args dst K := by
 cases st
 simp only [CallRX, callYE, callFE.afterE, fAs_eq, fH_eq, fN_eq]
 rfl
def callE (P : Program) (st : St) (f : AV) (args : List AV) (dst : Option Tmp) (K : St → Prop) : Prop :=
 match calleeOf f with
 | some (g, caps) => match (args ++ caps).all AV.pureB with
  | true => callFE P st g (args ++ caps) dst K ∨ callXE P st g (args ++ caps) dst K
  | false => callFE P st g (args ++ caps) dst K ∨ callRE P st g (args ++ caps) dst K ∨ callME P st g (args ++ caps) dst K ∨ callJE P st g (args ++ caps) dst K ∨ callBE P st g (args ++ caps) dst K ∨ callXE P st g (args ++ caps) dst K ∨ callYE P st g (args ++ caps) dst K
 | none => False
theorem callE_eq (P : Program) (st : St) (f : AV) (args : List AV) (dst : Option Tmp) (K : St → Prop) : callWp P st f args dst K = callE P st f args dst K := by
 simp only [callWp, callE, callFE_eq, callRE_eq, callME_eq, callXE_eq, callJE_eq, callBE_eq, callYE_eq]
 rfl
def qE (T : TypeId → Option TI) (st : St) (o : Op) (K : AV → Prop) : Prop :=
 match o with
 | .move x | .assign x => K (evO st x)
 | .pick c a b => match evO st c with
  | .c (.d (.bool t)) => ifB t (K (evO st a)) (K (evO st b))
  | _ => False
 | .load t a => match T t with | some ti => loadWp st ti (evO st a) K | none => False
 | .nilCheck x => match evO st x with
  | .c (.d (.rp cs)) => K (.c (.d (.rp cs)))
  | .c (.ptr id off) => K (.c (.ptr id off))
  | _ => False
 | .fieldAddr s x f => match T s with
  | some ti => match offOf ti f with
   | some (off, ft) => match T ft with
    | some tf => match Nat.beq tf.size 0 with | false => ptrAdd st (evO st x) off K | true => False
    | none => False
   | none => False
  | none => False
 | .field t x f => fieldWp T t (evO st x) f K
 | .indexAddr t x i => indexE T st t (evO st x) (evO st i) K
 | .binOp op t x y _ => binE T op t (evO st x) (evO st y) fun d => K (.c (.d d))
 | .unOp op _ x => unE op (evO st x) fun d => K (.c (.d d))
 | .extract x i => tupWp (evO st x) i K
 | .makeFunc (.func f) first captured => match first.size, captured.toList.mapM (fun x => match evO st x with | .c (.ptr id off) => some (id, off) | _ => none) with
  | 0, some caps => K (.c (.fn f caps))
  | 0, none => (match captured.toList.mapM (fun x => match evO st x with | .c (.d d) => some d | _ => none) with
   | some ds => K (.c (.d (.fn f ds)))
   | none => False)
  | _, _ => False
 | .call { callee := .builtin .len, args, argTypes } => match args.toList, argTypes.toList with
  | [x], [t] => lenRefE T st t (evO st x) fun d => K (.c (.d d))
  | _, _ => False
 | .call { callee := .builtin .max, args, argTypes := _ } => match args.toList with
  | [x, y] => mxE true (evO st x) (evO st y) fun d => K (.c (.d d))
  | _ => False
 | .call { callee := .builtin .min, args, argTypes := _ } => match args.toList with
  | [x, y] => mxE false (evO st x) (evO st y) fun d => K (.c (.d d))
  | _ => False
 | .slice t x lo hi none => sliceE T st t (evO st x) (lo.map (evO st)) (hi.map (evO st)) fun x => K (.c x)
 | .convert src dst x => convE T st src dst (evO st x) fun d => K (.c (.d d))
 | .index t x i => idxE T t (evO st x) (evO st i) fun x => K (.c x)
 | _ => False
def qqE (T : TypeId → Option TI) (st : St) (o : Op) (K : AV → Prop) : Prop :=
 match o with
 | .build t parts => buildWp T st t parts.toList K
 | o => qE T st o K
theorem ifB_and (b : Bool) (x y : Prop) : ((b = true → x) ∧ (b = false → y)) = ifB b x y := by cases b <;> simp [ifB]
theorem qE_eq (T : TypeId → Option TI) (st : St) (o : Op) (K : AV → Prop) : qWp T st o K = qE T st o K := by
 unfold qWp qE
 simp only [binE_eq, unE_eq, indexE_eq, lenRefE_eq, mxE_eq, sliceE_eq, convE_eq, idxE_eq, ifB_and]
 rfl
theorem qqE_eq (T : TypeId → Option TI) (st : St) (o : Op) (K : AV → Prop) : qqWp T st o K = qqE T st o K := by
 unfold qqWp qqE
 split
 ·rfl
 ·simp only [qE_eq]
attribute [irreducible] wAdd wSub wMul wQuo wRem wAnd wOr wXor wAndNot wShl wShr wNeg wNot wConv iMax iMin sEq sLt sApp sCut sLen dLen dCut dApp dSet dRep nOf nInt nAdd nSub InB InS NZ NN Fits FitsS FitsM dOver dRoom AtD AtB bInt sEmpty sliceE.NotNZ
end Go.H
