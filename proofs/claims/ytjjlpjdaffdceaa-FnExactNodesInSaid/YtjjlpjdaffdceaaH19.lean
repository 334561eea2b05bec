/- Framework H, part 19: how the walk is computed: names for what is left standing, and the table of types. -/
import Derived.Test.YtjjlpjdaffdceaaH18
namespace Go.H
open Go.RowKit

/-! ### what the computation leaves standing -/
@[cbv_opaque] def wAdd (k : IntKind) (x y : Int) : Int := k.wrap (x + y)
@[cbv_opaque] def wSub (k : IntKind) (x y : Int) : Int := k.wrap (x - y)
@[cbv_opaque] def wMul (k : IntKind) (x y : Int) : Int := k.wrap (x * y)
@[cbv_opaque] def wQuo (k : IntKind) (x y : Int) : Int := k.wrap (x.tdiv y)
@[cbv_opaque] def wRem (x y : Int) : Int := x.tmod y
@[cbv_opaque] def wAnd (k : IntKind) (x y : Int) : Int := wrapB k (BitVec.ofInt k.bits x &&& BitVec.ofInt k.bits y)
@[cbv_opaque] def wOr (k : IntKind) (x y : Int) : Int := wrapB k (BitVec.ofInt k.bits x ||| BitVec.ofInt k.bits y)
@[cbv_opaque] def wXor (k : IntKind) (x y : Int) : Int := wrapB k (BitVec.ofInt k.bits x ^^^ BitVec.ofInt k.bits y)
@[cbv_opaque] def wAndNot (k : IntKind) (x y : Int) : Int := wrapB k (BitVec.ofInt k.bits x &&& ~~~(BitVec.ofInt k.bits y))
@[cbv_opaque] def wShl (k : IntKind) (x y : Int) : Int := k.wrap (x * 2 ^ min y.toNat k.bits)
@[cbv_opaque] def wShr (k : IntKind) (x y : Int) : Int := x.fdiv (2 ^ min y.toNat k.bits)
@[cbv_opaque] def wNeg (k : IntKind) (x : Int) : Int := k.wrap (0 - x)
@[cbv_opaque] def wNot (k : IntKind) (x : Int) : Int := wrapB k (BitVec.ofInt k.bits (if k.signed then -1 else k.max) ^^^ BitVec.ofInt k.bits x)
@[cbv_opaque] def wConv (k : IntKind) (x : Int) : Int := k.wrap x
@[cbv_opaque] def iEq (x y : Int) : Bool := decide (x = y)
@[cbv_opaque] def iLt (x y : Int) : Bool := decide (x < y)
@[cbv_opaque] def iLe (x y : Int) : Bool := decide (x ≤ y)
@[cbv_opaque] def iMax (x y : Int) : Int := if y > x then y else x
@[cbv_opaque] def iMin (x y : Int) : Int := if y < x then y else x
@[cbv_opaque] def bEq (x y : Bool) : Bool := x == y
@[cbv_opaque] def bNot (x : Bool) : Bool := !x
@[cbv_opaque] def bAnd (x y : Bool) : Bool := x && y
@[cbv_opaque] def sEq (x y : ByteArray) : Bool := x.toList == y.toList
@[cbv_opaque] def sLt (x y : ByteArray) : Bool := Op.bytesLess x.toList y.toList
@[cbv_opaque] def sApp (x y : ByteArray) : ByteArray := x ++ y
@[cbv_opaque] def sCut (s : ByteArray) (l h : Nat) : ByteArray := s.extract l h
@[cbv_opaque] def sLen (s : ByteArray) : Int := s.size
@[cbv_opaque] def dLen (es : List (List D)) : Nat := es.length
@[cbv_opaque] def dCut (es : List (List D)) (l h : Nat) : List (List D) := (es.take h).drop l
@[cbv_opaque] def dPart (es : List (List D)) (o n : Nat) : List (List D) := (es.drop o).take n
@[cbv_opaque] def dApp (es fs : List (List D)) : List (List D) := es ++ fs
@[cbv_opaque] def dSet (es : List (List D)) (i : Nat) (c : List D) : List (List D) := es.set i c
@[cbv_opaque] def dRep (n : Int) (c : List D) : List (List D) := List.replicate n.toNat c
@[cbv_opaque] def nOf (x : Int) : Nat := x.toNat
@[cbv_opaque] def nInt (x : Nat) : Int := x
@[cbv_opaque] def nAdd (x y : Nat) : Nat := x + y
@[cbv_opaque] def nSub (x y : Nat) : Nat := x - y
@[cbv_opaque] def InB (n : Int) (m : Nat) : Prop := 0 ≤ n ∧ n < m
@[cbv_opaque] def InS (l h : Int) (m : Nat) : Prop := 0 ≤ l ∧ l ≤ h ∧ h ≤ m
@[cbv_opaque] def NZ (y : Int) : Prop := y ≠ 0
@[cbv_opaque] def NN (y : Int) : Prop := 0 ≤ y
@[cbv_opaque] def Fits (m n : Nat) : Prop := m + n ≤ 4000000000
@[cbv_opaque] def FitsS (x y : ByteArray) : Prop := x.size + y.size ≤ 9223372036854775807
@[cbv_opaque] def FitsM (l c : Int) : Prop := 0 ≤ l ∧ l ≤ c ∧ c ≤ 4000000000
@[cbv_opaque] def dOver (c : List D) (j : Nat) (ds : List D) : List D := over c j ds
@[cbv_opaque] def dRoom (j n : Nat) (c : List D) : Prop := j + n ≤ c.length
/-- Cell list c stands at place i. -/
@[cbv_opaque] def AtD (es : List (List D)) (i : Nat) (c : List D) : Prop := es[i]? = some c
@[cbv_opaque] def AtB (s : ByteArray) (i : Nat) (b : UInt8) : Prop := s.data.toList[i]? = some b
@[cbv_opaque] def bInt (b : UInt8) : Int := b.toNat

attribute [cbv_opaque] partOf lenR offR encB ByteArray.empty
@[cbv_eval] theorem partOf_none (es : List (List D)) : partOf es none = es := rfl
@[cbv_eval] theorem partOf_some (es : List (List D)) (b : Bool) (o n : Nat) : partOf es (some (b, o, n)) = dPart es o n := rfl
@[cbv_eval] theorem lenR_none (es : List (List D)) : lenR es none = dLen es := rfl
@[cbv_eval] theorem lenR_some (es : List (List D)) (b : Bool) (o n : Nat) : lenR es (some (b, o, n)) = n := rfl
@[cbv_eval] theorem offR_none : offR none = 0 := rfl
@[cbv_eval] theorem offR_some (b : Bool) (o n : Nat) : offR (some (b, o, n)) = o := rfl
@[cbv_eval] theorem dLen_nil : dLen [] = 0 := rfl
@[cbv_eval] theorem dLen_cons (c : List D) (es : List (List D)) : dLen (c :: es) = nAdd (dLen es) 1 := rfl
@[cbv_eval] theorem nAdd_zero (x : Nat) : nAdd x 0 = x := rfl
@[cbv_eval] theorem zero_nAdd (x : Nat) : nAdd 0 x = x := Nat.zero_add x
@[cbv_eval] theorem dApp_nil (es : List (List D)) : dApp [] es = es := rfl

section
variable (P : Program) (T : TypeId → Option TI) (st : St)

def intE (op : BinOp) (k : IntKind) (x y : Int) (K : D → Prop) : Prop :=
  match op with
  | .add => K (.int k (wAdd k x y))
  | .sub => K (.int k (wSub k x y))
  | .mul => K (.int k (wMul k x y))
  | .quo => NZ y ∧ K (.int k (wQuo k x y))
  | .rem => NZ y ∧ K (.int k (wRem x y))
  | .and => K (.int k (wAnd k x y))
  | .or => K (.int k (wOr k x y))
  | .xor => K (.int k (wXor k x y))
  | .andNot => K (.int k (wAndNot k x y))
  | .eql => K (.bool (iEq x y))
  | .neq => K (.bool (bNot (iEq x y)))
  | .lss => K (.bool (iLt x y))
  | .leq => K (.bool (iLe x y))
  | .gtr => K (.bool (iLt y x))
  | .geq => K (.bool (iLe y x))
  | .shl => NN y ∧ K (.int k (wShl k x y))
  | .shr => NN y ∧ K (.int k (wShr k x y))
@[cbv_eval] theorem intWp_eval (op : BinOp) (k : IntKind) (x y : Int) (K : D → Prop) : intWp op k x y K = intE op k x y K := rfl

def strE (op : BinOp) (x y : ByteArray) (K : D → Prop) : Prop :=
  match op with
  | .add => FitsS x y ∧ K (.str (sApp x y))
  | .eql => K (.bool (sEq x y))
  | .neq => K (.bool (bNot (sEq x y)))
  | .lss => K (.bool (sLt x y))
  | _ => False
@[cbv_eval] theorem strWp_eval (op : BinOp) (x y : ByteArray) (K : D → Prop) : strWp op x y K = strE op x y K := rfl

def eqE (T : TypeId → Option TI) : Nat → TypeId → List CV → List CV → Option Bool
  | 0, _, _, _ => none
  | n + 1, t, xs, ys => match T t with
    | none => none
    | some ti => match ti.k, xs, ys with
      | .int _, [.d (.int k a)], [.d (.int k' b)] => match kindEq k k' with | true => some (iEq a b) | false => none
      | .bool, [.d (.bool a)], [.d (.bool b)] => some (bEq a b)
      | .str, [.d (.str a)], [.d (.str b)] => some (sEq a b)
      | .struct fs, xs, ys => fs.foldr (fun f acc => match T f.2 with
        | none => none
        | some tf => match Nat.ble (f.1 + tf.size) xs.length, Nat.ble (f.1 + tf.size) ys.length, eqE T n f.2 ((xs.drop f.1).take tf.size) ((ys.drop f.1).take tf.size), acc with
          | true, true, some b, some r => some (bAnd b r)
          | _, _, _, _ => none) (some true)
      | _, _, _ => none
theorem eqD_eval' (T : TypeId → Option TI) : ∀ (n : Nat) (t : TypeId) (xs ys : List CV), eqD T n t xs ys = eqE T n t xs ys
  | 0, _, _, _ => rfl
  | n + 1, t, xs, ys => by
    simp only [eqD, eqE, eqD_eval' T n]
    rfl
@[cbv_eval] theorem eqD_eval (n : Nat) (t : TypeId) (xs ys : List CV) : eqD T n t xs ys = eqE T n t xs ys := eqD_eval' T n t xs ys

def binE (op : BinOp) (t : TypeId) (x y : AV) (K : D → Prop) : Prop :=
  match x, y with
  | .c (.d (.int k a)), .c (.d (.int k' b)) => match op with
    | .shl => intE .shl k a b K
    | .shr => intE .shr k a b K
    | _ => match kindEq k k' with | true => intE op k a b K | false => False
  | .c (.d (.str a)), .c (.d (.str b)) => strE op a b K
  | .c (.d (.bool a)), .c (.d (.bool b)) => match T t with
    | some ti => match ti.k, op with
      | .bool, .eql => K (.bool (bEq a b))
      | .bool, .neq => K (.bool (bNot (bEq a b)))
      | _, _ => False
    | none => False
  | .agg xs, .agg ys => match T t with
    | some ti => match ti.k, op, eqD T 8 t xs ys with
      | .struct _, .eql, some b => K (.bool b)
      | .struct _, .neq, some b => K (.bool (bNot b))
      | _, _, _ => False
    | none => False
  | _, _ => False
@[cbv_eval] theorem binWp_eval (op : BinOp) (t : TypeId) (x y : AV) (K : D → Prop) : binWp T op t x y K = binE T op t x y K := rfl

def unE (op : UnOp) (x : AV) (K : D → Prop) : Prop :=
  match op, x with
  | .not, .c (.d (.bool b)) => K (.bool (bNot b))
  | .neg, .c (.d (.int k n)) => K (.int k (wNeg k n))
  | .xor, .c (.d (.int k n)) => K (.int k (wNot k n))
  | _, _ => False
@[cbv_eval] theorem unWp_eval (op : UnOp) (x : AV) (K : D → Prop) : unWp op x K = unE op x K := rfl

def lenE (t : TypeId) (x : AV) (K : D → Prop) : Prop :=
  match T t, x with
  | some ti, .c x => match ti.k, x with
    | .str, .d (.str s) => K (.int .i64 (sLen s))
    | .slice _, .d (.sl _ es) => K (.int .i64 (nInt (dLen es)))
    | .slice _, .nl _ => K (.int .i64 0)
    | _, _ => False
  | _, _ => False
@[cbv_eval] theorem lenWp_eval (t : TypeId) (x : AV) (K : D → Prop) : lenWp T t x K = lenE T t x K := rfl

def lenRefE (t : TypeId) (x : AV) (K : D → Prop) : Prop :=
  match T t, x with
  | some ti, .c (.ref id ver s) => match ti.k, look st.h id with
    | .slice _, some (.arr _ _ v _ es) => match Nat.beq v ver with | true => K (.int .i64 (nInt (lenR es s))) | false => False
    | _, _ => False
  | _, _ => lenWp T t x K
@[cbv_eval] theorem lenRefWp_eval (t : TypeId) (x : AV) (K : D → Prop) : lenRefWp T st t x K = lenRefE T st t x K := rfl

def bndS (o : Option AV) (dflt : ByteArray) : Option Int :=
  match o with
  | none => some (sLen dflt)
  | some (.c (.d (.int _ n))) => some n
  | _ => none
def bndN (o : Option AV) (dflt : Nat) : Option Int :=
  match o with
  | none => some (nInt dflt)
  | some (.c (.d (.int _ n))) => some n
  | _ => none
def bnd0 (o : Option AV) : Option Int :=
  match o with
  | none => some 0
  | some (.c (.d (.int _ n))) => some n
  | _ => none

def sliceE (t : TypeId) (x : AV) (lo hi : Option AV) (K : CV → Prop) : Prop :=
  match T t, x with
  | some ti, .c x => match ti.k, x with
    | .str, .d (.str s) => match bnd0 lo, bndS hi s with
      | some l, some h => InS l h s.size ∧ K (.d (.str (sCut s (nOf l) (nOf h))))
      | _, _ => False
    | .slice e, .d (.sl sz es) => match T e, bnd0 lo, bndN hi (dLen es) with
      | some te, some l, some h => match Nat.beq te.size sz with
        | true => InS l h (dLen es) ∧ K (.d (.sl sz (dCut es (nOf l) (nOf h))))
        | false => False
      | _, _, _ => False
    | .slice e, .ref id ver s => match T e, look st.h id with
      | some te, some (.arr _ sz v _ es) => match bnd0 lo, bndN hi (lenR es s) with
        | some l, some h => match Nat.beq te.size sz, Nat.beq v ver with
          | true, true => InS l h (lenR es s) ∧ K (.ref id ver (some (match lo with | none => hdR s | some _ => false, nAdd (offR s) (nOf l), nSub (nOf h) (nOf l))))
          | _, _ => False
        | _, _ => False
      | _, _ => False
    | .slice e, .nl z => match T e, bnd0 lo, bnd0 hi with
      | some _, some l, some h => (NotNZ l ∧ NotNZ h) ∧ K (.nl z)
      | _, _, _ => False
    | _, _ => False
  | _, _ => False
where NotNZ (x : Int) : Prop := x = 0
attribute [cbv_opaque] sliceE.NotNZ
@[cbv_eval] theorem sliceWp_eval (t : TypeId) (x : AV) (lo hi : Option AV) (K : CV → Prop) : sliceWp T st t x lo hi K = sliceE T st t x lo hi K := rfl

def indexE (t : TypeId) (x i : AV) (K : AV → Prop) : Prop :=
  match T t, i with
  | some ti, .c (.d (.int _ n)) =>
    match ti.k, x with
    | .slice e, .c (.d (.sl sz es)) => match T e with
      | some te => match Nat.beq te.size sz with
        | true => InB n (dLen es) ∧ ∀ c, AtD es (nOf n) c → K (.c (.d (.rp c)))
        | false => False
      | none => False
    | .slice e, .c (.ref id ver s) => match T e, look st.h id with
      | some te, some (.arr _ sz v _ es) => match Nat.beq te.size sz, Nat.beq v ver with
        | true, true => InB n (lenR es s) ∧ K (.c (.ep id ver (nAdd (offR s) (nOf n)) 0))
        | _, _ => False
      | _, _ => False
    | .arr m e, .c (.ptr id o) => match T e with
      | some te => InB n m ∧ K (.c (.ptr id (o + n.toNat * te.size)))
      | none => False
    | .arr m e, .c (.d (.rp cs)) => match T e with
      | some te => InB n m ∧ K (.c (.d (.rp (cs.drop (n.toNat * te.size)))))
      | none => False
    | _, _ => False
  | _, _ => False
@[cbv_eval] theorem indexWp_eval (t : TypeId) (x i : AV) (K : AV → Prop) : indexWp T st t x i K = indexE T st t x i K := rfl

def mxE (mx : Bool) (x y : AV) (K : D → Prop) : Prop :=
  match x, y with
  | .c (.d (.int k a)), .c (.d (.int k' b)) => match kindEq k k' with
    | true => K (.int k (match mx with | true => iMax a b | false => iMin a b))
    | false => False
  | _, _ => False
@[cbv_eval] theorem mxWp_eval (mx : Bool) (x y : AV) (K : D → Prop) : mxWp mx x y K = mxE mx x y K := rfl

def idxE (t : TypeId) (x i : AV) (K : CV → Prop) : Prop :=
  match T t, x, i with
  | some ti, .c (.d (.str s)), .c (.d (.int _ n)) => match ti.k with
    | .str => InB n s.size ∧ ∀ b, AtB s (nOf n) b → K (.d (.int .u8 (bInt b)))
    | _ => False
  | some ti, .agg cs, .c (.d (.int _ n)) => match ti.k with
    | .arr m e => match T e with
      | some te => match te.agg, Nat.beq te.size 1, Nat.ble m cs.length with
        | false, true, true => InB n m ∧ ∀ c, cs[n.toNat]? = some c → K c
        | _, _, _ => False
      | none => False
    | _ => False
  | _, _, _ => False
@[cbv_eval] theorem idxWp_eval (t : TypeId) (x i : AV) (K : CV → Prop) : idxWp T t x i K = idxE T t x i K := rfl

def storeE (t : TypeId) (addr val : AV) (K : St → Prop) : Prop :=
  match T t, avCells val with
  | some ti, some new => match Nat.beq new.length ti.size with
    | false => False
    | true => match addr with
      | .c (.ptr id off) => match look st.h id with
        | some (.box ty cs) => match Nat.ble (off + new.length) cs.length with
          | true => K { st with h := lput st.h id (.box ty (over cs off new)) }
          | false => False
        | _ => False
      | .c (.ep id ver i j) => match frzL st.h new with
        | some (ds, h') => match look h' id with
          | some (.arr e sz v true es) => match Nat.beq v ver with
            | true => ∀ c, AtD es i c → dRoom j ds.length c ∧ K { st with h := lput h' id (.arr e sz v true (dSet es i (dOver c j ds))) }
            | false => False
          | _ => False
        | none => False
      | _ => False
  | _, _ => False
@[cbv_eval] theorem storeWp_eval (t : TypeId) (addr val : AV) (K : St → Prop) : storeWp T st t addr val K = storeE T st t addr val K := rfl

def appE (t : TypeId) (x y : AV) (dst : Option Tmp) (K : St → Prop) : Prop :=
  match T t with
  | some ti => match ti.k with
    | .slice e => match T e with
      | some te => match Nat.beq te.size 0, Nat.ble te.bytes 32768, srcOf st te.size y with
        | false, true, some new => match x with
          | .c (.nl _) => Fits 0 (dLen new) ∧ setT (st.push (.arr e te.size 0 true new)) dst (.c (.ref st.n 0 none)) K
          | .c (.ref id ver none) => match look st.h id with
            | some (.arr e' sz v true es) => match Nat.beq e' e, Nat.beq sz te.size, Nat.beq v ver with
              | true, true, true => Fits (dLen es) (dLen new) ∧ setT { st with h := lput st.h id (.arr e sz (ver + 1) true (dApp es new)) } dst (.c (.ref id (ver + 1) none)) K
              | _, _, _ => False
            | _ => False
          | _ => False
        | _, _, _ => False
      | none => False
    | _ => False
  | none => False
@[cbv_eval] theorem appWp_eval (t : TypeId) (x y : AV) (dst : Option Tmp) (K : St → Prop) : appWp T st t x y dst K = appE T st t x y dst K := by
  simp only [appWp, appE, Fits, dLen, Nat.zero_add]
  rfl

def makeE (t : TypeId) (l c : AV) (dst : Option Tmp) (K : St → Prop) : Prop :=
  match T t, l, c with
  | some ti, .c (.d (.int _ l)), .c (.d (.int _ c)) => match ti.k with
    | .slice e => match T e with
      | some te => match Nat.beq te.size 0, Nat.ble te.bytes 32768, zD te.zero with
        | false, true, some ds => FitsM l c ∧ setT (st.push (.arr e te.size 0 true (dRep l ds))) dst (.c (.ref st.n 0 none)) K
        | _, _, _ => False
      | none => False
    | _ => False
  | _, _, _ => False
@[cbv_eval] theorem makeWp_eval (t : TypeId) (l c : AV) (dst : Option Tmp) (K : St → Prop) : makeWp T st t l c dst K = makeE T st t l c dst K := rfl


def convE (src dst : TypeId) (x : AV) (K : D → Prop) : Prop :=
  match T src, T dst, x with
  | some si, some di, .c x => match si.k, di.k, x with
    | .int _, .int k, .d (.int _ n) => K (.int k (wConv k n))
    | .str, .str, .d (.str s) => K (.str s)
    | .slice e, .str, .d (.sl 1 es) => match T e with
      | some te => match te.k with
        | .int .u8 => ∃ s, es = encB s ∧ K (.str s)
        | _ => False
      | none => False
    | .slice e, .str, .ref id ver r => match T e, look st.h id with
      | some te, some (.arr _ 1 v _ es) => match te.k, Nat.beq v ver with
        | .int .u8, true => ∃ s, (es.drop (offR r)).take (lenR es r) = encB s ∧ K (.str s)
        | _, _ => False
      | _, _ => False
    | .slice e, .str, .nl _ => match T e with
      | some te => match te.k with
        | .int .u8 => K (.str ByteArray.empty)
        | _ => False
      | none => False
    | _, _, _ => False
  | _, _, _ => False
@[cbv_eval] theorem convWp_eval (src dst : TypeId) (x : AV) (K : D → Prop) : convWp T st src dst x K = convE T st src dst x K := rfl

end
end Go.H
