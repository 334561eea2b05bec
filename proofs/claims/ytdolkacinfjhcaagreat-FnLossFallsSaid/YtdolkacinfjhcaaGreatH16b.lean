/- Framework H, part 16b: how the walk is computed: names for what is left standing (never opened by the computation), and the rules in these names. -/
import Derived.Test.YtdolkacinfjhcaaGreatH16
set_option linter.unusedSimpArgs false
set_option linter.unusedVariables false
set_option linter.constructorNameAsVariable false
namespace Go.H
open Go.RowKit
def wAdd (k : IntKind) (x y : Int) : Int := k.wrap (x + y)
def wSub (k : IntKind) (x y : Int) : Int := k.wrap (x - y)
def wMul (k : IntKind) (x y : Int) : Int := k.wrap (x * y)
def wQuo (k : IntKind) (x y : Int) : Int := k.wrap (x.tdiv y)
def wRem (x y : Int) : Int := x.tmod y
def wAnd (k : IntKind) (x y : Int) : Int := z2o k (BitVec.ofInt k.bits x &&& BitVec.ofInt k.bits y)
def wOr (k : IntKind) (x y : Int) : Int := z2o k (BitVec.ofInt k.bits x ||| BitVec.ofInt k.bits y)
def wXor (k : IntKind) (x y : Int) : Int := z2o k (BitVec.ofInt k.bits x ^^^ BitVec.ofInt k.bits y)
def zIQ (k : IntKind) (x y : Int) : Int := z2o k (BitVec.ofInt k.bits x &&& ~~~(BitVec.ofInt k.bits y))
def wShl (k : IntKind) (x y : Int) : Int := k.wrap (x * 2 ^ min y.toNat k.bits)
def wShr (k : IntKind) (x y : Int) : Int := x.fdiv (2 ^ min y.toNat k.bits)
def wNeg (k : IntKind) (x : Int) : Int := k.wrap (0 - x)
def wNot (k : IntKind) (x : Int) : Int := z2o k (BitVec.ofInt k.bits (if k.signed then -1 else k.max) ^^^ BitVec.ofInt k.bits x)
def z2K (k : IntKind) (x : Int) : Int := k.wrap x
def iEq (x y : Int) : Bool := decide (x = y)
def iLt (x y : Int) : Bool := decide (x < y)
def iLe (x y : Int) : Bool := decide (x ≤ y)
def iMax (x y : Int) : Int := if y > x then y else x
def iMin (x y : Int) : Int := if y < x then y else x
def bEq (x y : Bool) : Bool := x == y
def bNot (x : Bool) : Bool := !x
def bAnd (x y : Bool) : Bool := x && y
def sEq (x y : ByteArray) : Bool := x.toList == y.toList
def sLt (x y : ByteArray) : Bool := Op.bytesLess x.toList y.toList
def sApp (x y : ByteArray) : ByteArray := x ++ y
def sCut (s : ByteArray) (l h : Nat) : ByteArray := s.extract l h
def sLen (s : ByteArray) : Int := s.size
def dLen (es : List (List D)) : Nat := es.length
def dCut (es : List (List D)) (l h : Nat) : List (List D) := (es.take h).drop l
def dApp (es fs : List (List D)) : List (List D) := es ++ fs
def dSet (es : List (List D)) (i : Nat) (c : List D) : List (List D) := es.set i c
def dRep (n : Int) (c : List D) : List (List D) := List.replicate n.toNat c
def nOf (x : Int) : Nat := x.toNat
def nInt (x : Nat) : Int := x
def nAdd (x y : Nat) : Nat := x + y
def nSub (x y : Nat) : Nat := x - y
def InB (n : Int) (m : Nat) : Prop := 0 ≤ n ∧ n < m
def InS (l h : Int) (m : Nat) : Prop := 0 ≤ l ∧ l ≤ h ∧ h ≤ m
def NZ (y : Int) : Prop := y ≠ 0
def NN (y : Int) : Prop := 0 ≤ y
def Fits (m n : Nat) : Prop := m + n ≤ 4000000000
def zLS (x y : ByteArray) : Prop := x.size + y.size ≤ 9223372036854775807
def zIH (l c : Int) : Prop := 0 ≤ l ∧ l ≤ c ∧ c ≤ 4000000000
def wb (c : List D) (j : Nat) (ds : List D) : List D := over c j ds
def zEW (j n : Nat) (c : List D) : Prop := j + n ≤ c.length
def AtD (es : List (List D)) (i : Nat) (c : List D) : Prop := es[i]? = some c
def AtB (s : ByteArray) (i : Nat) (b : UInt8) : Prop := s.data.toList[i]? = some b
def bInt (b : UInt8) : Int := b.toNat
def z0a (es : List (List D)) (s : Option (Bool × Nat × Nat)) : Nat := match s with | none => dLen es | some (_, _, n) => n
def zLX : ByteArray := ByteArray.empty
section
variable (P : Program) (T : TypeId → Option TI) (st : St)
def intE (op : BinOp) (k : IntKind) (x y : Int) (K : D → Prop) : Prop :=
 match op with
 | .add => K (.int k (wAdd k x y))
 | .sub => K (.int k (wSub k x y))
 | .mul => K (.int k (wMul k x y))
 | .quo => NZ y ∧ K (.int k (wQuo k x y))
 | .rem => NZ y ∧ K (.int k (wRem x y))
 | .and => K (.int k (wAnd k x y))
 | .or => K (.int k (wOr k x y))
 | .xor => K (.int k (wXor k x y))
 | .andNot => K (.int k (zIQ k x y))
 | .eql => K (.bool (iEq x y))
 | .neq => K (.bool (bNot (iEq x y)))
 | .lss => K (.bool (iLt x y))
 | .leq => K (.bool (iLe x y))
 | .gtr => K (.bool (iLt y x))
 | .geq => K (.bool (iLe y x))
 | .shl => NN y ∧ K (.int k (wShl k x y))
 | .shr => NN y ∧ K (.int k (wShr k x y))
def strE (op : BinOp) (x y : ByteArray) (K : D → Prop) : Prop :=
 match op with
 | .add => zLS x y ∧ K (.str (sApp x y))
 | .eql => K (.bool (sEq x y))
 | .neq => K (.bool (bNot (sEq x y)))
 | .lss => K (.bool (sLt x y))
 | _ => False
def eqE (T : TypeId → Option TI) : Nat → TypeId → List CV → List CV → Option Bool
 | 0, _, _, _ => none
 | n + 1, t, xs, ys => match T t with
  | none => none
  | some ti => match ti.k, xs, ys with
   | .int _, [.d (.int k a)], [.d (.int k' b)] => match z1d k k' with | true => some (iEq a b) | false => none
   | .bool, [.d (.bool a)], [.d (.bool b)] => some (bEq a b)
   | .str, [.d (.str a)], [.d (.str b)] => some (sEq a b)
   | .struct fs, xs, ys => fs.foldr (fun f acc => match T f.2 with
    | none => none
    | some tf => match Nat.ble (f.1 + tf.size) xs.length, Nat.ble (f.1 + tf.size) ys.length, eqE T n f.2 ((xs.drop f.1).take tf.size) ((ys.drop f.1).take tf.size), acc with
     | true, true, some b, some r => some (bAnd b r)
     | _, _, _, _ => none) (some true)
   | _, _, _ => none
theorem zFd (T : TypeId → Option TI) : ∀ (n : Nat) (t : TypeId) (xs ys : List CV), eqD T n t xs ys = eqE T n t xs ys
 | 0, _, _, _ => rfl
 | n + 1, t, xs, ys => by
  simp only [eqD, eqE, zFd T n]
  rfl
def binE (op : BinOp) (t : TypeId) (x y : AV) (K : D → Prop) : Prop :=
 match x, y with
 | .c (.d (.int k a)), .c (.d (.int k' b)) => match op with
  | .shl => intE .shl k a b K
  | .shr => intE .shr k a b K
  | _ => match z1d k k' with | true => intE op k a b K | false => False
 | .c (.d (.str a)), .c (.d (.str b)) => strE op a b K
 | .c (.d (.bool a)), .c (.d (.bool b)) => match T t with
  | some ti => match ti.k, op with
   | .bool, .eql => K (.bool (bEq a b))
   | .bool, .neq => K (.bool (bNot (bEq a b)))
   | _, _ => False
  | none => False
 | .agg xs, .agg ys => match T t with
  | some ti => match ti.k, op, eqE T 8 t xs ys with
   | .struct _, .eql, some b => K (.bool b)
   | .struct _, .neq, some b => K (.bool (bNot b))
   | _, _, _ => False
  | none => False
 | _, _ => False
theorem zMl (op : BinOp) (t : TypeId) (x y : AV) (K : D → Prop) : zGg T op t x y K = binE T op t x y K := by
 unfold zGg binE
 simp only [zFd]
 rfl
def unE (op : UnOp) (x : AV) (K : D → Prop) : Prop :=
 match op, x with
 | .not, .c (.d (.bool b)) => K (.bool (bNot b))
 | .neg, .c (.d (.int k n)) => K (.int k (wNeg k n))
 | .xor, .c (.d (.int k n)) => K (.int k (wNot k n))
 | _, _ => False
theorem unE_eq (op : UnOp) (x : AV) (K : D → Prop) : unWp op x K = unE op x K := rfl
def lenE (t : TypeId) (x : AV) (K : D → Prop) : Prop :=
 match T t, x with
 | some ti, .c x => match ti.k, x with
  | .str, .d (.str s) => K (.int .i64 (sLen s))
  | .slice _, .d (.sl _ es) => K (.int .i64 (nInt (dLen es)))
  | .slice _, .nl _ => K (.int .i64 0)
  | _, _ => False
 | _, _ => False
def zJG (t : TypeId) (x : AV) (K : D → Prop) : Prop :=
 match T t, x with
 | some ti, .c (.ref id ver s) => match ti.k, look st.h id with
  | .slice _, some (.arr _ _ v _ es) => match Nat.beq v ver with | true => K (.int .i64 (nInt (z0a es s))) | false => False
  | _, _ => False
 | _, _ => lenE T t x K
theorem zI4 (t : TypeId) (x : AV) (K : D → Prop) : z9O T st t x K = zJG T st t x K := rfl
def bndS (o : Option AV) (dflt : ByteArray) : Option Int :=
 match o with
 | none => some (sLen dflt)
 | some (.c (.d (.int _ n))) => some n
 | _ => none
def bndN (o : Option AV) (dflt : Nat) : Option Int :=
 match o with
 | none => some (nInt dflt)
 | some (.c (.d (.int _ n))) => some n
 | _ => none
def bnd0 (o : Option AV) : Option Int :=
 match o with
 | none => some 0
 | some (.c (.d (.int _ n))) => some n
 | _ => none
def zIi (t : TypeId) (x : AV) (lo hi : Option AV) (K : CV → Prop) : Prop :=
 match T t, x with
 | some ti, .c x => match ti.k, x with
  | .str, .d (.str s) => match bnd0 lo, bndS hi s with
   | some l, some h => InS l h s.size ∧ K (.d (.str (sCut s (nOf l) (nOf h))))
   | _, _ => False
  | .slice e, .d (.sl sz es) => match T e, bnd0 lo, bndN hi (dLen es) with
   | some te, some l, some h => match Nat.beq te.size sz with
    | true => InS l h (dLen es) ∧ K (.d (.sl sz (dCut es (nOf l) (nOf h))))
    | false => False
   | _, _, _ => False
  | .slice e, .ref id ver s => match T e, look st.h id with
   | some te, some (.arr _ sz v _ es) => match bnd0 lo, bndN hi (z0a es s) with
    | some l, some h => match Nat.beq te.size sz, Nat.beq v ver with
     | true, true => InS l h (z0a es s) ∧ K (.ref id ver (some (match lo with | none => hdR s | some _ => false, nAdd (offR s) (nOf l), nSub (nOf h) (nOf l))))
     | _, _ => False
    | _, _ => False
   | _, _ => False
  | .slice e, .nl z => match T e, bnd0 lo, bnd0 hi with
   | some _, some l, some h => (NotNZ l ∧ NotNZ h) ∧ K (.nl z)
   | _, _, _ => False
  | _, _ => False
 | _, _ => False
where NotNZ (x : Int) : Prop := x = 0
theorem zIh (t : TypeId) (x : AV) (lo hi : Option AV) (K : CV → Prop) : zD2 T st t x lo hi K = zIi T st t x lo hi K := rfl
def zLg (t : TypeId) (x i : AV) (K : AV → Prop) : Prop :=
 match T t, i with
 | some ti, .c (.d (.int _ n)) =>
  match ti.k, x with
  | .slice e, .c (.d (.sl sz es)) => match T e with
   | some te => match Nat.beq te.size sz with
    | true => InB n (dLen es) ∧ ∀ c, AtD es (nOf n) c → K (.c (.d (.rp c)))
    | false => False
   | none => False
  | .slice e, .c (.ref id ver s) => match T e, look st.h id with
   | some te, some (.arr _ sz v _ es) => match Nat.beq te.size sz, Nat.beq v ver with
    | true, true => InB n (z0a es s) ∧ K (.c (.ep id ver (nAdd (offR s) (nOf n)) 0))
    | _, _ => False
   | _, _ => False
  | .arr m e, .c (.ptr id o) => match T e with
   | some te => InB n m ∧ K (.c (.ptr id (o + n.toNat * te.size)))
   | none => False
  | .arr m e, .c (.d (.rp cs)) => match T e with
   | some te => InB n m ∧ K (.c (.d (.rp (cs.drop (n.toNat * te.size)))))
   | none => False
  | _, _ => False
 | _, _ => False
theorem zJK (t : TypeId) (x i : AV) (K : AV → Prop) : z7Q T st t x i K = zLg T st t x i K := rfl
def mxE (mx : Bool) (x y : AV) (K : D → Prop) : Prop :=
 match x, y with
 | .c (.d (.int k a)), .c (.d (.int k' b)) => match z1d k k' with
  | true => K (.int k (match mx with | true => iMax a b | false => iMin a b))
  | false => False
 | _, _ => False
theorem mxE_eq (mx : Bool) (x y : AV) (K : D → Prop) : mxWp mx x y K = mxE mx x y K := rfl
def idxE (t : TypeId) (x i : AV) (K : CV → Prop) : Prop :=
 match T t, x, i with
 | some ti, .c (.d (.str s)), .c (.d (.int _ n)) => match ti.k with
  | .str => InB n s.size ∧ ∀ b, AtB s (nOf n) b → K (.d (.int .u8 (bInt b)))
  | _ => False
 | some ti, .agg cs, .c (.d (.int _ n)) => match ti.k with
  | .arr m e => match T e with
   | some te => match te.agg, Nat.beq te.size 1, Nat.ble m cs.length with
    | false, true, true => InB n m ∧ ∀ c, cs[n.toNat]? = some c → K c
    | _, _, _ => False
   | none => False
  | _ => False
 | _, _, _ => False
theorem zMK (t : TypeId) (x i : AV) (K : CV → Prop) : zL4 T t x i K = idxE T t x i K := rfl
def fDs : List D → (List D → Prop) → Prop
 | [], K => K []
 | x :: r, K => fD x fun x => fDs r fun r => K (x :: r)
theorem zCb : ∀ (l : List D) (K : List D → Prop), fDs l K = K l
 | [], K => rfl
 | x :: r, K => by simp only [fDs, fD_eq, zCb r]
def fDDs : List (List D) → (List (List D) → Prop) → Prop
 | [], K => K []
 | x :: r, K => fDs x fun x => fDDs r fun r => K (x :: r)
theorem zGO : ∀ (l : List (List D)) (K : List (List D) → Prop), fDDs l K = K l
 | [], K => rfl
 | x :: r, K => by simp only [fDDs, zCb, zGO r]
def putE (st : St) (h : List (Nat × Ent)) (id : Nat) (e : Ent) (K : St → Prop) : Prop :=
 match st with | ⟨t, _, n, N⟩ => fE e fun e => zJ9 h id e fun h => fH h fun h => K ⟨t, h, n, N⟩
theorem z5M (st : St) (h : List (Nat × Ent)) (id : Nat) (e : Ent) (K : St → Prop) : putE st h id e K = K { st with h := lput h id e } := by
 cases st; simp only [putE, zMV, zDF, z5V]
def z9p (st : St) (h : List (Nat × Ent)) (e : Ent) (K : St → Nat → Prop) : Prop :=
 match st with | ⟨t, _, n, N⟩ => fE e fun e => zIg h (n, e) fun h => fH h fun h => fN (n + 1) fun n' => K ⟨t, h, n', N⟩ n
theorem z24 (st : St) (h : List (Nat × Ent)) (e : Ent) (K : St → Nat → Prop) : z9p st h e K = K (St.push { st with h := h } e) st.n := by
 cases st; simp only [z9p, zMV, zCz, z5V, z2k, St.push]
def boxE (st : St) (ty : TypeId) (cs : List CV) (dst : Option Tmp) (K : St → Prop) : Prop := z9p st st.h (.box ty cs) fun st' id => setT st' dst (.c (.ptr id 0)) K
theorem zKE (st : St) (ty : TypeId) (cs : List CV) (dst : Option Tmp) (K : St → Prop) : zKD st ty cs dst K = boxE st ty cs dst K := by
 simp only [zKD, boxE, z24]
def litE (T : TypeId → Option TI) (st : St) (t : TypeId) (len : Nat) (parts : List (Nat × Operand)) (dst : Option Tmp) (K : St → Prop) : Prop :=
 match T t with
 | some ti => match ti.k with
  | .slice e => match T e with
   | some te => match len with
    | 0 => match parts with | _ :: _ => False | [] => z9p st st.h (.arr e te.size 0 .own []) fun st' id => setT st' dst (.c (.ref id 0 none)) K
    | len + 1 => match Nat.beq te.size 0, Nat.ble ((len + 1) * te.size) 16777216, z80 st parts with
     | false, true, some l => match z8u (fun i => some (i * te.size, te.size)) ((List.range ((len + 1) * te.size)).map fun i => te.zero.getD (i % te.size) .u) l with
      | some cs => match frzL st.h cs with
       | some (ds, h') => fDDs (z9E te.size (len + 1) ds) fun es => z9p st h' (.arr e te.size 0 .own es) fun st' id => setT st' dst (.c (.ref id 0 none)) K
       | none => False
      | none => False
     | _, _, _ => False
   | none => False
  | _ => False
 | none => False
theorem zMF (T : TypeId → Option TI) (st : St) (t : TypeId) (len : Nat) (parts : List (Nat × Operand)) (dst : Option Tmp) (K : St → Prop) : zL0 T st t len parts dst K = litE T st t len parts dst K := by
 unfold zL0 litE
 simp only [z24, zGO]
 rfl
def zIc (t : TypeId) (addr val : AV) (K : St → Prop) : Prop :=
 match T t, z17 val with
 | some ti, some new => match Nat.beq new.length ti.size with
  | false => False
  | true => match addr with
   | .c (.ptr id off) => match look st.h id with
    | some (.box ty cs) => match Nat.ble (off + new.length) cs.length with
     | true => putE st st.h id (.box ty (over cs off new)) K
     | false => False
    | _ => False
   | .c (.ep id ver i j) => match frzL st.h new with
    | some (ds, h') => match look h' id with
     | some (.arr e sz v .own es) => match Nat.beq v ver with
      | true => fDs ds fun ds => ∀ c, AtD es i c → zEW j ds.length c ∧ putE st h' id (.arr e sz v .own (dSet es i (wb c j ds))) K
      | false => False
     | _ => False
    | none => False
   | _ => False
 | _, _ => False
theorem zIb (t : TypeId) (addr val : AV) (K : St → Prop) : zCv T st t addr val K = zIc T st t addr val K := by
 unfold zCv zIc
 simp only [z5M, zCb]
 rfl
def zLO (e : TypeId) (te : TI) (st : St) (x : AV) (new : List (List D)) (dst : Option Tmp) (K : St → Prop) : Prop :=
 match x with
 | .c (.nl _) => Fits 0 (dLen new) ∧ z9p st st.h (.arr e te.size 0 .own new) fun st' id => setT st' dst (.c (.ref id 0 none)) K
 | .c (.ref id ver none) => match look st.h id with
  | some (.arr e' sz v .own es) => match Nat.beq e' e, Nat.beq sz te.size, Nat.beq v ver with
   | true, true, true => Fits (dLen es) (dLen new) ∧ putE st st.h id (.arr e sz (ver + 1) .own (dApp es new)) fun st' => setT st' dst (.c (.ref id (ver + 1) none)) K
   | _, _, _ => False
  | _ => False
 | _ => False
theorem zHi (e : TypeId) (te : TI) (st : St) (x : AV) (new : List (List D)) (dst : Option Tmp) (K : St → Prop) : appX e te st x new dst K = zLO e te st x new dst K := by
 simp only [appX, zLO, Fits, dLen, Nat.zero_add, z24, z5M]
 rfl
def appE (t : TypeId) (x y : AV) (dst : Option Tmp) (K : St → Prop) : Prop :=
 match T t with
 | some ti => match ti.k with
  | .slice e => match T e with
   | some te => match Nat.beq te.size 0, Nat.ble te.bytes 32768, zKh st te.size y with
    | false, true, some new => zLO e te st x new dst K
    | _, _, _ => False
   | none => False
  | _ => False
 | none => False
theorem zKN (t : TypeId) (x y : AV) (dst : Option Tmp) (K : St → Prop) : zLP T st t x y dst K = appE T st t x y dst K := by
 simp only [zLP, appE, zHi]
 rfl
def zMD (t : TypeId) (l c : AV) (dst : Option Tmp) (K : St → Prop) : Prop :=
 match T t, l, c with
 | some ti, .c (.d (.int _ l)), .c (.d (.int _ c)) => match ti.k with
  | .slice e => match T e with
   | some te => match Nat.beq te.size 0, Nat.ble te.bytes 32768, zD te.zero with
    | false, true, some ds => zIH l c ∧ fDs ds fun ds => z9p st st.h (.arr e te.size 0 .own (dRep l ds)) fun st' id => setT st' dst (.c (.ref id 0 none)) K
    | _, _, _ => False
   | none => False
  | _ => False
 | _, _, _ => False
theorem zKy (t : TypeId) (l c : AV) (dst : Option Tmp) (K : St → Prop) : zHC T st t l c dst K = zMD T st t l c dst K := by
 unfold zHC zMD
 simp only [z24, zCb]
 rfl
def convE (src dst : TypeId) (x : AV) (K : D → Prop) : Prop :=
 match T src, T dst, x with
 | some si, some di, .c x => match si.k, di.k, x with
  | .int _, .int k, .d (.int _ n) => K (.int k (z2K k n))
  | .str, .str, .d (.str s) => K (.str s)
  | .slice e, .str, .d (.sl 1 es) => match T e with
   | some te => match te.k with
    | .int .u8 => ∃ s, es = encB s ∧ K (.str s)
    | _ => False
   | none => False
  | .slice e, .str, .ref id ver r => match T e, look st.h id with
   | some te, some (.arr _ 1 v ow es) => match te.k, Nat.beq v ver, ow.ns with
    | .int .u8, true, false => ∃ s, (es.drop (offR r)).take (lenR es r) = encB s ∧ K (.str s)
    | _, _, _ => False
   | _, _ => False
  | .slice e, .str, .nl _ => match T e with
   | some te => match te.k with
    | .int .u8 => K (.str zLX)
    | _ => False
   | none => False
  | _, _, _ => False
 | _, _, _ => False
theorem zLA (src dst : TypeId) (x : AV) (K : D → Prop) : zHY T st src dst x K = convE T st src dst x K := rfl
end
def z0L (P : Program) (st : St) (g : FuncId) (args : List AV) (dst : Option Tmp) (K : St → Prop) : Prop :=
 match zFQ st.h args with
 | some (args', hz) => fAs args' fun args' => ∃ res h' n', z6 P g args' res h' n' ∧ z1A h' = true ∧ afterE st hz h' n' dst res K
 | none => False
where
 fAs : List AV → (List AV → Prop) → Prop
 | [], K => K []
 | x :: r, K => fA x fun x => fAs r fun r => K (x :: r)
 afterE (st : St) (hz h' : List (Nat × Ent)) (n' : Nat) (dst : Option Tmp) (res : AV) (K : St → Prop) : Prop :=
 match st with | ⟨t, _, n, N⟩ => fH (hz ++ w6 n h') fun h => fN (n + n') fun n' => setT ⟨t, h, n', N⟩ dst (res.shift n) K
theorem z85 : ∀ (l : List AV) (K : List AV → Prop), z0L.fAs l K = K l
 | [], K => rfl
 | x :: r, K => by simp only [z0L.fAs, zMW, z85 r]
theorem zK6 (P : Program) (st : St) (g : FuncId) (args : List AV) (dst : Option Tmp) (K : St → Prop) : zIJ P st g args dst K = z0L P st g args dst K := by
 cases st
 simp only [zIJ, z0L, z0L.afterE, z85, z5V, z2k]
 rfl
def zJz (P : Program) (st : St) (g : FuncId) (args : List AV) (dst : Option Tmp) (K : St → Prop) : Prop :=
 match roAs st.h args with
 | some args' => z0L.fAs args' fun args' => ∃ res h' n', z6 P g args' res h' n' ∧ (z1A h' && res.dflat) = true ∧ okHF h' ∧ z0L.afterE st st.h h' n' dst res K
 | none => False
theorem zJy (P : Program) (st : St) (g : FuncId) (args : List AV) (dst : Option Tmp) (K : St → Prop) : zKR P st g args dst K = zJz P st g args dst K := by
 cases st
 simp only [zKR, zJz, z0L.afterE, z85, z5V, z2k]
 rfl
def zK3 (P : Program) (st : St) (g : FuncId) (args : List AV) (dst : Option Tmp) (K : St → Prop) : Prop :=
 ∃ id, match look st.h id with
  | some (.arr e sz ver .own es) => match zI1 st.h id ver args with
   | some args' => z0L.fAs args' fun args' => (∃ res es', zR P g args' e sz es res es' ∧ putE st st.h id (.arr e sz ver .own es') fun st' => setT st' dst res K) ∨ (∃ es', zGn P g args' e sz es es' ∧ putE st st.h id (.arr e sz (ver + 1) .own es') fun st' => setT st' dst (.c (.ref id (ver + 1) none)) K)
   | none => False
  | _ => False
theorem zK2 (P : Program) (st : St) (g : FuncId) (args : List AV) (dst : Option Tmp) (K : St → Prop) : zLT P st g args dst K = zK3 P st g args dst K := by
 simp only [zLT, zK3, z85, z5M]
 rfl
def zK5 (P : Program) (st : St) (g : FuncId) (args : List AV) (dst : Option Tmp) (K : St → Prop) : Prop :=
 ∃ m : List (Nat × Nat), match (⟨yc 0 args, st.h, st.n, args.length⟩ : St).norm (zMH 0 args) m m.length with
  | some ⟨t, hs, n, N⟩ => fH hs fun hs => fN n fun n => ∃ args' res, (t = yc 0 args' ∧ N = args'.length ∧ z1A hs = true) ∧ zY P g args' hs n res ∧ (match st with | ⟨t, h, n, N⟩ => fH (zI7 h m) fun h => setT ⟨t, h, n, N⟩ dst res K)
  | none => False
theorem zK4 (P : Program) (st : St) (g : FuncId) (args : List AV) (dst : Option Tmp) (K : St → Prop) : zLU P st g args dst K = zK5 P st g args dst K := by
 cases st
 simp only [zLU, zK5, z5V, z2k]
 rfl
def zK8 (P : Program) (st : St) (g : FuncId) (args : List AV) (dst : Option Tmp) (K : St → Prop) : Prop :=
 ∃ id, match zI9 st.h id args with
  | some (args', hz) => match look hz id with
   | some (.box ty cs) => match allD cs with
    | true => fL cs fun cs => z0L.fAs args' fun args' => ∃ (X : Type) (R : X → Prop) (res : X → AV) (cs' : X → List CV) (h' : X → List (Nat × Ent)) (n' : X → Nat), zW P g args' ty cs X R res cs' h' n' ∧
      ∀ x, R x → (z1A (h' x) && allD (cs' x) && (look (h' x) 0).isNone) = true ∧ (match st with | ⟨t, _, n, N⟩ => fH (lput hz id (.box ty (cs' x)) ++ w6 n (h' x)) fun h => fN (n + n' x) fun m => setT ⟨t, h, m, N⟩ dst ((res x).shift n) K)
    | false => False
   | _ => False
  | none => False
theorem zK7 (P : Program) (st : St) (g : FuncId) (args : List AV) (dst : Option Tmp) (K : St → Prop) : zLV P st g args dst K = zK8 P st g args dst K := by
 cases st
 simp only [zLV, zK8, z85, zJc, z5V, z2k]
 rfl
def zHa (P : Program) (st : St) (g : FuncId) (args : List AV) (dst : Option Tmp) (K : St → Prop) : Prop :=
 match zFQ st.h args with
 | some (args', hz) => z0L.fAs args' fun args' => ∃ (X : Type) (R : X → Prop) (res : X → AV) (h' : X → List (Nat × Ent)) (n' : X → Nat), zV P g args' X R res h' n' ∧ ∀ x, R x → z1A (h' x) = true ∧ z0L.afterE st hz (h' x) (n' x) dst (res x) K
 | none => False
theorem zJx (P : Program) (st : St) (g : FuncId) (args : List AV) (dst : Option Tmp) (K : St → Prop) : zII P st g args dst K = zHa P st g args dst K := by
 cases st
 simp only [zII, zHa, z0L.afterE, z85, z5V, z2k]
 rfl
def zJw (P : Program) (st : St) (g : FuncId) (args : List AV) (dst : Option Tmp) (K : St → Prop) : Prop :=
 match roAs st.h args with
 | some args' => z0L.fAs args' fun args' => ∃ (X : Type) (R : X → Prop) (res : X → AV) (h' : X → List (Nat × Ent)) (n' : X → Nat), zV P g args' X R res h' n' ∧ ∀ x, R x → (z1A (h' x) && (res x).dflat) = true ∧ okHF (h' x) ∧ z0L.afterE st st.h (h' x) (n' x) dst (res x) K
 | none => False
theorem zJv (P : Program) (st : St) (g : FuncId) (args : List AV) (dst : Option Tmp) (K : St → Prop) : zFu P st g args dst K = zJw P st g args dst K := by
 cases st
 simp only [zFu, zJw, z0L.afterE, z85, z5V, z2k]
 rfl
def zMf (P : Program) (st : St) (f : AV) (args : List AV) (dst : Option Tmp) (K : St → Prop) : Prop :=
 match z4U f with
 | some (g, caps) => match (args ++ caps).all AV.pureB with
  | true => z0L P st g (args ++ caps) dst K ∨ zHa P st g (args ++ caps) dst K
  | false => z0L P st g (args ++ caps) dst K ∨ zJz P st g (args ++ caps) dst K ∨ zK3 P st g (args ++ caps) dst K ∨ zK5 P st g (args ++ caps) dst K ∨ zK8 P st g (args ++ caps) dst K ∨ zHa P st g (args ++ caps) dst K ∨ zJw P st g (args ++ caps) dst K
 | none => False
theorem zLH (P : Program) (st : St) (f : AV) (args : List AV) (dst : Option Tmp) (K : St → Prop) : zHb P st f args dst K = zMf P st f args dst K := by
 simp only [zHb, zMf, zK6, zJy, zK2, zJx, zK4, zK7, zJv]
 rfl
def qE (T : TypeId → Option TI) (st : St) (o : Op) (K : AV → Prop) : Prop :=
 match o with
 | .move x | .assign x => K (evO st x)
 | .pick c a b => match evO st c with
  | .c (.d (.bool t)) => ifB t (K (evO st a)) (K (evO st b))
  | _ => False
 | .load t a => match T t with | some ti => zCT st ti (evO st a) K | none => False
 | .nilCheck x => match evO st x with
  | .c (.d (.rp cs)) => K (.c (.d (.rp cs)))
  | .c (.ptr id off) => K (.c (.ptr id off))
  | _ => False
 | .fieldAddr s x f => match T s with
  | some ti => match zG9 ti f with
   | some (off, ft) => match T ft with
    | some tf => match Nat.beq tf.size 0 with | false => zCK st (evO st x) off K | true => False
    | none => False
   | none => False
  | none => False
 | .field t x f => zDP T t (evO st x) f K
 | .indexAddr t x i => zLg T st t (evO st x) (evO st i) K
 | .binOp op t x y _ => binE T op t (evO st x) (evO st y) fun d => K (.c (.d d))
 | .unOp op _ x => unE op (evO st x) fun d => K (.c (.d d))
 | .extract x i => zKb (evO st x) i K
 | .makeFunc (.func f) first captured => match first.size, captured.toList.mapM (fun x => match evO st x with | .c (.ptr id off) => some (id, off) | _ => none) with
  | 0, some caps => K (.c (.fn f caps))
  | 0, none => (match captured.toList.mapM (fun x => match evO st x with | .c (.d d) => some d | _ => none) with
   | some ds => K (.c (.d (.fn f ds)))
   | none => False)
  | _, _ => False
 | .call { callee := .builtin .len, args, argTypes } => match args.toList, argTypes.toList with
  | [x], [t] => zJG T st t (evO st x) fun d => K (.c (.d d))
  | _, _ => False
 | .call { callee := .builtin .max, args, argTypes := _ } => match args.toList with
  | [x, y] => mxE true (evO st x) (evO st y) fun d => K (.c (.d d))
  | _ => False
 | .call { callee := .builtin .min, args, argTypes := _ } => match args.toList with
  | [x, y] => mxE false (evO st x) (evO st y) fun d => K (.c (.d d))
  | _ => False
 | .slice t x lo hi none => zIi T st t (evO st x) (lo.map (evO st)) (hi.map (evO st)) fun x => K (.c x)
 | .convert src dst x => convE T st src dst (evO st x) fun d => K (.c (.d d))
 | .index t x i => idxE T t (evO st x) (evO st i) fun x => K (.c x)
 | _ => False
def qqE (T : TypeId → Option TI) (st : St) (o : Op) (K : AV → Prop) : Prop :=
 match o with
 | .build t parts => z5d T st t parts.toList K
 | o => qE T st o K
theorem zMJ (b : Bool) (x y : Prop) : ((b = true → x) ∧ (b = false → y)) = ifB b x y := by cases b <;> simp [ifB]
theorem qE_eq (T : TypeId → Option TI) (st : St) (o : Op) (K : AV → Prop) : qWp T st o K = qE T st o K := by
 unfold qWp qE
 simp only [zMl, unE_eq, zJK, zI4, mxE_eq, zIh, zLA, zMK, zMJ]
 rfl
theorem z4o (T : TypeId → Option TI) (st : St) (o : Op) (K : AV → Prop) : qqWp T st o K = qqE T st o K := by
 unfold qqWp qqE
 split
 ·rfl
 ·simp only [qE_eq]
attribute [irreducible] wAdd wSub wMul wQuo wRem wAnd wOr wXor zIQ wShl wShr wNeg wNot z2K iMax iMin sEq sLt sApp sCut sLen dLen dCut dApp dSet dRep nOf nInt nAdd nSub InB InS NZ NN Fits zLS zIH wb zEW AtD AtB bInt zLX zIi.NotNZ
end Go.H
