/- Framework H, part 2: what the quiet operations answer. -/
import Derived.Test.YtbclkplebkencaaH1
namespace Go.H
set_option linter.unusedSimpArgs false
set_option linter.unusedVariables false
open Go.RowKit

def cellsC (ti : TI) (cs : List CV) (K : AV → Prop) : Prop :=
  match ti.agg with
  | true => match Nat.ble ti.size cs.length with | true => K (.agg (cs.take ti.size)) | false => False
  | false => match cs with | x :: _ => (match Nat.beq ti.size 1 with | true => K (.c x) | false => False) | [] => False

def loadWp (st : St) (ti : TI) (a : AV) (K : AV → Prop) : Prop :=
  match a with
  | .c (.d (.rp cs)) => cellsC ti (cs.map .d) K
  | .c (.ptr id off) => match look st.h id with
    | some (.box _ cs) => cellsC ti (cs.drop off) K
    | _ => False
  | .c (.ep id ver i j) => match look st.h id with
    | some (.arr _ _ v _ es) => match Nat.beq v ver with | true => ∀ c, es[i]? = some c → cellsC ti ((c.drop j).map .d) K | false => False
    | _ => False
  | _ => False

def offOf (ti : TI) (f : Nat) : Option (Nat × TypeId) := match ti.k with | .struct fs => fs[f]? | _ => none

def ptrAdd (st : St) (a : AV) (off : Nat) (K : AV → Prop) : Prop :=
  match a with
  | .c (.d (.rp cs)) => K (.c (.d (.rp (cs.drop off))))
  | .c (.ptr id o) => K (.c (.ptr id (o + off)))
  | .c (.ep id ver i j) => match look st.h id with
    | some (.arr _ _ v _ _) => match Nat.beq v ver with | true => K (.c (.ep id ver i (j + off))) | false => False
    | _ => False
  | _ => False

def indexWp (T : TypeId → Option TI) (st : St) (t : TypeId) (x i : AV) (K : AV → Prop) : Prop :=
  match T t, i with
  | some ti, .c (.d (.int _ n)) =>
    match ti.k, x with
    | .slice e, .c (.d (.sl sz es)) => match T e with
      | some te => match Nat.beq te.size sz with
        | true => (0 ≤ n ∧ n < es.length) ∧ ∀ c, es[n.toNat]? = some c → K (.c (.d (.rp c)))
        | false => False
      | none => False
    | .slice e, .c (.ref id ver s) => match T e, look st.h id with
      | some te, some (.arr _ sz v _ es) => match Nat.beq te.size sz, Nat.beq v ver with
        | true, true => (0 ≤ n ∧ n < lenR es s) ∧ K (.c (.ep id ver (offR s + n.toNat) 0))
        | _, _ => False
      | _, _ => False
    | .arr m e, .c (.ptr id o) => match T e with
      | some te => (0 ≤ n ∧ n < m) ∧ K (.c (.ptr id (o + n.toNat * te.size)))
      | none => False
    | .arr m e, .c (.d (.rp cs)) => match T e with
      | some te => (0 ≤ n ∧ n < m) ∧ K (.c (.d (.rp (cs.drop (n.toNat * te.size)))))
      | none => False
    | _, _ => False
  | _, _ => False

def kindEq (a b : IntKind) : Bool := decide (a = b)

def wrapB (k : IntKind) (r : BitVec k.bits) : Int := k.wrap r.toNat

/-- Two whole numbers of one kind. -/
def intWp (op : BinOp) (k : IntKind) (x y : Int) (K : D → Prop) : Prop :=
  match op with
  | .add => K (.int k (k.wrap (x + y)))
  | .sub => K (.int k (k.wrap (x - y)))
  | .mul => K (.int k (k.wrap (x * y)))
  | .quo => y ≠ 0 ∧ K (.int k (k.wrap (x.tdiv y)))
  | .rem => y ≠ 0 ∧ K (.int k (x.tmod y))
  | .and => K (.int k (wrapB k (BitVec.ofInt k.bits x &&& BitVec.ofInt k.bits y)))
  | .or => K (.int k (wrapB k (BitVec.ofInt k.bits x ||| BitVec.ofInt k.bits y)))
  | .xor => K (.int k (wrapB k (BitVec.ofInt k.bits x ^^^ BitVec.ofInt k.bits y)))
  | .andNot => K (.int k (wrapB k (BitVec.ofInt k.bits x &&& ~~~(BitVec.ofInt k.bits y))))
  | .eql => K (.bool (decide (x = y)))
  | .neq => K (.bool (!decide (x = y)))
  | .lss => K (.bool (decide (x < y)))
  | .leq => K (.bool (decide (x ≤ y)))
  | .gtr => K (.bool (decide (y < x)))
  | .geq => K (.bool (decide (y ≤ x)))
  | .shl => 0 ≤ y ∧ K (.int k (k.wrap (x * 2 ^ min y.toNat k.bits)))
  | .shr => 0 ≤ y ∧ K (.int k (x.fdiv (2 ^ min y.toNat k.bits)))

def strWp (op : BinOp) (x y : ByteArray) (K : D → Prop) : Prop :=
  match op with
  | .add => x.size + y.size ≤ 9223372036854775807 ∧ K (.str (x ++ y))
  | .eql => K (.bool (x.toList == y.toList))
  | .neq => K (.bool !(x.toList == y.toList))
  | .lss => K (.bool (Op.bytesLess x.toList y.toList))
  | _ => False


/-- Are two values of type t equal: the test, as Go makes it. -/
def eqD (T : TypeId → Option TI) : Nat → TypeId → List CV → List CV → Option Bool
  | 0, _, _, _ => none
  | n + 1, t, xs, ys => match T t with
    | none => none
    | some ti => match ti.k, xs, ys with
      | .int _, [.d (.int k a)], [.d (.int k' b)] => match kindEq k k' with | true => some (decide (a = b)) | false => none
      | .bool, [.d (.bool a)], [.d (.bool b)] => some (a == b)
      | .str, [.d (.str a)], [.d (.str b)] => some (a.toList == b.toList)
      | .struct fs, xs, ys => fs.foldr (fun f acc => match T f.2 with
        | none => none
        | some tf => match Nat.ble (f.1 + tf.size) xs.length, Nat.ble (f.1 + tf.size) ys.length, eqD T n f.2 ((xs.drop f.1).take tf.size) ((ys.drop f.1).take tf.size), acc with
          | true, true, some b, some r => some (b && r)
          | _, _, _, _ => none) (some true)
      | _, _, _ => none

def binWp (T : TypeId → Option TI) (op : BinOp) (t : TypeId) (x y : AV) (K : D → Prop) : Prop :=
  match x, y with
  | .c (.d (.int k a)), .c (.d (.int k' b)) => match op with
    | .shl => intWp .shl k a b K
    | .shr => intWp .shr k a b K
    | _ => match kindEq k k' with | true => intWp op k a b K | false => False
  | .c (.d (.str a)), .c (.d (.str b)) => strWp op a b K
  | .c (.d (.bool a)), .c (.d (.bool b)) => match T t with
    | some ti => match ti.k, op with
      | .bool, .eql => K (.bool (a == b))
      | .bool, .neq => K (.bool (!(a == b)))
      | _, _ => False
    | none => False
  | .agg xs, .agg ys => match T t with
    | some ti => match ti.k, op, eqD T 8 t xs ys with
      | .struct _, .eql, some b => K (.bool b)
      | .struct _, .neq, some b => K (.bool (!b))
      | _, _, _ => False
    | none => False
  | _, _ => False

def unWp (op : UnOp) (x : AV) (K : D → Prop) : Prop :=
  match op, x with
  | .not, .c (.d (.bool b)) => K (.bool (!b))
  | .neg, .c (.d (.int k n)) => K (.int k (k.wrap (0 - n)))
  | .xor, .c (.d (.int k n)) => K (.int k (wrapB k (BitVec.ofInt k.bits (if k.signed then -1 else k.max) ^^^ BitVec.ofInt k.bits n)))
  | _, _ => False

def fieldWp (T : TypeId → Option TI) (t : TypeId) (x : AV) (f : Nat) (K : AV → Prop) : Prop :=
  match T t, x with
  | some ti, .agg cs => match offOf ti f with
    | some (off, ft) => match T ft with
      | some tf => cellsC tf (cs.drop off) K
      | none => False
    | none => False
  | _, _ => False

/-- A value from a list of components. -/
def tupWp (x : AV) (i : Nat) (K : AV → Prop) : Prop :=
  match x with
  | .tup xs => match xs[i]? with
    | some (true, cs) => K (.agg cs)
    | some (false, [c]) => K (.c c)
    | _ => False
  | _ => False

def lenWp (T : TypeId → Option TI) (t : TypeId) (x : AV) (K : D → Prop) : Prop :=
  match T t, x with
  | some ti, .c x => match ti.k, x with
    | .str, .d (.str s) => K (.int .i64 s.size)
    | .slice _, .d (.sl _ es) => K (.int .i64 es.length)
    | .slice _, .nl _ => K (.int .i64 0)
    | _, _ => False
  | _, _ => False

/-- The length of an own row's slice needs the frame's entry. -/
def lenRefWp (T : TypeId → Option TI) (st : St) (t : TypeId) (x : AV) (K : D → Prop) : Prop :=
  match T t, x with
  | some ti, .c (.ref id ver s) => match ti.k, look st.h id with
    | .slice _, some (.arr _ _ v _ es) => match Nat.beq v ver with | true => K (.int .i64 (lenR es s)) | false => False
    | _, _ => False
  | _, _ => lenWp T t x K

/-- A bound of a slice expression. -/
def bnd (o : Option AV) (dflt : Nat) : Option Int :=
  match o with
  | none => some dflt
  | some (.c (.d (.int _ n))) => some n
  | _ => none

def sliceWp (T : TypeId → Option TI) (st : St) (t : TypeId) (x : AV) (lo hi : Option AV) (K : CV → Prop) : Prop :=
  match T t, x with
  | some ti, .c x => match ti.k, x with
    | .str, .d (.str s) => match bnd lo 0, bnd hi s.size with
      | some l, some h => (0 ≤ l ∧ l ≤ h ∧ h ≤ s.size) ∧ K (.d (.str (s.extract l.toNat h.toNat)))
      | _, _ => False
    | .slice e, .d (.sl sz es) => match T e, bnd lo 0, bnd hi es.length with
      | some te, some l, some h => match Nat.beq te.size sz with
        | true => (0 ≤ l ∧ l ≤ h ∧ h ≤ es.length) ∧ K (.d (.sl sz ((es.take h.toNat).drop l.toNat)))
        | false => False
      | _, _, _ => False
    | .slice e, .ref id ver s => match T e, look st.h id with
      | some te, some (.arr _ sz v _ es) => match bnd lo 0, bnd hi (lenR es s) with
        | some l, some h => match Nat.beq te.size sz, Nat.beq v ver with
          | true, true => (0 ≤ l ∧ l ≤ h ∧ h ≤ lenR es s) ∧ K (.ref id ver (some (match lo with | none => hdR s | some _ => false, offR s + l.toNat, h.toNat - l.toNat)))
          | _, _ => False
        | _, _ => False
      | _, _ => False
    | .slice e, .nl z => match T e, bnd lo 0, bnd hi 0 with
      | some _, some l, some h => (l = 0 ∧ h = 0) ∧ K (.nl z)
      | _, _, _ => False
    | _, _ => False
  | _, _ => False

/-- The bytes of a string, as the elements of a slice. -/
def encB (s : ByteArray) : List (List D) := s.data.toList.map fun b => [.int .u8 b.toNat]

def convWp (T : TypeId → Option TI) (st : St) (src dst : TypeId) (x : AV) (K : D → Prop) : Prop :=
  match T src, T dst, x with
  | some si, some di, .c x => match si.k, di.k, x with
    | .int _, .int k, .d (.int _ n) => K (.int k (k.wrap n))
    | .str, .str, .d (.str s) => K (.str s)
    | .slice e, .str, .d (.sl 1 es) => match T e with
      | some te => match te.k with
        | .int .u8 => ∃ s, es = encB s ∧ K (.str s)
        | _ => False
      | none => False
    | .slice e, .str, .ref id ver r => match T e, look st.h id with
      | some te, some (.arr _ 1 v _ es) => match te.k, Nat.beq v ver with
        | .int .u8, true => ∃ s, (es.drop (offR r)).take (lenR es r) = encB s ∧ K (.str s)
        | _, _ => False
      | _, _ => False
    | .slice e, .str, .nl _ => match T e with
      | some te => match te.k with
        | .int .u8 => K (.str ByteArray.empty)
        | _ => False
      | none => False
    | _, _, _ => False
  | _, _, _ => False

def idxWp (T : TypeId → Option TI) (t : TypeId) (x i : AV) (K : CV → Prop) : Prop :=
  match T t, x, i with
  | some ti, .c (.d (.str s)), .c (.d (.int _ n)) => match ti.k with
    | .str => (0 ≤ n ∧ n < s.size) ∧ ∀ b, s.data.toList[n.toNat]? = some b → K (.d (.int .u8 b.toNat))
    | _ => False
  | some ti, .agg cs, .c (.d (.int _ n)) => match ti.k with
    | .arr m e => match T e with
      | some te => match te.agg, Nat.beq te.size 1, Nat.ble m cs.length with
        | false, true, true => (0 ≤ n ∧ n < m) ∧ ∀ c, cs[n.toNat]? = some c → K c
        | _, _, _ => False
      | none => False
    | _ => False
  | _, _, _ => False

def mxWp (mx : Bool) (x y : AV) (K : D → Prop) : Prop :=
  match x, y with
  | .c (.d (.int k a)), .c (.d (.int k' b)) => match kindEq k k' with
    | true => K (.int k (match mx with | true => if b > a then b else a | false => if b < a then b else a))
    | false => False
  | _, _ => False

/-- The quiet operations. -/
def qWp (T : TypeId → Option TI) (st : St) (o : Op) (K : AV → Prop) : Prop :=
  match o with
  | .move x | .assign x => K (evO st x)
  | .pick c a b => match evO st c with
    | .c (.d (.bool t)) => (t = true → K (evO st a)) ∧ (t = false → K (evO st b))
    | _ => False
  | .load t a => match T t with | some ti => loadWp st ti (evO st a) K | none => False
  | .nilCheck x => match evO st x with
    | .c (.d (.rp cs)) => K (.c (.d (.rp cs)))
    | .c (.ptr id off) => K (.c (.ptr id off))
    | _ => False
  | .fieldAddr s x f => match T s with
    | some ti => match offOf ti f with
      | some (off, ft) => match T ft with
        | some tf => match Nat.beq tf.size 0 with | false => ptrAdd st (evO st x) off K | true => False
        | none => False
      | none => False
    | none => False
  | .field t x f => fieldWp T t (evO st x) f K
  | .indexAddr t x i => indexWp T st t (evO st x) (evO st i) K
  | .binOp op t x y _ => binWp T op t (evO st x) (evO st y) fun d => K (.c (.d d))
  | .unOp op _ x => unWp op (evO st x) fun d => K (.c (.d d))
  | .extract x i => tupWp (evO st x) i K
  | .makeFunc (.func f) first captured => match first.size, captured.toList.mapM (fun x => match evO st x with | .c (.ptr id off) => some (id, off) | _ => none) with
    | 0, some caps => K (.c (.fn f caps))
    | _, _ => False
  | .call { callee := .builtin .len, args, argTypes } => match args.toList, argTypes.toList with
    | [x], [t] => lenRefWp T st t (evO st x) fun d => K (.c (.d d))
    | _, _ => False
  | .call { callee := .builtin .max, args, argTypes := _ } => match args.toList with
    | [x, y] => mxWp true (evO st x) (evO st y) fun d => K (.c (.d d))
    | _ => False
  | .call { callee := .builtin .min, args, argTypes := _ } => match args.toList with
    | [x, y] => mxWp false (evO st x) (evO st y) fun d => K (.c (.d d))
    | _ => False
  | .slice t x lo hi none => sliceWp T st t (evO st x) (lo.map (evO st)) (hi.map (evO st)) fun x => K (.c x)
  | .convert src dst x => convWp T st src dst (evO st x) fun d => K (.c (.d d))
  | .index t x i => idxWp T t (evO st x) (evO st i) fun x => K (.c x)
  | _ => False

/-- The operation answers r, whatever memory there is. -/
def QY (P : Program) (st : St) (op : Op) (r : AV) : Prop :=
  ∀ F0 L w0 a w κ (o : Oper), o.op = op → RepK F0 L w0 st a w κ → ∃ v, (execOp a.eval o).run P w = .ok (.value v) w ∧ AVRep w κ st.h r v

theorem cells_sound {P : Program} {t : TypeId} {ti : TI} (hT : ti.fits P t) {cs : List CV} {K : AV → Prop} (h : cellsC ti cs K) :
    ∃ r, K r ∧ ∀ (w : World) (κ : Con) (hh : List (Nat × Ent)) (A : Addr), (∀ (j : Nat) (c : CV), cs[j]? = some c → j < ti.size → ∃ u, w.cell? (A.add j) = some u ∧ CVRep w κ hh c u) →
      ∃ v, (loadVar t A).run P w = .ok v w ∧ AVRep w κ hh r v := by
  unfold cellsC at h
  cases hg : ti.agg with
  | true =>
    simp only [hg] at h
    cases hb : Nat.ble ti.size cs.length with
    | false => simp only [hb] at h
    | true =>
      simp only [hb] at h
      have hle : ti.size ≤ cs.length := Nat.le_of_ble_eq_true hb
      refine ⟨_, h, fun w κ hh A hc => ?_⟩
      have hex : ∀ j, j < ti.size → ∃ u, w.cell? (A.add j) = some u ∧ ∀ c, cs[j]? = some c → CVRep w κ hh c u := fun j hj => by
        obtain ⟨u, h1, h2⟩ := hc j cs[j] (List.getElem?_eq_getElem (by omega)) hj
        exact ⟨u, h1, fun c hc' => by rw [List.getElem?_eq_getElem (by omega)] at hc'; simp at hc'; exact hc' ▸ h2⟩
      let f : Nat → Value := fun j => if hj : j < ti.size then Classical.choose (hex j hj) else undef
      have hf : ∀ j, j < ti.size → w.cell? (A.add j) = some (f j) ∧ ∀ c, cs[j]? = some c → CVRep w κ hh c (f j) := fun j hj => by
        have := Classical.choose_spec (hex j hj)
        simp only [f, hj, dif_pos]; exact this
      have hrun := run_loadVar (w := w) hT A ((List.range ti.size).map f) (by simp) (fun j v hv => by
        simp only [List.getElem?_map, Option.map_eq_some_iff] at hv
        obtain ⟨k, hk, rfl⟩ := hv
        obtain ⟨hlt, rfl⟩ := List.getElem?_eq_some_iff.1 hk
        simp only [List.length_range] at hlt
        simpa using (hf j hlt).1) (by simp [hg])
      rw [hg] at hrun
      refine ⟨_, hrun, _, rfl, by simp [Nat.min_eq_left hle], fun j c u hj hu => ?_⟩
      simp only [List.getElem?_map, Option.map_eq_some_iff] at hu
      obtain ⟨k, hk, rfl⟩ := hu
      obtain ⟨hlt, rfl⟩ := List.getElem?_eq_some_iff.1 hk
      simp only [List.length_range] at hlt
      rw [List.getElem?_take, if_pos hlt] at hj
      simpa using (hf j hlt).2 c hj
  | false =>
    simp only [hg] at h
    match cs, h with
    | x :: r, h =>
      cases hb : Nat.beq ti.size 1 with
      | false => simp only [hb] at h
      | true =>
        simp only [hb] at h
        have h1 : ti.size = 1 := Nat.eq_of_beq_eq_true hb
        refine ⟨_, h, fun w κ hh A hc => ?_⟩
        obtain ⟨u, hu, hx⟩ := hc 0 x rfl (by omega)
        have hrun := run_loadVar (w := w) hT A [u] (by simp [h1]) (fun j v hv => by
          cases j with
          | zero => simp at hv; exact hv ▸ hu
          | succ j => simp at hv) (fun _ => h1)
        rw [hg] at hrun
        exact ⟨u, by simpa using hrun, hx⟩

end Go.H
