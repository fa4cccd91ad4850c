/- THE ENGINE, part 1: an abstract machine for compiled Go functions: values, heap, operations, code, evaluator. Plain definitions. -/
import Derived.WalkKit
namespace Go.Kx

/- persistent store: a binary trie over Nat -/
inductive Tr (α : Type) where
  | leaf
  | node (v : Option α) (l r : Tr α)

namespace Tr
variable {α : Type}
def get : Tr α → Nat → Option α
  | leaf, _ => none
  | node v l r, n => match n with
    | 0 => v
    | _ + 1 => if n % 2 = 1 then l.get (n / 2) else r.get (n / 2 - 1)
def setF : Nat → Tr α → Nat → α → Tr α
  | 0, leaf, _, x => node (some x) leaf leaf
  | 0, node _ l r, _, x => node (some x) l r
  | _ + 1, leaf, 0, x => node (some x) leaf leaf
  | _ + 1, node _ l r, 0, x => node (some x) l r
  | f + 1, leaf, n + 1, x => if (n + 1) % 2 = 1 then node none (setF f leaf ((n + 1) / 2) x) leaf else node none leaf (setF f leaf ((n + 1) / 2 - 1) x)
  | f + 1, node v l r, n + 1, x => if (n + 1) % 2 = 1 then node v (setF f l ((n + 1) / 2) x) r else node v l (setF f r ((n + 1) / 2 - 1) x)
def set (t : Tr α) (n : Nat) (x : α) : Tr α := setF n t n x

theorem get_leaf (n : Nat) : (leaf : Tr α).get n = none := by cases n <;> rfl
theorem get_node_zero (v : Option α) (l r : Tr α) : (node v l r).get 0 = v := by simp [get]
theorem get_node_odd (v : Option α) (l r : Tr α) (n : Nat) (h : n % 2 = 1) : (node v l r).get n = l.get (n / 2) := by
  cases n with
  | zero => simp at h
  | succ n => simp [get, h]
theorem get_node_even (v : Option α) (l r : Tr α) (n : Nat) (h : n % 2 = 0) (h0 : n ≠ 0) : (node v l r).get n = r.get (n / 2 - 1) := by
  cases n with
  | zero => simp at h0
  | succ n => simp [get, h]

theorem get_setF_same : ∀ (f : Nat) (t : Tr α) (n : Nat) (x : α), n ≤ f → (setF f t n x).get n = some x := by
  intro f
  induction f with
  | zero =>
    intro t n x h
    have : n = 0 := by omega
    subst this
    cases t <;> simp [setF, get]
  | succ f ih =>
    intro t n x h
    cases n with
    | zero => cases t <;> simp [setF, get]
    | succ n =>
      cases t <;> simp only [setF] <;> split <;> rename_i hh
      · rw [get_node_odd _ _ _ _ hh]; exact ih _ _ _ (by omega)
      · rw [get_node_even _ _ _ _ (by omega) (by omega)]; exact ih _ _ _ (by omega)
      · rw [get_node_odd _ _ _ _ hh]; exact ih _ _ _ (by omega)
      · rw [get_node_even _ _ _ _ (by omega) (by omega)]; exact ih _ _ _ (by omega)

theorem get_setF_ne : ∀ (f : Nat) (t : Tr α) (n m : Nat) (x : α), n ≤ f → m ≠ n → (setF f t n x).get m = t.get m := by
  intro f
  induction f with
  | zero =>
    intro t n m x h hne
    have : n = 0 := by omega
    subst this
    cases m with
    | zero => exact absurd rfl hne
    | succ m => cases t <;> simp [setF, get]
  | succ f ih =>
    intro t n m x h hne
    cases n with
    | zero =>
      cases m with
      | zero => exact absurd rfl hne
      | succ m => cases t <;> simp [setF, get]
    | succ n =>
      cases t <;> simp only [setF] <;> split <;> rename_i hh
      all_goals
        by_cases hm0 : m = 0
        · subst hm0; simp [get]
        · by_cases hm : m % 2 = 1
          · simp only [get_node_odd _ _ _ _ hm, get_leaf]
            first | done | exact ih _ _ _ _ (by omega) (by omega) | exact (ih _ _ _ _ (by omega) (by omega)).trans (get_leaf _)
          · have hm' : m % 2 = 0 := by omega
            simp only [get_node_even _ _ _ _ hm' hm0, get_leaf]
            first | done | exact ih _ _ _ _ (by omega) (by omega) | exact (ih _ _ _ _ (by omega) (by omega)).trans (get_leaf _)

theorem get_set_same (t : Tr α) (n : Nat) (x : α) : (t.set n x).get n = some x := get_setF_same n t n x (Nat.le_refl _)
theorem get_set_ne (t : Tr α) (n m : Nat) (x : α) (h : m ≠ n) : (t.set n x).get m = t.get m := get_setF_ne n t n m x (Nat.le_refl _) h
end Tr

/- abstract values -/
inductive AV where
  | undef
  | bool (b : Bool)
  | int (k : IntKind) (n : Int)
  | str (s : List UInt8)
  | nil
  | ptr (i v o : Nat)
  | nilS
  | slice (i v o n sz : Nat) (full : Bool)
  | nilM
  | map (i : Nat)
  | nilF
  | func (f : FuncId) (first cap : List AV)
  | nilI
  | iface (t : TypeId) (x : AV)
  | agg (l : List AV)
  | tup (l : List AV)
  deriving Inhabited

namespace AV
mutual
def beq : AV → AV → Bool
  | bool a, bool b => a == b
  | int k a, int j b => k == j && a == b
  | str a, str b => a == b
  | nil, nil => true
  | ptr a b c, ptr x y z => a == x && b == y && c == z
  | nilS, nilS => true
  | slice a b c d e f, slice a' b' c' d' e' f' => a == a' && b == b' && c == c' && d == d' && e == e' && f == f'
  | nilM, nilM => true
  | map a, map b => a == b
  | nilF, nilF => true
  | func f a b, func g c d => f == g && beqs a c && beqs b d
  | nilI, nilI => true
  | iface t x, iface u y => t == u && beq x y
  | agg a, agg b => beqs a b
  | tup a, tup b => beqs a b
  | _, _ => false
def beqs : List AV → List AV → Bool
  | [], [] => true
  | a :: l, b :: m => beq a b && beqs l m
  | _, _ => false
end
def cells : AV → List AV
  | agg l => l
  | x => [x]
/- may lie in one cell -/
def one : AV → Bool
  | undef | agg _ | tup _ => false
  | _ => true
end AV

structure Obj where
  lo : Nat
  hi : Nat
  ro : Bool
  l : List AV

structure H where
  nx : Nat
  cs : Tr Obj
  ms : Tr (List (AV × AV))

namespace H
def get (h : H) (i : Nat) : Option Obj := h.cs.get i
def gm (h : H) (i : Nat) : Option (List (AV × AV)) := h.ms.get i
def put (h : H) (i : Nat) (o : Obj) : H := { h with cs := h.cs.set i o }
def putm (h : H) (i : Nat) (o : List (AV × AV)) : H := { h with ms := h.ms.set i o }
def new (h : H) (l : List AV) : H := { nx := h.nx + 1, cs := h.cs.set h.nx ⟨0, 0, false, l⟩, ms := h.ms }
def newm (h : H) : H := { nx := h.nx + 1, cs := h.cs, ms := h.ms.set h.nx [] }
end H

def nth : List AV → Nat → AV
  | [], _ => .undef
  | a :: _, 0 => a
  | _ :: l, n + 1 => nth l n
def setN : List AV → Nat → AV → List AV
  | [], _, _ => []
  | _ :: l, 0, x => x :: l
  | a :: l, n + 1, x => a :: setN l n x

inductive Opd where
  | tmp (t : Nat)
  | lit (x : AV)
  | glob (g : Nat)
  | fn (f : Nat)

def opd (fr : List AV) : Opd → AV
  | .tmp t => nth fr t
  | .lit x => x
  | .glob g => .ptr g 0 0
  | .fn f => .func f [] []

/- kinds of cells that == looks at; how a type is compared -/
inductive Kd where
  | b | i | s | p | sl | mp | fn
inductive EqT where
  | no
  | leaf (k : Kd)
  | flat (ks : List Kd)

inductive AOp where
  | mv (x : Opd)
  | pick (c a b : Opd)
  | new (z : List AV)
  | box (n : Nat) (x : Opd)
  | build (z : List AV) (ps : List (Nat × Nat × Opd))
  | row (n sz : Nat) (z : List AV) (ps : List (Nat × Nat × Opd))
  | load (x : Opd)
  | loadN (n : Nat) (x : Opd)
  | store (n : Nat) (a x : Opd)
  | nilck (x : Opd)
  | bin (op : BinOp) (e : EqT) (x y : Opd)
  | un (op : UnOp) (x : Opd)
  | convI (k : IntKind) (x : Opd)
  | convS (x : Opd)
  | toStr (x : Opd)
  | toB (x : Opd)
  | mkfunc (f : Nat) (first cap : List Opd)
  | mkmap
  | mksl (sz bytes : Nat) (z : List AV) (l c : Opd)
  | sliceS (x : Opd) (lo hi : Option Opd)
  | sliceL (sz : Nat) (x : Opd) (lo hi mx : Option Opd)
  | faddr (off : Nat) (x : Opd)
  | field (off : Nat) (x : Opd)
  | fieldN (off n : Nat) (x : Opd)
  | iaddr (sz : Nat) (x i : Opd)
  | iaddrA (len sz : Nat) (x i : Opd)
  | idxS (x i : Opd)
  | idxA (len : Nat) (x i : Opd)
  | idxAN (len sz : Nat) (x i : Opd)
  | look (k : Kd) (z : AV) (x i : Opd) (ok : Bool)
  | upd (d : Kd) (m k x : Opd)
  | ext (x : Opd) (i : Nat)
  | app (sz bytes : Nat) (s x : Opd)
  | copy (sz : Nat) (d s : Opd)
  | lenS (x : Opd)
  | lenL (x : Opd)
  | lenM (x : Opd)
  | mn (x y : Opd)
  | mx (x y : Opd)
  | iface (t : Nat) (x : Opd)
  | call (f : Opd) (args : List Opd)
  | dfr (f : Opd) (args : List Opd)

structure Item where
  dst : Option Nat
  op : AOp
  guard : Option (Nat × Bool)

/- one item, and what is looked at again behind it -/
structure ItemC where
  it : Item
  chk : List Item

inductive AC where
  | skip
  | ops (l : List ItemC)
  | seq (a b : AC)
  | cond (c : Opd) (a b : AC)
  | block (id : Nat) (c : AC)
  | loop (m : List Bool) (c : AC)
  | exit (id : Nat)
  | ret

inductive ARes where
  | tmp (t : Nat)
  | cell (t : Nat)
  | cellN (n : Nat) (t : Nat)

structure AFn where
  ntmps : Nat
  code : AC
  res : List ARes

/- reading and writing -/
def rd (h : H) (p : AV) : Option AV :=
  match p with
  | .ptr i v o => match h.get i with
    | some ob => if v = ob.hi then ob.l[o]? else none
    | none => none
  | _ => none

def cut (l : List AV) (o n : Nat) : Option (List AV) := if o + n ≤ l.length then some ((l.drop o).take n) else none

def rdN (h : H) (p : AV) (n : Nat) : Option (List AV) :=
  match p with
  | .ptr i v o => match h.get i with
    | some ob => if v = ob.hi then cut ob.l o n else none
    | none => none
  | _ => none

def splice (l : List AV) (o : Nat) (x : List AV) : List AV := l.take o ++ x ++ l.drop (o + x.length)

def wr (h : H) (p : AV) (x : List AV) : Option H :=
  match p with
  | .ptr i v o => match h.get i with
    | some ob => if v = ob.hi ∧ ob.ro = false ∧ o + x.length ≤ ob.l.length ∧ x.all AV.one then
        some (h.put i ⟨ob.hi, ob.hi, false, splice ob.l o x⟩) else none
    | none => none
  | _ => none

/- the first n elements of a slice or a string, as cells -/
def src (h : H) (x : AV) (n : Nat) : Option (List AV) :=
  match x with
  | .nilS => if n = 0 then some [] else none
  | .slice i v o m sz _ => if n = 0 then some [] else if n ≤ m then match h.get i with
    | some ob => if ob.lo ≤ v ∧ v ≤ ob.hi then cut ob.l o (n * sz) else none
    | none => none else none
  | .str s => if n ≤ s.length then some ((s.take n).map fun b => .int .u8 b.toNat) else none
  | _ => none

def lenL : AV → Option Nat
  | .nilS => some 0
  | .slice _ _ _ n _ _ => some n
  | _ => none

def lenS : AV → Option Nat
  | .nilS => some 0
  | .slice _ _ _ n _ _ => some n
  | .str s => some s.length
  | _ => none

def eqK : Kd → AV → AV → Option Bool
  | .b, .bool a, .bool b => some (a == b)
  | .i, .int k a, .int j b => if k = j then some (a == b) else none
  | .s, .str a, .str b => some (a == b)
  | .p, .nil, .nil => some true
  | .p, .nil, .ptr .. => some false
  | .p, .ptr .., .nil => some false
  | .p, .ptr i v o, .ptr j u p => if i = j ∧ v = u then some (o == p) else none
  | .sl, .nilS, .nilS => some true
  | .sl, .nilS, .slice .. => some false
  | .sl, .slice .., .nilS => some false
  | .mp, .nilM, .nilM => some true
  | .mp, .nilM, .map _ => some false
  | .mp, .map _, .nilM => some false
  | .fn, .nilF, .nilF => some true
  | .fn, .nilF, .func .. => some false
  | .fn, .func .., .nilF => some false
  | _, _, _ => none
def eqKs : List Kd → List AV → List AV → Option Bool
  | [], [], [] => some true
  | k :: ks, a :: l, b :: m => match eqK k a b, eqKs ks l m with
    | some x, some y => some (x && y)
    | _, _ => none
  | _, _, _ => none
def eqV : EqT → AV → AV → Option Bool
  | .leaf k, x, y => eqK k x y
  | .flat ks, .agg a, .agg b => eqKs ks a b
  | _, _, _ => none

def binA (op : BinOp) (e : EqT) (x y : AV) : Option AV :=
  match x, y with
  | .int k a, .int j b => match op with
    | .shl => if b < 0 then none else some (.int k (k.wrap (a * 2 ^ (min b.toNat k.bits))))
    | .shr => if b < 0 then none else some (.int k (a.fdiv (2 ^ (min b.toNat k.bits))))
    | .add => if k = j then some (.int k (k.wrap (a + b))) else none
    | .sub => if k = j then some (.int k (k.wrap (a - b))) else none
    | .mul => if k = j then some (.int k (k.wrap (a * b))) else none
    | .quo => if k = j ∧ b ≠ 0 then some (.int k (k.wrap (a.tdiv b))) else none
    | .rem => if k = j ∧ b ≠ 0 then some (.int k (a.tmod b)) else none
    | .and => if k = j then some (.int k (k.wrap (BitVec.ofInt k.bits a &&& BitVec.ofInt k.bits b).toNat)) else none
    | .or => if k = j then some (.int k (k.wrap (BitVec.ofInt k.bits a ||| BitVec.ofInt k.bits b).toNat)) else none
    | .xor => if k = j then some (.int k (k.wrap (BitVec.ofInt k.bits a ^^^ BitVec.ofInt k.bits b).toNat)) else none
    | .andNot => if k = j then some (.int k (k.wrap (BitVec.ofInt k.bits a &&& ~~~ BitVec.ofInt k.bits b).toNat)) else none
    | .eql => if k = j then some (.bool (a == b)) else none
    | .neq => if k = j then some (.bool (a != b)) else none
    | .lss => if k = j then some (.bool (decide (a < b))) else none
    | .leq => if k = j then some (.bool (decide (a ≤ b))) else none
    | .gtr => if k = j then some (.bool (decide (a > b))) else none
    | .geq => if k = j then some (.bool (decide (a ≥ b))) else none
  | .str a, .str b => match op with
    | .add => if a.length + b.length ≤ 9223372036854775807 then some (.str (a ++ b)) else none
    | .eql => some (.bool (a == b))
    | .neq => some (.bool !(a == b))
    | .lss => some (.bool (Op.bytesLess a b))
    | .leq => some (.bool (Op.bytesLess a b || a == b))
    | .gtr => some (.bool !(Op.bytesLess a b || a == b))
    | .geq => some (.bool !(Op.bytesLess a b))
    | _ => none
  | x, y => match op with
    | .eql => (eqV e x y).map .bool
    | .neq => (eqV e x y).map fun b => .bool !b
    | _ => none

def unA (op : UnOp) (x : AV) : Option AV :=
  match op, x with
  | .neg, .int k n => some (.int k (k.wrap (0 - n)))
  | .xor, .int k n => some (.int k (k.wrap (BitVec.ofInt k.bits (if k.signed then -1 else k.max) ^^^ BitVec.ofInt k.bits n).toNat))
  | .not, .bool b => some (.bool !b)
  | _, _ => none

/- laying parts into cells -/
def lay (cs : List AV) (fr : List AV) : List (Nat × Nat × Opd) → Option (List AV)
  | [] => some cs
  | (o, n, x) :: r => let v := (opd fr x).cells
    if v.length = n ∧ o + n ≤ cs.length ∧ v.all AV.one then lay (splice cs o v) fr r else none

def asNat (x : AV) : Option Nat := match x with
  | .int _ n => if 0 ≤ n then some n.toNat else none
  | _ => none

def optNat (fr : List AV) (x : Option Opd) (d : Nat) : Option Nat := match x with
  | none => some d
  | some x => asNat (opd fr x)

/- the bound of a full slice expression: none: no number; some none: there is none -/
def maxNat (fr : List AV) (x : Option Opd) : Option (Option Nat) := match x with
  | none => some none
  | some x => match asNat (opd fr x) with
    | some n => some (some n)
    | none => none

def sliceA (sz : Nat) (x : AV) (lo hi : Nat) (m : Option Nat) : Option AV :=
  match x with
  | .nilS => if lo = 0 ∧ hi = 0 ∧ m.getD 0 = 0 then some .nilS else none
  | .slice i v o n sz' full => if sz' = sz ∧ lo ≤ hi ∧ hi ≤ m.getD n ∧ m.getD n ≤ n then
      some (.slice i v (o + lo * sz) (hi - lo) sz (match m with | some m => m == hi | none => full && hi == n)) else none
  | _ => none

def find (d : Kd) (k : AV) : List (AV × AV) → Option (Option AV)
  | [] => some none
  | (j, x) :: r => match eqK d k j with
    | some true => some (some x)
    | some false => find d k r
    | none => none

def update (d : Kd) (k x : AV) : List (AV × AV) → List (AV × AV)
  | [] => [(k, x)]
  | (j, y) :: r => match eqK d k j with
    | some true => (k, x) :: r
    | _ => (j, y) :: update d k x r

/- a key of that kind -/
def keyOf : Kd → AV → Bool
  | .b, .bool _ => true
  | .i, .int .. => true
  | .s, .str _ => true
  | _, _ => false

def roomB : Nat := 140737488355328

def appA (sz bytes : Nat) (h : H) (s x : AV) : Option (AV × H) :=
  match lenS x with
  | none => none
  | some n =>
    match src h x n with
    | none => none
    | some new =>
      if n = 0 then (match s with | .nilS | .slice .. => some (s, h) | _ => none) else
      match s with
      | .nilS => if n * bytes ≤ roomB ∧ new.length = n * sz ∧ 0 < sz then some (.slice h.nx 0 0 n sz false, h.new new) else none
      | .slice i v o m sz' full =>
        if sz' = sz ∧ (m + n) * bytes ≤ roomB ∧ new.length = n * sz ∧ 0 < sz then
          if full then match src h s m with
            | some old => some (.slice h.nx 0 0 (m + n) sz false, h.new (old ++ new))
            | none => none
          else match h.get i with
            | some ob => if o = 0 ∧ v = ob.hi ∧ ob.ro = false ∧ m * sz ≤ ob.l.length then
                some (.slice i (ob.hi + 1) 0 (m + n) sz false,
                  h.put i ⟨if m * sz = ob.l.length then ob.lo else ob.hi + 1, ob.hi + 1, false, ob.l.take (m * sz) ++ new⟩) else none
            | none => none
        else none
      | _ => none

def toBytes : List AV → Option (List UInt8)
  | [] => some []
  | .int .u8 n :: l => (toBytes l).map fun r => UInt8.ofNat n.toNat :: r
  | _ => none

inductive SR where
  | val (x : AV) (h : H)
  | call (f : FuncId) (args : List AV)
  | dfr (f : FuncId) (args : List AV)

def repl (n : Nat) (z : List AV) : List AV := match n with
  | 0 => []
  | n + 1 => z ++ repl n z

/- one operation -/
def step (op : AOp) (fr : List AV) (h : H) : Option SR :=
  match op with
  | .mv x => some (.val (opd fr x) h)
  | .pick c a b => match opd fr c with
    | .bool t => some (.val (if t then opd fr a else opd fr b) h)
    | _ => none
  | .new z => some (.val (.ptr h.nx 0 0) (h.new z))
  | .box n x => let l := (opd fr x).cells
    if l.length = n ∧ l.all AV.one then some (.val (.ptr h.nx 0 0) (h.new l)) else none
  | .build z ps => (lay z fr ps).map fun l => .val (.agg l) h
  | .row n sz z ps => (lay (repl n z) fr ps).map fun l => .val (.slice h.nx 0 0 n sz true) (h.new l)
  | .load x => (rd h (opd fr x)).map fun y => .val y h
  | .loadN n x => (rdN h (opd fr x) n).map fun y => .val (.agg y) h
  | .store n a x => let l := (opd fr x).cells
    if l.length = n then (wr h (opd fr a) l).map fun h' => .val (.tup []) h' else none
  | .nilck x => match opd fr x with
    | .ptr i v o => some (.val (.ptr i v o) h)
    | .func f a b => some (.val (.func f a b) h)
    | _ => none
  | .bin op e x y => (binA op e (opd fr x) (opd fr y)).map fun v => .val v h
  | .un op x => (unA op (opd fr x)).map fun v => .val v h
  | .convI k x => match opd fr x with
    | .int _ n => some (.val (.int k (k.wrap n)) h)
    | _ => none
  | .convS x => match opd fr x with
    | .str s => some (.val (.str s) h)
    | _ => none
  | .toStr x => match lenL (opd fr x) with
    | some n => match src h (opd fr x) n with
      | some l => if l.length = n then (toBytes l).map fun s => .val (.str s) h else none
      | none => none
    | none => none
  | .toB x => match opd fr x with
    | .str s => some (.val (.slice h.nx 0 0 s.length 1 false) (h.new (s.map fun b => .int .u8 b.toNat)))
    | _ => none
  | .mkfunc f a b => some (.val (.func f (a.map (opd fr)) (b.map (opd fr))) h)
  | .mkmap => some (.val (.map h.nx) h.newm)
  | .mksl sz bytes z l c => match asNat (opd fr l), asNat (opd fr c) with
    | some l, some c => if l ≤ c ∧ c * bytes ≤ roomB ∧ z.length = sz ∧ 0 < sz then some (.val (.slice h.nx 0 0 l sz (l == c)) (h.new (repl c z))) else none
    | _, _ => none
  | .sliceS x lo hi => match opd fr x with
    | .str s => match optNat fr lo 0, optNat fr hi s.length with
      | some l, some k => if l ≤ k ∧ k ≤ s.length then some (.val (.str ((s.drop l).take (k - l))) h) else none
      | _, _ => none
    | _ => none
  | .sliceL sz x lo hi mx => match lenL (opd fr x), optNat fr lo 0 with
    | some n, some l => match optNat fr hi n, maxNat fr mx with
      | some k, some m => (sliceA sz (opd fr x) l k m).map fun y => .val y h
      | _, _ => none
    | _, _ => none
  | .faddr off x => match opd fr x with
    | .ptr i v o => some (.val (.ptr i v (o + off)) h)
    | _ => none
  | .field off x => match opd fr x with
    | .agg l => (l[off]?).map fun y => .val y h
    | _ => none
  | .fieldN off n x => match opd fr x with
    | .agg l => (cut l off n).map fun y => .val (.agg y) h
    | _ => none
  | .iaddr sz x i => match opd fr x, asNat (opd fr i) with
    | .slice j v o n sz' _, some k => if k < n ∧ sz' = sz then some (.val (.ptr j v (o + k * sz)) h) else none
    | _, _ => none
  | .iaddrA len sz x i => match opd fr x, asNat (opd fr i) with
    | .ptr j v o, some k => if k < len then some (.val (.ptr j v (o + k * sz)) h) else none
    | _, _ => none
  | .idxS x i => match opd fr x, asNat (opd fr i) with
    | .str s, some k => match s[k]? with
      | some b => some (.val (.int .u8 b.toNat) h)
      | none => none
    | _, _ => none
  | .idxA len x i => match opd fr x, asNat (opd fr i) with
    | .agg l, some k => if k < len then (l[k]?).map fun y => .val y h else none
    | _, _ => none
  | .idxAN len sz x i => match opd fr x, asNat (opd fr i) with
    | .agg l, some k => if k < len then (cut l (k * sz) sz).map fun y => .val (.agg y) h else none
    | _, _ => none
  | .look d z x i ok => if keyOf d (opd fr i) then
      match (match opd fr x with | .nilM => some [] | .map j => h.gm j | _ => none) with
      | some es => match find d (opd fr i) es with
        | some r => some (.val (if ok then .tup [r.getD z, .bool r.isSome] else r.getD z) h)
        | none => none
      | none => none
    else none
  | .upd d m k x => match opd fr m with
    | .map j => match h.gm j with
      | some es => if keyOf d (opd fr k) ∧ (opd fr x).cells.all AV.one then match find d (opd fr k) es with
        | some _ => some (.val (.tup []) (h.putm j (update d (opd fr k) (opd fr x) es)))
        | none => none else none
      | none => none
    | _ => none
  | .ext x i => match opd fr x with
    | .tup l => (l[i]?).map fun y => .val y h
    | _ => none
  | .app sz bytes s x => (appA sz bytes h (opd fr s) (opd fr x)).map fun (v, h') => .val v h'
  | .copy sz d s => match opd fr d, lenS (opd fr s) with
    | .slice i v o n sz' _, some m => if sz' = sz ∧ 0 < sz then
        if min m n = 0 then some (.val (.int .i64 0) h) else
        match src h (opd fr s) (min m n) with
        | some l => if l.length = min m n * sz then (wr h (.ptr i v o) l).map fun h' => .val (.int .i64 ((min m n : Nat) : Int)) h' else none
        | none => none
      else none
    | .nilS, some _ => some (.val (.int .i64 0) h)
    | _, _ => none
  | .lenS x => match opd fr x with
    | .str s => some (.val (.int .i64 s.length) h)
    | _ => none
  | .lenL x => match lenL (opd fr x) with
    | some n => some (.val (.int .i64 n) h)
    | none => none
  | .lenM x => match opd fr x with
    | .nilM => some (.val (.int .i64 0) h)
    | .map j => match h.gm j with
      | some es => some (.val (.int .i64 es.length) h)
      | none => none
    | _ => none
  | .mn x y => match opd fr x, opd fr y with
    | .int k a, .int j b => if k = j then some (.val (.int k (min a b)) h) else none
    | _, _ => none
  | .mx x y => match opd fr x, opd fr y with
    | .int k a, .int j b => if k = j then some (.val (.int k (max a b)) h) else none
    | _, _ => none
  | .iface t x => some (.val (.iface t (opd fr x)) h)
  | .call f args => match opd fr f with
    | .func f a b => some (.call f (a ++ args.map (opd fr) ++ b))
    | _ => none
  | .dfr f args => match opd fr f with
    | .func f a b => some (.dfr f (a ++ args.map (opd fr) ++ b))
    | _ => none

def putD (fr : List AV) (d : Option Nat) (x : AV) : List AV := match d with
  | none => fr
  | some t => setN fr t x

/- is it wanted? none: not known -/
def wanted (fr : List AV) (g : Option (Nat × Bool)) : Option Bool := match g with
  | none => some true
  | some (t, b) => match nth fr t with
    | .bool c => some (c == b)
    | .tup [] => some false
    | _ => none

/- looked at again: an operation that reads or makes memory gives what it gave -/
def again (h : H) (fr : List AV) (it : Item) : Bool :=
  match wanted fr it.guard with
  | none => false
  | some false => true
  | some true => match it.op with
    | .new z => match it.dst with
      | some t => match nth fr t with
        | .ptr i 0 0 => match h.get i with
          | some ob => ob.lo == 0 && ob.hi == 0 && !ob.ro && AV.beqs ob.l z
          | none => false
        | _ => false
      | none => false
    | .box _ x => match it.dst with
      | some t => match nth fr t with
        | .ptr i 0 0 => match h.get i with
          | some ob => ob.lo == 0 && ob.hi == 0 && !ob.ro && AV.beqs ob.l (opd fr x).cells
          | none => false
        | _ => false
      | none => false
    | .row n _ z ps => match it.dst with
      | some t => match nth fr t with
        | .slice i 0 0 _ _ _ => match h.get i, lay (repl n z) fr ps with
          | some ob, some l => ob.lo == 0 && ob.hi == 0 && !ob.ro && AV.beqs ob.l l
          | _, _ => false
        | _ => false
      | none => false
    | op => match step op fr h with
      | some (.val x _) => match it.dst with
        | some t => AV.beq x (nth fr t)
        | none => false
      | _ => false

inductive Ex where
  | normal
  | exit (id : Nat)
  | ret

structure Df where
  f : FuncId
  args : List AV

structure Res where
  x : Ex
  fr : List AV
  d : List Df
  h : H

def mask : List Bool → List AV → List AV
  | [], l => l
  | _, [] => []
  | b :: bs, x :: l => (if b then x else .undef) :: mask bs l

def resA (h : H) (fr : List AV) : ARes → Option AV
  | .tmp t => some (nth fr t)
  | .cell t => rd h (nth fr t)
  | .cellN n t => (rdN h (nth fr t) n).map .agg

def resAs (h : H) (fr : List AV) : List ARes → Option (List AV)
  | [] => some []
  | r :: rs => match resA h fr r, resAs h fr rs with
    | some x, some l => some (x :: l)
    | _, _ => none

def results (b : AFn) (fr : List AV) (h : H) : Option AV := match resAs h fr b.res with
  | some [x] => some x
  | some l => some (.tup l)
  | none => none

structure Env where
  body : FuncId → Option AFn
  hook : FuncId → Option (List AV → H → Option (AV × H))

/- did a body come to its end? -/
def ended : Ex → Bool
  | .exit _ => false
  | _ => true

def pad (n : Nat) (l : List AV) : List AV := l ++ List.replicate (n - l.length) .undef

mutual
def ev (E : Env) (c : AC) (fr : List AV) (d : List Df) (h : H) : Option Res :=
  match c with
  | .skip => some ⟨.normal, fr, d, h⟩
  | .exit i => some ⟨.exit i, fr, d, h⟩
  | .ret => some ⟨.ret, fr, d, h⟩
  | .seq a b => ev E a fr d h >>= fun r => match r.x with
    | .normal => ev E b r.fr r.d r.h
    | _ => some r
  | .cond c a b => match opd fr c with
    | .bool true => ev E a fr d h
    | .bool false => ev E b fr d h
    | _ => none
  | .block i c => ev E c fr d h >>= fun r => match r.x with
    | .exit j => if j = i then some ⟨.normal, r.fr, r.d, r.h⟩ else some r
    | _ => some r
  | .loop m c => ev E c (mask m fr) d h >>= fun r => match r.x with
    | .normal => ev E (.loop m c) r.fr r.d r.h
    | _ => some r
  | .ops [] => some ⟨.normal, fr, d, h⟩
  | .ops (i :: l) => match wanted fr i.it.guard with
    | none => none
    | some false => ev E (.ops l) (putD fr i.it.dst (.tup [])) d h
    | some true => match step i.it.op fr h with
      | none => none
      | some (.val x h') => if i.chk.all (again h' fr) then ev E (.ops l) (putD fr i.it.dst x) d h' else none
      | some (.dfr f args) => ev E (.ops l) (putD fr i.it.dst (.tup [])) (⟨f, args⟩ :: d) h
      | some (.call f args) => call E f args h >>= fun r => if i.chk.all (again r.2 fr) then ev E (.ops l) (putD fr i.it.dst r.1) d r.2 else none
partial_fixpoint
def call (E : Env) (f : FuncId) (args : List AV) (h : H) : Option (AV × H) :=
  match E.hook f with
  | some g => g args h
  | none => match E.body f with
    | none => none
    | some b => if b.ntmps < args.length then none else ev E b.code (pad b.ntmps args) [] h >>= fun r => match r.x with
      | .exit _ => none
      | _ => defers E r.d r.h >>= fun h' => (results b r.fr h').bind fun v => some (v, h')
partial_fixpoint
def defers (E : Env) (d : List Df) (h : H) : Option H :=
  match d with
  | [] => some h
  | x :: l => match E.body x.f with
    | none => none
    | some b => if b.ntmps < x.args.length then none else ev E b.code (pad b.ntmps x.args) [] h >>= fun r =>
      if ended r.x && r.d.isEmpty && (results b r.fr r.h).isSome then defers E l r.h else none
partial_fixpoint
end

/- the same with fuel, for closed runs -/
structure Fu where
  ev : AC → List AV → List Df → H → Option Res
  call : FuncId → List AV → H → Option (AV × H)
  defers : List Df → H → Option H

def evF (E : Env) : Nat → Fu
  | 0 => ⟨fun _ _ _ _ => none, fun _ _ _ => none, fun _ _ => none⟩
  | n + 1 => let F := evF E n
    { ev := fun c fr d h => match c with
        | .skip => some ⟨.normal, fr, d, h⟩
        | .exit i => some ⟨.exit i, fr, d, h⟩
        | .ret => some ⟨.ret, fr, d, h⟩
        | .seq a b => (F.ev a fr d h).bind fun r => match r.x with
          | .normal => F.ev b r.fr r.d r.h
          | _ => some r
        | .cond c a b => match opd fr c with
          | .bool true => F.ev a fr d h
          | .bool false => F.ev b fr d h
          | _ => none
        | .block i c => (F.ev c fr d h).bind fun r => match r.x with
          | .exit j => if j = i then some ⟨.normal, r.fr, r.d, r.h⟩ else some r
          | _ => some r
        | .loop m c => (F.ev c (mask m fr) d h).bind fun r => match r.x with
          | .normal => F.ev (.loop m c) r.fr r.d r.h
          | _ => some r
        | .ops [] => some ⟨.normal, fr, d, h⟩
        | .ops (i :: l) => match wanted fr i.it.guard with
          | none => none
          | some false => F.ev (.ops l) (putD fr i.it.dst (.tup [])) d h
          | some true => match step i.it.op fr h with
            | none => none
            | some (.val x h') => if i.chk.all (again h' fr) then F.ev (.ops l) (putD fr i.it.dst x) d h' else none
            | some (.dfr f args) => F.ev (.ops l) (putD fr i.it.dst (.tup [])) (⟨f, args⟩ :: d) h
            | some (.call f args) => (F.call f args h).bind fun r => if i.chk.all (again r.2 fr) then F.ev (.ops l) (putD fr i.it.dst r.1) d r.2 else none
      call := fun f args h => match E.hook f with
        | some g => g args h
        | none => match E.body f with
          | none => none
          | some b => if b.ntmps < args.length then none else (F.ev b.code (pad b.ntmps args) [] h).bind fun r => match r.x with
            | .exit _ => none
            | _ => (F.defers r.d r.h).bind fun h' => (results b r.fr h').bind fun v => some (v, h')
      defers := fun d h => match d with
        | [] => some h
        | x :: l => match E.body x.f with
          | none => none
          | some b => if b.ntmps < x.args.length then none else (F.ev b.code (pad b.ntmps x.args) [] h).bind fun r =>
            if ended r.x && r.d.isEmpty && (results b r.fr r.h).isSome then F.defers l r.h else none }

theorem evF_ev (E : Env) : ∀ n, (∀ c fr d h r, (evF E n).ev c fr d h = some r → ev E c fr d h = some r) ∧
    (∀ f args h r, (evF E n).call f args h = some r → call E f args h = some r) ∧ (∀ d h r, (evF E n).defers d h = some r → defers E d h = some r) := by
  intro n
  induction n with
  | zero => simp [evF]
  | succ n ih =>
    obtain ⟨i1, i2, i3⟩ := ih
    refine ⟨?_, ?_, ?_⟩
    · intro c fr d h r hr
      rw [ev.eq_def]
      cases c with
      | skip => simpa [evF] using hr
      | exit i => simpa [evF] using hr
      | ret => simpa [evF] using hr
      | seq a b =>
        simp only [evF, Option.bind_eq_bind, Option.bind_eq_some_iff] at hr ⊢
        obtain ⟨x, hx, hr⟩ := hr
        refine ⟨x, i1 _ _ _ _ _ hx, ?_⟩
        cases hxx : x.x <;> simp only [hxx] at hr ⊢ <;> first | exact i1 _ _ _ _ _ hr | exact hr
      | cond c a b =>
        simp only [evF] at hr ⊢
        split <;> rename_i hc <;> simp only [hc] at hr
        · exact i1 _ _ _ _ _ hr
        · exact i1 _ _ _ _ _ hr
        · simp at hr
      | block i c =>
        simp only [evF, Option.bind_eq_bind, Option.bind_eq_some_iff] at hr ⊢
        obtain ⟨x, hx, hr⟩ := hr
        exact ⟨x, i1 _ _ _ _ _ hx, hr⟩
      | loop m c =>
        simp only [evF, Option.bind_eq_bind, Option.bind_eq_some_iff] at hr ⊢
        obtain ⟨x, hx, hr⟩ := hr
        refine ⟨x, i1 _ _ _ _ _ hx, ?_⟩
        cases hxx : x.x <;> simp only [hxx] at hr ⊢ <;> first | exact i1 _ _ _ _ _ hr | exact hr
      | ops l =>
        cases l with
        | nil => simpa [evF] using hr
        | cons i l =>
          simp only [evF] at hr ⊢
          cases hw : wanted fr i.it.guard with
          | none => simp [hw] at hr
          | some t =>
            cases t with
            | false => simp only [hw] at hr ⊢; exact i1 _ _ _ _ _ hr
            | true =>
              simp only [hw] at hr ⊢
              cases hs : step i.it.op fr h with
              | none => simp [hs] at hr
              | some s =>
                cases s with
                | val x h' =>
                  simp only [hs] at hr ⊢
                  split at hr
                  · rename_i hc; simp only [hc, if_true]; exact i1 _ _ _ _ _ hr
                  · simp at hr
                | dfr f args => simp only [hs] at hr ⊢; exact i1 _ _ _ _ _ hr
                | call f args =>
                  simp only [hs, Option.bind_eq_bind, Option.bind_eq_some_iff] at hr ⊢
                  obtain ⟨x, hx, hr⟩ := hr
                  refine ⟨x, i2 _ _ _ _ hx, ?_⟩
                  split at hr
                  · rename_i hc; simp only [hc, if_true]; exact i1 _ _ _ _ _ hr
                  · simp at hr
    · intro f args h r hr
      rw [call.eq_def]
      simp only [evF] at hr
      cases hk : E.hook f with
      | some g => simpa [hk] using hr
      | none =>
        simp only [hk] at hr ⊢
        cases hb : E.body f with
        | none => simp [hb] at hr
        | some b =>
          simp only [hb] at hr ⊢
          split at hr
          · simp at hr
          · rename_i hlt
            simp only [hlt, if_false, Option.bind_eq_bind, Option.bind_eq_some_iff] at hr ⊢
            obtain ⟨x, hx, hr⟩ := hr
            refine ⟨x, i1 _ _ _ _ _ hx, ?_⟩
            cases hxx : x.x <;> simp only [hxx, Option.bind_eq_bind, Option.bind_eq_some_iff] at hr ⊢
            · obtain ⟨y, hy, hr⟩ := hr
              exact ⟨y, i3 _ _ _ hy, hr⟩
            · simp at hr
            · obtain ⟨y, hy, hr⟩ := hr
              exact ⟨y, i3 _ _ _ hy, hr⟩
    · intro d h r hr
      rw [defers.eq_def]
      cases d with
      | nil => simpa [evF] using hr
      | cons x l =>
        simp only [evF] at hr ⊢
        cases hb : E.body x.f with
        | none => simp [hb] at hr
        | some b =>
          simp only [hb] at hr ⊢
          split at hr
          · simp at hr
          · rename_i hlt
            simp only [hlt, if_false, Option.bind_eq_bind, Option.bind_eq_some_iff] at hr ⊢
            obtain ⟨y, hy, hr⟩ := hr
            refine ⟨y, i1 _ _ _ _ _ hy, ?_⟩
            split at hr
            · rename_i hc; rw [if_pos hc]; exact i3 _ _ _ hr
            · cases hr

end Go.Kx
/- THE ENGINE, part 2: the compiler from the model's functions to the abstract machine's code. Plain definitions. -/
namespace Go.Kx
open Go

def valC1 : Value → Option AV
  | .bool b => some (.bool b)
  | .int k n => some (.int k n)
  | .string s => some (.str s.data.toList)
  | .pointer none => some .nil
  | .slice none 0 0 => some .nilS
  | .map none => some .nilM
  | .nilFunc => some .nilF
  | .nilIface => some .nilI
  | _ => none
def allC (f : Value → Option AV) : List Value → Option (List AV)
  | [] => some []
  | v :: l => match f v, allC f l with
    | some x, some r => some (x :: r)
    | _, _ => none
def valC2 : Value → Option AV
  | .agg cs => (allC valC1 cs.toList).map .agg
  | v => valC1 v
def valC : Value → Option AV
  | .tuple vs => (allC valC2 vs.toList).map .tup
  | v => valC2 v

section
variable (P : Program)
def opdC : Operand → Option Opd
  | .tmp t => some (.tmp t)
  | .const v => (valC v).map .lit
  | .global g => if g < P.globals.size then some (.glob g) else none
  | .func f => some (.fn f)
def opdsC : List Operand → Option (List Opd)
  | [] => some []
  | v :: l => match opdC P v, opdsC l with
    | some x, some r => some (x :: r)
    | _, _ => none

def szT (t : TypeId) : Option Nat := (P.info? t).map (·.size)
def byT (t : TypeId) : Option Nat := (P.info? t).map (·.bytes)
def zeroT (t : TypeId) : Option AV := match P.info? t with
  | some i => match i.zero with
    | some v => valC2 v
    | none => none
  | none => none
def aggT (t : TypeId) : Option Bool := match P.underlying t with
  | some (.struct _) => some true
  | some (.array ..) => some true
  | some _ => some false
  | none => none

/- types whose == is cell by cell -/
def flatF (p : TypeId → EqT) : Nat → List Field → Option (List Kd)
  | _, [] => some []
  | o, f :: fs => if f.offset = o ∧ f.name ≠ "_" then match p f.type with
      | .leaf k => (flatF p (o + 1) fs).map (k :: ·)
      | .flat ks => (flatF p (o + ks.length) fs).map (ks ++ ·)
      | .no => none else none
def flatT : Nat → TypeId → EqT
  | 0, _ => .no
  | d + 1, t => match P.underlying t with
    | some .bool => .leaf .b
    | some (.int _) => .leaf .i
    | some .string => .leaf .s
    | some (.pointer e) => match szT P e with
      | some n => if n ≠ 0 then .leaf .p else .no
      | none => .no
    | some (.struct fs) => if P.stoodInHeld t then .no else match flatF (flatT d) 0 fs.toList with
      | some ks => if szT P t = some ks.length then .flat ks else .no
      | none => .no
    | _ => .no

def eqT (t : TypeId) : EqT := match P.underlying t with
  | some (.slice _) => .leaf .sl
  | some (.map ..) => .leaf .mp
  | some (.func ..) => .leaf .fn
  | _ => if P.eqGuardType P.depth t then .no else flatT P 8 t

def eqO (op : BinOp) (t : TypeId) : EqT := match op with
  | .eql | .neq => eqT P t
  | _ => .no

def fieldT (t : TypeId) (f : Nat) : Option Field := match P.underlying t with
  | some (.struct fs) => fs[f]?
  | _ => none

def partsF (fs : Array Field) : List (Nat × Operand) → Option (List (Nat × Nat × Opd))
  | [] => some []
  | (i, x) :: r => match fs[i]?, opdC P x, partsF fs r with
    | some f, some y, some l => match szT P f.type with
      | some n => some ((f.offset, n, y) :: l)
      | none => none
    | _, _, _ => none
def partsA (sz : Nat) : List (Nat × Operand) → Option (List (Nat × Nat × Opd))
  | [] => some []
  | (i, x) :: r => match opdC P x, partsA sz r with
    | some y, some l => some ((i * sz, sz, y) :: l)
    | _, _ => none

def plainT (t : TypeId) : Option Kd := match P.underlying t with
  | some .bool => some .b
  | some (.int _) => some .i
  | some .string => some .s
  | _ => none

def optC (x : Option Operand) : Option (Option Opd) := match x with
  | none => some none
  | some x => (opdC P x).map some

def convC (s d : TypeId) (x : Operand) : Option AOp := match P.underlying s, P.underlying d with
  | some (.int _), some (.int k) => (opdC P x).map (.convI k)
  | some .string, some .string => (opdC P x).map .convS
  | some .string, some (.slice e) => match P.underlying e with
    | some (.int .u8) => (opdC P x).map .toB
    | _ => none
  | some (.slice e), some .string => match P.underlying e with
    | some (.int .u8) => (opdC P x).map .toStr
    | _ => none
  | _, _ => none

def buildC (t : TypeId) (ps : List (Nat × Operand)) : Option AOp := match zeroT P t, P.underlying t with
  | some (.agg z), some (.struct fs) => if z.all AV.one ∧ fs.all (fun f => (szT P f.type).isSome) then (partsF P fs ps).map (.build z) else none
  | some (.agg z), some (.array _ e) => match szT P e with
    | some sz => if z.all AV.one then (partsA P sz ps).map (.build z) else none
    | none => none
  | _, _ => none

def rowC (t : TypeId) (n : Nat) (ps : List (Nat × Operand)) : Option AOp := match P.underlying t with
  | some (.slice e) => match szT P e, zeroT P e with
    | some sz, some z => if z.cells.length = sz ∧ z.cells.all AV.one ∧ n * sz ≤ 16777216 ∧ 0 < sz then (partsA P sz ps).map (.row n sz z.cells) else none
    | _, _ => none
  | _ => none

def makeC (t : TypeId) (l c : Operand) : Option AOp := match P.underlying t, opdC P l, opdC P c with
  | some (.slice e), some l, some c => match szT P e, byT P e, zeroT P e with
    | some sz, some b, some z => if z.cells.length = sz ∧ z.cells.all AV.one ∧ 0 < sz ∧ 0 < b then some (.mksl sz b z.cells l c) else none
    | _, _, _ => none
  | _, _, _ => none

def sliceC (t : TypeId) (x : Operand) (lo hi mx : Option Operand) : Option AOp := match P.underlying t, opdC P x, optC P lo, optC P hi, optC P mx with
  | some .string, some x, some lo, some hi, some none => some (.sliceS x lo hi)
  | some (.slice e), some x, some lo, some hi, some mx => match szT P e with
    | some sz => if 0 < sz ∧ (mx.isSome → hi.isSome) then some (.sliceL sz x lo hi mx) else none
    | none => none
  | _, _, _, _, _ => none

def fieldC (t : TypeId) (x : Operand) (f : Nat) : Option AOp := match fieldT P t f, opdC P x with
  | some f, some x => match aggT P f.type, szT P f.type with
    | some true, some n => some (.fieldN f.offset n x)
    | some false, some _ => some (.field f.offset x)
    | _, _ => none
  | _, _ => none

def faddrC (t : TypeId) (x : Operand) (f : Nat) : Option AOp := match fieldT P t f, opdC P x with
  | some f, some x => match szT P f.type with
    | some n => if n ≠ 0 then some (.faddr f.offset x) else none
    | none => none
  | _, _ => none

def iaddrC (t : TypeId) (x i : Operand) : Option AOp := match P.underlying t, opdC P x, opdC P i with
  | some (.slice e), some x, some i => match szT P e with
    | some sz => some (.iaddr sz x i)
    | none => none
  | some (.array n e), some x, some i => match szT P e with
    | some sz => some (.iaddrA n sz x i)
    | none => none
  | _, _, _ => none

def indexC (t : TypeId) (x i : Operand) : Option AOp := match P.underlying t, opdC P x, opdC P i with
  | some .string, some x, some i => some (.idxS x i)
  | some (.array n e), some x, some i => match aggT P e, szT P e with
    | some true, some sz => some (.idxAN n sz x i)
    | some false, some sz => if sz = 1 then some (.idxA n x i) else none
    | _, _ => none
  | _, _, _ => none

def lookC (t : TypeId) (x i : Operand) (ok : Bool) : Option AOp := match P.underlying t, opdC P x, opdC P i with
  | some (.map k e), some x, some i => match zeroT P e, plainT P k with
    | some z, some d => some (.look d z x i ok)
    | _, _ => none
  | _, _, _ => none

def updC (t : TypeId) (m k x : Operand) : Option AOp := match P.underlying t, opdC P m, opdC P k, opdC P x with
  | some (.map kt _), some m, some k, some x => match plainT P kt with
    | some d => some (.upd d m k x)
    | none => none
  | _, _, _, _ => none

def srcT : TypeDesc → Bool
  | .slice _ => true
  | .string => true
  | _ => false

def appC (t u : TypeId) (s x : Operand) : Option AOp := match P.underlying t, P.underlying u, opdC P s, opdC P x with
  | some (.slice e), some d, some s, some x => match szT P e, byT P e, zeroT P e with
    | some sz, some b, some z => if 0 < b ∧ 0 < sz ∧ z.cells.length = sz ∧ srcT d = true then some (.app sz b s x) else none
    | _, _, _ => none
  | _, _, _, _ => none

def copyC (t : TypeId) (d s : Operand) : Option AOp := match P.underlying t, opdC P d, opdC P s with
  | some (.slice e), some d, some s => match szT P e with
    | some sz => some (.copy sz d s)
    | none => none
  | _, _, _ => none

def lenC (t : TypeId) (x : Operand) : Option AOp := match P.underlying t, opdC P x with
  | some .string, some x => some (.lenS x)
  | some (.slice _), some x => some (.lenL x)
  | some (.map ..), some x => some (.lenM x)
  | _, _ => none

def minC (x y : Operand) : Option AOp := match opdC P x, opdC P y with
  | some x, some y => some (.mn x y)
  | _, _ => none
def maxC (x y : Operand) : Option AOp := match opdC P x, opdC P y with
  | some x, some y => some (.mx x y)
  | _, _ => none

def builtinC (b : Builtin) (args : List Operand) (ts : List TypeId) : Option AOp := match b with
  | .append => match args, ts with
    | [s, x], [t, u] => appC P t u s x
    | _, _ => none
  | .copy => match args, ts with
    | [s, x], [t, _] => copyC P t s x
    | _, _ => none
  | .len => match args, ts with
    | [x], [t] => lenC P t x
    | _, _ => none
  | .min => match args with
    | [x, y] => minC P x y
    | _ => none
  | .max => match args with
    | [x, y] => maxC P x y
    | _ => none
  | _ => none

def callC (c : Call) : Option AOp := match c.callee with
  | .builtin b => builtinC P b c.args.toList c.argTypes.toList
  | .value f => match opdC P f, opdsC P c.args.toList with
    | some f, some l => some (.call f l)
    | _, _ => none
  | _ => none

def deferC (c : Call) : Option AOp := match c.callee with
  | .value f => match opdC P f, opdsC P c.args.toList with
    | some f, some l => some (.dfr f l)
    | _, _ => none
  | _ => none

def opC (o : Oper) : Option AOp :=
  match o.op with
  | .move x => (opdC P x).map .mv
  | .assign x => (opdC P x).map .mv
  | .pick c a b => match opdC P c, opdC P a, opdC P b with
    | some c, some a, some b => some (.pick c a b)
    | _, _, _ => none
  | .alloc t => match zeroT P t, szT P t with
    | some z, some n => if z.cells.length = n ∧ z.cells.all AV.one then some (.new z.cells) else none
    | _, _ => none
  | .box t x => match szT P t, opdC P x with
    | some n, some x => some (.box n x)
    | _, _ => none
  | .build t ps => buildC P t ps.toList
  | .buildSlice t n ps => rowC P t n ps.toList
  | .load t x => match aggT P t, szT P t, opdC P x with
    | some true, some n, some x => some (.loadN n x)
    | some false, some _, some x => some (.load x)
    | _, _, _ => none
  | .store t a x => match szT P t, opdC P a, opdC P x with
    | some n, some a, some x => some (.store n a x)
    | _, _, _ => none
  | .nilCheck x => (opdC P x).map .nilck
  | .binOp op t x y _ => match opdC P x, opdC P y with
    | some x, some y => some (.bin op (eqO P op t) x y)
    | _, _ => none
  | .unOp op _ x => (opdC P x).map (.un op)
  | .convert s d x => convC P s d x
  | .makeFunc fn a b => match fn, opdsC P a.toList, opdsC P b.toList with
    | .func f, some a, some b => some (.mkfunc f a b)
    | _, _, _ => none
  | .makeMap t r => match P.underlying t, r with
    | some (.map ..), none => some .mkmap
    | _, _ => none
  | .makeSlice t l c => makeC P t l c
  | .slice t x lo hi mx => sliceC P t x lo hi mx
  | .fieldAddr t x f => faddrC P t x f
  | .field t x f => fieldC P t x f
  | .indexAddr t x i => iaddrC P t x i
  | .index t x i => indexC P t x i
  | .lookup t x i ok => lookC P t x i ok
  | .mapUpdate t m k x => updC P t m k x
  | .insert t m k x => updC P t m k x
  | .extract x i => (opdC P x).map fun x => .ext x i
  | .call c => callC P c
  | .defer c => deferC P c
  | .makeInterface t x => match P.underlying t, opdC P x with
    | some (.interface _), _ => none
    | some _, some x => some (.iface t x)
    | _, _ => none
  | _ => none

def itemC (ops : Array Oper) (o : Oper) : Option Item := match opC P o with
  | none => none
  | some op => match o.guard with
    | none => some ⟨o.dst, op, none⟩
    | some (j, b) => match (ops[j]?).bind (·.dst) with
      | some t => some ⟨o.dst, op, some (t, b)⟩
      | none => none

/- does it act? -/
def effB : AOp → Bool
  | .store .. | .mkmap | .mksl .. | .upd .. | .app .. | .copy .. | .call .. | .dfr .. | .toB _ => true
  | _ => false
/- does it make memory, and nothing else? -/
def newB : AOp → Bool
  | .new _ | .box .. | .row .. => true
  | _ => false
/- does it read memory? -/
def readB : AOp → Bool
  | .load _ | .loadN .. | .look .. | .lenM _ | .toStr _ => true
  | _ => false

/- the slots that an operand, an operation, an item looks at -/
def slotO : Opd → List Nat
  | .tmp t => [t]
  | _ => []
def slotOo : Option Opd → List Nat
  | some x => slotO x
  | none => []
def slotOs : List Opd → List Nat
  | [] => []
  | x :: l => slotO x ++ slotOs l
def slotP : List (Nat × Nat × Opd) → List Nat
  | [] => []
  | (_, _, x) :: l => slotO x ++ slotP l
def slots : AOp → List Nat
  | .mv x | .box _ x | .load x | .loadN _ x | .nilck x | .un _ x | .convI _ x | .convS x | .toStr x | .toB x | .faddr _ x | .field _ x | .fieldN _ _ x | .ext x _ | .lenS x | .lenL x | .lenM x | .iface _ x => slotO x
  | .pick c a b => slotO c ++ (slotO a ++ slotO b)
  | .new _ | .mkmap => []
  | .build _ ps => slotP ps
  | .row _ _ _ ps => slotP ps
  | .store _ a x | .bin _ _ a x | .mksl _ _ _ a x | .iaddr _ a x | .iaddrA _ _ a x | .idxS a x | .idxA _ a x | .idxAN _ _ a x | .look _ _ a x _ | .app _ _ a x | .copy _ a x | .mn a x | .mx a x => slotO a ++ slotO x
  | .mkfunc _ a b => slotOs a ++ slotOs b
  | .sliceS x lo hi => slotO x ++ (slotOo lo ++ slotOo hi)
  | .sliceL _ x lo hi mx => slotO x ++ (slotOo lo ++ (slotOo hi ++ slotOo mx))
  | .upd _ m k x => slotO m ++ (slotO k ++ slotO x)
  | .call f args | .dfr f args => slotO f ++ slotOs args
def namesI (it : Item) : List Nat := slots it.op ++ (match it.guard with | some (t, _) => [t] | none => [])
def writesI (it : Item) (t : Nat) : Bool := match it.dst with
  | some d => d == t
  | none => false
/- do two items touch one slot, one of them writing it? -/
def clash (x y : Item) : Bool := (namesI y).any (writesI x) || (namesI x).any (writesI y) || (match x.dst, y.dst with | some a, some b => a == b | _, _ => false)

def itemsC (ops : Array Oper) : List Oper → Option (List Item)
  | [] => some []
  | o :: l => match itemC P ops o, itemsC ops l with
    | some x, some r => some (x :: r)
    | _, _ => none

/- the order in which a drawn region is walked: what does not act as early as may be -/
def nextI (its : Array Item) (before : Array Nat) (done : Nat) (eff : Bool) : Option Nat :=
  (List.range its.size).find? fun i => !done.testBit i && ((before.getD i 0) &&& done == before.getD i 0) && (match its[i]? with | some it => effB it.op == eff | none => false)
def orderI (its : Array Item) (before : Array Nat) : Nat → Nat → List Nat
  | 0, _ => []
  | f + 1, done => match nextI its before done false with
    | some i => i :: orderI its before f (done ||| 2 ^ i)
    | none => match nextI its before done true with
      | some i => i :: orderI its before f (done ||| 2 ^ i)
      | none => []

/- one place of the canonical order: the item, its index, the indices ahead of it -/
structure Pl where
  ix : Nat
  it : Item
  bf : Nat

/- the drawn region's items, in that order, each with what must be looked at again behind it; done: the places so far; pend: those of them that may still come later -/
def chkI (n : Nat) : List Pl → List Pl → List Pl → Option (List ItemC)
  | _, _, [] => some []
  | done, pend, p :: r =>
    -- every one ahead of it is done; it isn't done itself
    if (List.range n).all (fun j => !p.bf.testBit j || done.any fun q => q.ix == j) && done.all (fun q => q.ix != p.ix) &&
      -- what touches the same slot stands ahead of it
      done.all (fun q => !clash q.it p.it || p.bf.testBit q.ix) &&
      -- what acts stands behind all that acted; what doesn't, behind all that has acted so far
      done.all (fun q => !effB q.it.op || p.bf.testBit q.ix) &&
      -- all that stands ahead of it is here; what may be looked at again doesn't write what it looks at
      Nat.blt p.bf (2 ^ n) && (!(readB p.it.op || newB p.it.op) || !(namesI p.it).any (writesI p.it)) then
      let pend1 := if effB p.it.op then pend.filter fun q => !p.bf.testBit q.ix else pend
      let again := if effB p.it.op || newB p.it.op then pend1.map (·.it) else []
      let pend2 := (if readB p.it.op || newB p.it.op then pend1 ++ [p] else pend1)
      -- what is looked at again finds its slots as they were
      if pend1.all (fun q => r.isEmpty || !((namesI q.it).any (writesI p.it) || (match q.it.dst with | some d => writesI p.it d | none => false))) then
        match chkI n (done ++ [p]) pend2 r with
        | some l => some (⟨p.it, again⟩ :: l)
        | none => none
      else none
    else none

def places (its : Array Item) (bf : Array Nat) : List Nat → Option (List Pl)
  | [] => some []
  | i :: l => match its[i]?, places its bf l with
    | some it, some r => some (⟨i, it, bf.getD i 0⟩ :: r)
    | _, _ => none

def drawC (ops : Array Oper) : Option (List ItemC) := match itemsC P ops ops.toList with
  | none => none
  | some l =>
    let its := l.toArray
    let bf := Region.before ops
    match places its bf (orderI its bf its.size 0) with
    | some ps => if (List.range its.size).all (fun i => ps.any fun q => q.ix == i) then chkI its.size [] [] ps else none
    | none => none

def codeC : Code → List (List Bool) → Option (AC × List (List Bool))
  | .skip, m => some (.skip, m)
  | .region _ ops false, m => (itemsC P ops ops.toList).map fun l => (.ops (l.map fun i => ⟨i, []⟩), m)
  | .region _ ops true, m => (drawC P ops).map fun l => (.ops l, m)
  | .seq a b, m => match codeC a m with
    | some (x, m) => match codeC b m with
      | some (y, m) => some (.seq x y, m)
      | none => none
    | none => none
  | .cond c a b, m => match opdC P c, codeC a m with
    | some c, some (x, m) => match codeC b m with
      | some (y, m) => some (.cond c x y, m)
      | none => none
    | _, _ => none
  | .block i c, m => match codeC c m with
    | some (x, m) => some (.block i x, m)
    | none => none
  | .loop c, m => match codeC c m.tail with
    | some (x, r) => some (.loop (m.headD []) x, r)
    | none => none
  | .exit i, m => some (.exit i, m)
  | .ret, m => some (.ret, m)
  | .label _, m => some (.skip, m)
  | .scope c, m => codeC c m
  | _, _ => none

def resC : ResultVar → Option ARes
  | .tmp t => some (.tmp t)
  | .cell a t => match aggT P t, szT P t with
    | some true, some n => some (.cellN n a)
    | some false, some _ => some (.cell a)
    | _, _ => none
def ressC : List ResultVar → Option (List ARes)
  | [] => some []
  | r :: l => match resC P r, ressC l with
    | some x, some y => some (x :: y)
    | _, _ => none

def fnC (f : FuncId) (m : List (List Bool)) : Option AFn := match P.funcs[f]? with
  | none => none
  | some fn => if fn.name = "runtime.NumGoroutine" then none else match fn.body with
    | none => none
    | some c => match codeC P c m, ressC P fn.results.toList with
      | some (x, _), some r => some ⟨fn.ntmps, x, r⟩
      | _, _ => none
end
end Go.Kx
