/- THE ENGINE, part 3: what it means that the abstract machine's values and heap stand for the model's; the laws of that relation. -/
import Derived.Deep.AppendSrc
import Derived.Deep.Upon
import Derived.Room.Entries
import Derived.Laws.StructEq
import Derived.Laws.Slices
import Derived.Test.YtmafgdnlggoljaaGreatDoorE1
namespace Go.Kx
open Go

structure Rl where
  c : Nat → Nat → Option (Nat × Nat × Nat × Nat)
  m : Nat → Option Nat

mutual
inductive VR (R : Rl) : AV → Value → Prop
  | undef (v : Value) : VR R .undef v
  | bool (b : Bool) : VR R (.bool b) (.bool b)
  | int (k : IntKind) (n : Int) : VR R (.int k n) (.int k n)
  | str (l : List UInt8) (s : ByteArray) (h : s.data.toList = l) : VR R (.str l) (.string s)
  | nil : VR R .nil (.pointer none)
  | ptr (i v o b sh ps L : Nat) (h : R.c i v = some (b, sh, ps, L)) : VR R (.ptr i v o) (.pointer (some ⟨b, sh + o, none⟩))
  | nilS : VR R .nilS (.slice none 0 0)
  | slice (i v o n sz b sh ps L cap : Nat) (full : Bool) (h : R.c i v = some (b, sh, ps, L)) (hl : o + n * sz ≤ L) (hc : n ≤ cap)
      (hp : sh + o + cap * sz ≤ ps) (hf : full = true → cap = n) (hz : 0 < sz) :
      VR R (.slice i v o n sz full) (.slice (some ⟨b, sh + o, none⟩) n cap)
  | slice0 (i v o sz b sh ps L : Nat) (full : Bool) (a : Addr) (h : R.c i v = some (b, sh, ps, L)) (hl : o ≤ L) (hz : 0 < sz) :
      VR R (.slice i v o 0 sz full) (.slice (some a) 0 0)
  | nilM : VR R .nilM (.map none)
  | map (i b : Nat) (h : R.m i = some b) : VR R (.map i) (.map (some b))
  | nilF : VR R .nilF .nilFunc
  | func (f : FuncId) (a b : List AV) (x y : Array Value) (ha : VRs R a x.toList) (hb : VRs R b y.toList) : VR R (.func f a b) (.func (.func f) x y)
  | nilI : VR R .nilI .nilIface
  | iface (t : TypeId) (x : AV) (y : Value) (h : VR R x y) : VR R (.iface t x) (.iface t y)
  | agg (l : List AV) (cs : Array Value) (h : VRs R l cs.toList) : VR R (.agg l) (.agg cs)
  | tup (l : List AV) (cs : Array Value) (h : VRs R l cs.toList) : VR R (.tup l) (.tuple cs)
inductive VRs (R : Rl) : List AV → List Value → Prop
  | nil : VRs R [] []
  | cons (x : AV) (l : List AV) (y : Value) (m : List Value) (h : VR R x y) (hs : VRs R l m) : VRs R (x :: l) (y :: m)
end

/- R' extends R; what is new concerns objects already known, or those from nx on -/
structure Ext (nx : Nat) (R R' : Rl) : Prop where
  c : ∀ i v x, R.c i v = some x → R'.c i v = some x
  m : ∀ i b, R.m i = some b → R'.m i = some b
  cn : ∀ i v x, R'.c i v = some x → (∃ u y, R.c i u = some y) ∨ nx ≤ i
  mn : ∀ i b, R'.m i = some b → R.m i = some b ∨ nx ≤ i

theorem Ext.refl (nx : Nat) (R : Rl) : Ext nx R R := ⟨fun _ _ _ h => h, fun _ _ h => h, fun _ _ _ h => .inl ⟨_, _, h⟩, fun _ _ h => .inl h⟩
theorem Ext.trans {n m : Nat} {R S T : Rl} (a : Ext n R S) (b : Ext m S T) (h : n ≤ m) : Ext n R T where
  c i v x hx := b.c _ _ _ (a.c _ _ _ hx)
  m i x hx := b.m _ _ (a.m _ _ hx)
  cn i v x hx := by
    rcases b.cn _ _ _ hx with ⟨u, y, hy⟩ | hn
    · exact a.cn _ _ _ hy
    · exact .inr (by omega)
  mn i x hx := by
    rcases b.mn _ _ hx with hy | hn
    · exact a.mn _ _ hy
    · exact .inr (by omega)

mutual
theorem VR.mono {R R' : Rl} (hc : ∀ i v x, R.c i v = some x → R'.c i v = some x) (hm : ∀ i b, R.m i = some b → R'.m i = some b) :
    ∀ {x : AV} {y : Value}, VR R x y → VR R' x y
  | _, _, .undef v => .undef v
  | _, _, .bool b => .bool b
  | _, _, .int k n => .int k n
  | _, _, .str l s h => .str l s h
  | _, _, .nil => .nil
  | _, _, .ptr i v o b sh ps L h => .ptr i v o b sh ps L (hc _ _ _ h)
  | _, _, .nilS => .nilS
  | _, _, .slice i v o n sz b sh ps L cap full h hl hcp hp hf hz => .slice i v o n sz b sh ps L cap full (hc _ _ _ h) hl hcp hp hf hz
  | _, _, .slice0 i v o sz b sh ps L full a h hl hz => .slice0 i v o sz b sh ps L full a (hc _ _ _ h) hl hz
  | _, _, .nilM => .nilM
  | _, _, .map i b h => .map i b (hm _ _ h)
  | _, _, .nilF => .nilF
  | _, _, .func f a b x y ha hb => .func f a b x y (VRs.mono hc hm ha) (VRs.mono hc hm hb)
  | _, _, .nilI => .nilI
  | _, _, .iface t x y h => .iface t x y (VR.mono hc hm h)
  | _, _, .agg l cs h => .agg l cs (VRs.mono hc hm h)
  | _, _, .tup l cs h => .tup l cs (VRs.mono hc hm h)
theorem VRs.mono {R R' : Rl} (hc : ∀ i v x, R.c i v = some x → R'.c i v = some x) (hm : ∀ i b, R.m i = some b → R'.m i = some b) :
    ∀ {x : List AV} {y : List Value}, VRs R x y → VRs R' x y
  | _, _, .nil => .nil
  | _, _, .cons x l y m h hs => .cons x l y m (VR.mono hc hm h) (VRs.mono hc hm hs)
end
theorem VR.ext {n : Nat} {R R' : Rl} (e : Ext n R R') {x : AV} {y : Value} (h : VR R x y) : VR R' x y := h.mono e.c e.m
theorem VRs.ext {n : Nat} {R R' : Rl} (e : Ext n R R') {x : List AV} {y : List Value} (h : VRs R x y) : VRs R' x y := h.mono e.c e.m

/- lists -/
section
variable {R : Rl}
theorem VRs.length : ∀ {l : List AV} {m : List Value}, VRs R l m → l.length = m.length
  | _, _, .nil => rfl
  | _, _, .cons _ _ _ _ _ hs => by simp [hs.length]
theorem VRs.get : ∀ {l : List AV} {m : List Value}, VRs R l m → ∀ (j : Nat) (x : AV), l[j]? = some x → ∃ y, m[j]? = some y ∧ VR R x y
  | _, _, .nil, j, x, h => by simp at h
  | _, _, .cons a l b m h hs, 0, x, hx => by simp at hx; subst hx; exact ⟨b, by simp, h⟩
  | _, _, .cons a l b m h hs, j + 1, x, hx => by simp at hx; obtain ⟨y, hy, hr⟩ := hs.get j x hx; exact ⟨y, by simpa using hy, hr⟩
theorem VRs.of_get : ∀ {l : List AV} {m : List Value}, l.length = m.length → (∀ (j : Nat) x y, l[j]? = some x → m[j]? = some y → VR R x y) → VRs R l m
  | [], [], _, _ => .nil
  | a :: l, b :: m, hl, h => .cons a l b m (h 0 a b (by simp) (by simp)) (VRs.of_get (by simpa using hl) fun j x y hx hy => h (j + 1) x y (by simpa using hx) (by simpa using hy))
theorem VRs.append : ∀ {l l' : List AV} {m m' : List Value}, VRs R l m → VRs R l' m' → VRs R (l ++ l') (m ++ m')
  | _, _, _, _, .nil, h' => h'
  | _, _, _, _, .cons a l b m h hs, h' => .cons a _ b _ h (hs.append h')
theorem VRs.take : ∀ {l : List AV} {m : List Value} (n : Nat), VRs R l m → VRs R (l.take n) (m.take n)
  | _, _, 0, _ => by simpa using VRs.nil
  | _, _, n + 1, .nil => by simpa using VRs.nil
  | _, _, n + 1, .cons a l b m h hs => by simpa using VRs.cons a _ b _ h (hs.take n)
theorem VRs.drop : ∀ {l : List AV} {m : List Value} (n : Nat), VRs R l m → VRs R (l.drop n) (m.drop n)
  | _, _, 0, h => by simpa using h
  | _, _, n + 1, .nil => by simpa using VRs.nil
  | _, _, n + 1, .cons a l b m h hs => by simpa using hs.drop n
theorem VR.cells {x : AV} {y : Value} (h : VR R x y) (hx : x ≠ .undef) : VRs R x.cells y.cells.toList := by
  cases h <;> first | exact absurd rfl hx | (simp only [AV.cells, Value.cells]; assumption) | exact .cons _ _ _ _ (by constructor <;> assumption) .nil
theorem VR.one {x : AV} {y : Value} (h : VR R x y) (hx : x.one = true) : y.oneCell' = true := by
  cases h <;> first | rfl | simp [AV.one] at hx
theorem one_ne {x : AV} (hx : x.one = true) : x ≠ .undef := by rintro rfl; simp [AV.one] at hx
theorem cells_ne {x : AV} (hx : x.cells.all AV.one = true) : x ≠ .undef := by rintro rfl; simp [AV.cells, AV.one] at hx
theorem VRs.ones : ∀ {l : List AV} {m : List Value}, VRs R l m → l.all AV.one = true → ∀ v ∈ m, v.oneCell' = true
  | _, _, .nil, _, v, hv => by simp at hv
  | _, _, .cons a l b m h hs, hl, v, hv => by
    simp only [List.all_cons, Bool.and_eq_true] at hl
    rcases List.mem_cons.1 hv with rfl | hv
    · exact h.one hl.1
    · exact hs.ones hl.2 v hv
end

def aliveC (h : H) (i v : Nat) : Prop := ∃ ob, h.get i = some ob ∧ ob.lo ≤ v

inductive ERs (R : Rl) : List (AV × AV) → List MapEntry → Prop
  | nil : ERs R [] []
  | cons (k x : AV) (l : List (AV × AV)) (e : MapEntry) (m : List MapEntry) (hk : VR R k e.key) (hx : VR R x e.val) (hs : ERs R l m) : ERs R ((k, x) :: l) (e :: m)

theorem ERs.mono {R R' : Rl} (hc : ∀ i v x, R.c i v = some x → R'.c i v = some x) (hm : ∀ i b, R.m i = some b → R'.m i = some b) :
    ∀ {x : List (AV × AV)} {y : List MapEntry}, ERs R x y → ERs R' x y
  | _, _, .nil => .nil
  | _, _, .cons k x l e m hk hx hs => .cons k x l e m (hk.mono hc hm) (hx.mono hc hm) (hs.mono hc hm)

def CellOK (R : Rl) (w : World) (v b sh ps L : Nat) (ob : Obj) : Prop :=
  ∃ (arr : Array Value) (T : TypeId) (fz : Nat × Nat), w.heap[b]? = some (.cells arr T fz) ∧ arr.size = ps ∧ sh + L ≤ ps ∧ L ≤ ob.l.length ∧ (v = ob.hi → L = ob.l.length) ∧
    (ob.ro = false → ∀ j < ps, ¬ (fz.1 ≤ j ∧ j < fz.2)) ∧ ∀ (j : Nat) (x : AV), j < L → ob.l[j]? = some x → ∃ c, arr[sh + j]? = some c ∧ VR R x c

structure WR (G : Nat) (R : Rl) (h : H) (w : World) : Prop where
  cell : ∀ i v b sh ps L ob, R.c i v = some (b, sh, ps, L) → h.get i = some ob → ob.lo ≤ v → CellOK R w v b sh ps L ob
  ver : ∀ i v x ob, R.c i v = some x → h.get i = some ob → v ≤ ob.hi
  sep : ∀ i v i' v' b sh sh' ps ps' L L', R.c i v = some (b, sh, ps, L) → R.c i' v' = some (b, sh', ps', L') → aliveC h i v → aliveC h i' v' → i = i' ∧ sh = sh'
  map : ∀ i b es, R.m i = some b → h.gm i = some es → ∃ mes clk, w.heap[b]? = some (.map mes clk) ∧ ERs R es mes.toList
  mone : ∀ i j b, R.m i = some b → R.m j = some b → i = j
  ltc : ∀ i v x, R.c i v = some x → i < h.nx
  ltm : ∀ i b, R.m i = some b → i < h.nx
  mlt : ∀ i b, R.m i = some b → b < w.heap.size
  lohi : ∀ i ob, h.get i = some ob → ob.lo ≤ ob.hi
  ones : ∀ i ob, h.get i = some ob → ob.l.all AV.one = true
  glob : ∀ g, g < G → ∃ ps L, R.c g 0 = some (g, 0, ps, L)

/- may this block be written? -/
def Wrt (R : Rl) (h : H) (b : Nat) : Prop :=
  (∃ i v sh ps L ob, R.c i v = some (b, sh, ps, L) ∧ h.get i = some ob ∧ ob.lo ≤ v ∧ ob.ro = false) ∨ ∃ i es, R.m i = some b ∧ h.gm i = some es

/- one step of the world -/
structure Go2 (G : Nat) (R : Rl) (h : H) (w : World) (R' : Rl) (h' : H) (w' : World) : Prop where
  ext : Ext h.nx R R'
  wr : WR G R' h' w'
  nx : h.nx ≤ h'.nx
  size : w.heap.size ≤ w'.heap.size
  same : ∀ b, b < w.heap.size → ¬ Wrt R h b → w'.heap[b]? = w.heap[b]?
  wrt : ∀ b, b < w.heap.size → Wrt R' h' b → Wrt R h b
  os : w'.os = w.os
  out : w'.output = w.output
  tape : w'.tape = w.tape

theorem Go2.refl {G : Nat} {R : Rl} {h : H} {w : World} (hw : WR G R h w) : Go2 G R h w R h w :=
  ⟨Ext.refl _ _, hw, Nat.le_refl _, Nat.le_refl _, fun _ _ _ => rfl, fun _ _ h => h, rfl, rfl, rfl⟩
theorem Go2.trans {G : Nat} {R S T : Rl} {h h' h'' : H} {w w' w'' : World} (a : Go2 G R h w S h' w') (b : Go2 G S h' w' T h'' w'') : Go2 G R h w T h'' w'' where
  ext := a.ext.trans b.ext a.nx
  wr := b.wr
  nx := Nat.le_trans a.nx b.nx
  size := Nat.le_trans a.size b.size
  same x hx hn := by rw [b.same x (Nat.lt_of_lt_of_le hx a.size) fun hh => hn (a.wrt x hx hh), a.same x hx hn]
  wrt x hx hn := a.wrt x hx (b.wrt x (Nat.lt_of_lt_of_le hx a.size) hn)
  os := b.os.trans a.os
  out := b.out.trans a.out
  tape := b.tape.trans a.tape

/- the world may draw -/
theorem WR.drawn {G : Nat} {R : Rl} {h : H} {w w' : World} (hw : WR G R h w) (e : w'.heap = w.heap) : WR G R h w' := by
  refine ⟨?_, hw.ver, hw.sep, ?_, hw.mone, hw.ltc, hw.ltm, by rw [e]; exact hw.mlt, hw.lohi, hw.ones, hw.glob⟩
  · intro i v b sh ps L ob h1 h2 h3
    obtain ⟨arr, T, fz, g, r⟩ := hw.cell i v b sh ps L ob h1 h2 h3
    exact ⟨arr, T, fz, by rw [e]; exact g, r⟩
  · intro i b es h1 h2
    rw [e]; exact hw.map i b es h1 h2
theorem Go2.drawn {G : Nat} {R : Rl} {h : H} {w : World} (hw : WR G R h w) (n : Nat) : Go2 G R h w R h { w with drawn := n } :=
  ⟨Ext.refl _ _, hw.drawn rfl, Nat.le_refl _, Nat.le_refl _, fun _ _ _ => rfl, fun _ _ h => h, rfl, rfl, rfl⟩

section heap
theorem H.get_new_self (h : H) (l : List AV) : (h.new l).get h.nx = some ⟨0, 0, false, l⟩ := Tr.get_set_same _ _ _
theorem H.get_new_ne (h : H) (l : List AV) (i : Nat) (hi : i ≠ h.nx) : (h.new l).get i = h.get i := Tr.get_set_ne _ _ _ _ hi
theorem H.gm_new (h : H) (l : List AV) (i : Nat) : (h.new l).gm i = h.gm i := rfl
theorem H.nx_new (h : H) (l : List AV) : (h.new l).nx = h.nx + 1 := rfl
theorem H.get_newm (h : H) (i : Nat) : h.newm.get i = h.get i := rfl
theorem H.gm_newm_self (h : H) : h.newm.gm h.nx = some [] := Tr.get_set_same _ _ _
theorem H.gm_newm_ne (h : H) (i : Nat) (hi : i ≠ h.nx) : h.newm.gm i = h.gm i := Tr.get_set_ne _ _ _ _ hi
theorem H.nx_newm (h : H) : h.newm.nx = h.nx + 1 := rfl
theorem H.get_put_self (h : H) (i : Nat) (o : Obj) : (h.put i o).get i = some o := Tr.get_set_same _ _ _
theorem H.get_put_ne (h : H) (i j : Nat) (o : Obj) (hi : j ≠ i) : (h.put i o).get j = h.get j := Tr.get_set_ne _ _ _ _ hi
theorem H.gm_put (h : H) (i j : Nat) (o : Obj) : (h.put i o).gm j = h.gm j := rfl
theorem H.nx_put (h : H) (i : Nat) (o : Obj) : (h.put i o).nx = h.nx := rfl
theorem H.get_putm (h : H) (i j : Nat) (o : List (AV × AV)) : (h.putm i o).get j = h.get j := rfl
theorem H.gm_putm_self (h : H) (i : Nat) (o : List (AV × AV)) : (h.putm i o).gm i = some o := Tr.get_set_same _ _ _
theorem H.gm_putm_ne (h : H) (i j : Nat) (o : List (AV × AV)) (hi : j ≠ i) : (h.putm i o).gm j = h.gm j := Tr.get_set_ne _ _ _ _ hi
theorem H.nx_putm (h : H) (i : Nat) (o : List (AV × AV)) : (h.putm i o).nx = h.nx := rfl
end heap

def Rl.add (R : Rl) (i v b sh ps L : Nat) : Rl := { R with c := fun j u => if j = i ∧ u = v then some (b, sh, ps, L) else R.c j u }
def Rl.addm (R : Rl) (i b : Nat) : Rl := { R with m := fun j => if j = i then some b else R.m j }

end Go.Kx
/- THE ENGINE, part 4: memory: making blocks, reading and writing cells, in the model's world and in the abstract heap. -/
namespace Go.Kx
open Go

/- a block made -/
def World.mk1 (w : World) (o : Go.Obj) : World := { w with heap := w.heap.push o }
theorem push_lt (w : World) (o : Go.Obj) (b : Nat) (h : b < w.heap.size) : (w.heap.push o)[b]? = w.heap[b]? := by
  simp [Array.getElem?_push, Nat.ne_of_lt h]
theorem push_eq (w : World) (o : Go.Obj) : (w.heap.push o)[w.heap.size]? = some o := by simp

section
variable {G : Nat} {R : Rl} {h : H} {w : World}

theorem WR.none_nx (hw : WR G R h w) (v : Nat) : R.c h.nx v = none := by
  cases hh : R.c h.nx v with
  | none => rfl
  | some x => exact absurd (hw.ltc _ _ _ hh) (Nat.lt_irrefl _)
theorem WR.nonem_nx (hw : WR G R h w) : R.m h.nx = none := by
  cases hh : R.m h.nx with
  | none => rfl
  | some x => exact absurd (hw.ltm _ _ hh) (Nat.lt_irrefl _)
theorem WR.blk_lt (hw : WR G R h w) {i v b sh ps L : Nat} (hr : R.c i v = some (b, sh, ps, L)) (ha : aliveC h i v) : b < w.heap.size := by
  obtain ⟨ob, ho, hl⟩ := ha
  obtain ⟨arr, T, fz, g, _⟩ := hw.cell _ _ _ _ _ _ _ hr ho hl
  exact (Array.getElem?_eq_some_iff.1 g).1
theorem WR.map_lt (hw : WR G R h w) {i b : Nat} {es : List (AV × AV)} (hr : R.m i = some b) (ho : h.gm i = some es) : b < w.heap.size := by
  obtain ⟨mes, clk, g, _⟩ := hw.map _ _ _ hr ho
  exact (Array.getElem?_eq_some_iff.1 g).1

theorem CellOK.ext {R R' : Rl} {w w' : World} {v b sh ps L : Nat} {ob : Obj} (hc : ∀ i v x, R.c i v = some x → R'.c i v = some x) (hm : ∀ i b, R.m i = some b → R'.m i = some b)
    (hb : w'.heap[b]? = w.heap[b]?) (hk : CellOK R w v b sh ps L ob) : CellOK R' w' v b sh ps L ob := by
  obtain ⟨arr, T, fz, h1, h2, h3, h4, h5, h6, h7⟩ := hk
  refine ⟨arr, T, fz, by rw [hb]; exact h1, h2, h3, h4, h5, h6, ?_⟩
  intro j x hj hx
  obtain ⟨c, hc', hv⟩ := h7 j x hj hx
  exact ⟨c, hc', hv.mono hc hm⟩

theorem add_c_ne {R : Rl} {i v b sh ps L j u : Nat} (h : ¬ (j = i ∧ u = v)) : (R.add i v b sh ps L).c j u = R.c j u := if_neg h
theorem add_c_self {R : Rl} {i v b sh ps L : Nat} : (R.add i v b sh ps L).c i v = some (b, sh, ps, L) := if_pos ⟨rfl, rfl⟩

/- THE LAW OF A NEW ROW OF CELLS -/
theorem new_cells (hw : WR G R h w) (l : List AV) (arr : Array Value) (T : TypeId) (fz : Nat × Nat) (hfz : ∀ j < arr.size, ¬ (fz.1 ≤ j ∧ j < fz.2))
    (hlen : l.length ≤ arr.size) (h1 : l.all AV.one = true) (hv : ∀ (j : Nat) (x : AV), l[j]? = some x → ∃ c, arr[j]? = some c ∧ VR R x c) :
    Go2 G R h w (R.add h.nx 0 w.heap.size 0 arr.size l.length) (h.new l) (World.mk1 w (.cells arr T fz)) := by
  have hn := hw.none_nx
  have ec : ∀ i v x, R.c i v = some x → (R.add h.nx 0 w.heap.size 0 arr.size l.length).c i v = some x := by
    intro i v x hx
    have : i ≠ h.nx := fun e => by rw [e, hn] at hx; cases hx
    rw [add_c_ne (fun hh => this hh.1)]; exact hx
  have em : ∀ i b, R.m i = some b → (R.add h.nx 0 w.heap.size 0 arr.size l.length).m i = some b := fun _ _ hh => hh
  have alive_old : ∀ i v, i ≠ h.nx → (aliveC (h.new l) i v ↔ aliveC h i v) := by
    intro i v hi
    unfold aliveC
    rw [H.get_new_ne _ _ _ hi]
  refine ⟨⟨ec, em, ?_, fun i b hh => .inl hh⟩, ?_, by simp [H.nx_new], by simp [World.mk1], ?_, ?_, rfl, rfl, rfl⟩
  · intro i v x hx
    by_cases hi : i = h.nx
    · exact .inr (by omega)
    · rw [add_c_ne (fun hh => hi hh.1)] at hx; exact .inl ⟨v, x, hx⟩
  · refine ⟨?_, ?_, ?_, ?_, hw.mone, ?_, ?_, fun i b hh => by simp only [World.mk1, Array.size_push]; exact Nat.lt_succ_of_lt (hw.mlt i b hh), ?_, ?_, ?_⟩
    · intro i v b sh ps L ob h1 h2 h3
      by_cases hi : i = h.nx
      · subst hi
        rw [H.get_new_self] at h2; cases h2
        by_cases hv0 : v = 0
        · subst hv0
          rw [add_c_self] at h1; cases h1
          refine ⟨arr, T, fz, push_eq _ _, rfl, by omega, Nat.le_refl _, fun _ => rfl, fun _ => hfz, ?_⟩
          intro j x hj hx
          obtain ⟨c, hc, hr⟩ := hv j x hx
          exact ⟨c, by simpa using hc, hr.mono ec em⟩
        · rw [add_c_ne (fun hh => hv0 hh.2), hn] at h1; cases h1
      · rw [H.get_new_ne _ _ _ hi] at h2
        rw [add_c_ne (fun hh => hi hh.1)] at h1
        exact (hw.cell _ _ _ _ _ _ _ h1 h2 h3).ext ec em (push_lt _ _ _ (hw.blk_lt h1 ⟨ob, h2, h3⟩))
    · intro i v x ob h1 h2
      by_cases hi : i = h.nx
      · subst hi
        rw [H.get_new_self] at h2; cases h2
        by_cases hv0 : v = 0
        · omega
        · rw [add_c_ne (fun hh => hv0 hh.2), hn] at h1; cases h1
      · rw [H.get_new_ne _ _ _ hi] at h2
        rw [add_c_ne (fun hh => hi hh.1)] at h1
        exact hw.ver _ _ _ _ h1 h2
    · intro i v i' v' b sh sh' ps ps' L L' h1 h2 a1 a2
      by_cases hi : i = h.nx <;> by_cases hi' : i' = h.nx
      · subst hi; subst hi'
        refine ⟨rfl, ?_⟩
        by_cases hv0 : v = 0 <;> by_cases hv0' : v' = 0
        · subst hv0; subst hv0'; rw [h1] at h2; cases h2; rfl
        · rw [add_c_ne (fun hh => hv0' hh.2), hn] at h2; cases h2
        · rw [add_c_ne (fun hh => hv0 hh.2), hn] at h1; cases h1
        · rw [add_c_ne (fun hh => hv0 hh.2), hn] at h1; cases h1
      · subst hi
        rw [add_c_ne (fun hh => hi' hh.1)] at h2
        have hlt := hw.blk_lt h2 ((alive_old _ _ hi').1 a2)
        by_cases hv0 : v = 0
        · subst hv0; rw [add_c_self] at h1; cases h1; exact absurd hlt (Nat.lt_irrefl _)
        · rw [add_c_ne (fun hh => hv0 hh.2), hn] at h1; cases h1
      · subst hi'
        rw [add_c_ne (fun hh => hi hh.1)] at h1
        have hlt := hw.blk_lt h1 ((alive_old _ _ hi).1 a1)
        by_cases hv0 : v' = 0
        · subst hv0; rw [add_c_self] at h2; cases h2; exact absurd hlt (Nat.lt_irrefl _)
        · rw [add_c_ne (fun hh => hv0 hh.2), hn] at h2; cases h2
      · rw [add_c_ne (fun hh => hi hh.1)] at h1
        rw [add_c_ne (fun hh => hi' hh.1)] at h2
        exact hw.sep _ _ _ _ _ _ _ _ _ _ _ h1 h2 ((alive_old _ _ hi).1 a1) ((alive_old _ _ hi').1 a2)
    · intro i b es h1 h2
      obtain ⟨mes, clk, g, hr⟩ := hw.map i b es h1 h2
      exact ⟨mes, clk, by rw [show (World.mk1 w (.cells arr T fz)).heap = w.heap.push _ from rfl, push_lt _ _ _ (hw.map_lt h1 h2)]; exact g, hr.mono ec em⟩
    · intro i v x h1
      by_cases hi : i = h.nx
      · rw [H.nx_new]; omega
      · rw [add_c_ne (fun hh => hi hh.1)] at h1
        have := hw.ltc _ _ _ h1; rw [H.nx_new]; omega
    · intro i b h1
      have := hw.ltm _ _ h1; rw [H.nx_new]; omega
    · intro i ob ho
      by_cases hi : i = h.nx
      · subst hi; rw [H.get_new_self] at ho; cases ho; exact Nat.le_refl _
      · rw [H.get_new_ne _ _ _ hi] at ho; exact hw.lohi _ _ ho
    · intro i ob ho
      by_cases hi : i = h.nx
      · subst hi; rw [H.get_new_self] at ho; cases ho; exact h1
      · rw [H.get_new_ne _ _ _ hi] at ho; exact hw.ones _ _ ho
    · intro g hg
      obtain ⟨ps, L, hh⟩ := hw.glob g hg
      exact ⟨ps, L, ec _ _ _ hh⟩
  · intro b hb _
    exact push_lt _ _ _ hb
  · intro b hb hwr
    rcases hwr with ⟨i, v, sh, ps, L, ob, h1, h2, h3, h4⟩ | ⟨i, es, h1, h2⟩
    · by_cases hi : i = h.nx
      · subst hi
        by_cases hv0 : v = 0
        · subst hv0; rw [add_c_self] at h1; cases h1; exact absurd hb (Nat.lt_irrefl _)
        · rw [add_c_ne (fun hh => hv0 hh.2), hn] at h1; cases h1
      · rw [H.get_new_ne _ _ _ hi] at h2
        rw [add_c_ne (fun hh => hi hh.1)] at h1
        exact .inl ⟨i, v, sh, ps, L, ob, h1, h2, h3, h4⟩
    · exact .inr ⟨i, es, h1, h2⟩

/- THE LAW OF A NEW MAP -/
theorem new_map (hw : WR G R h w) : Go2 G R h w (R.addm h.nx w.heap.size) h.newm (World.mk1 w (.map #[] 0)) := by
  have hn := hw.nonem_nx
  have ec : ∀ i v x, R.c i v = some x → (R.addm h.nx w.heap.size).c i v = some x := fun _ _ _ hh => hh
  have em : ∀ i b, R.m i = some b → (R.addm h.nx w.heap.size).m i = some b := by
    intro i b hh
    have : i ≠ h.nx := fun e => by rw [e, hn] at hh; cases hh
    exact (if_neg this).trans hh
  have ms : (R.addm h.nx w.heap.size).m h.nx = some w.heap.size := if_pos rfl
  have mo : ∀ i, i ≠ h.nx → (R.addm h.nx w.heap.size).m i = R.m i := fun i hi => if_neg hi
  refine ⟨⟨ec, em, fun i v x hh => .inl ⟨v, x, hh⟩, ?_⟩, ?_, by simp [H.nx_newm], by simp [World.mk1], ?_, ?_, rfl, rfl, rfl⟩
  · intro i b hh
    by_cases hi : i = h.nx
    · exact .inr (by omega)
    · rw [mo _ hi] at hh; exact .inl hh
  · refine ⟨?_, hw.ver, hw.sep, ?_, ?_, ?_, ?_, ?_, hw.lohi, hw.ones, hw.glob⟩
    · intro i v b sh ps L ob h1 h2 h3
      exact (hw.cell _ _ _ _ _ _ _ h1 h2 h3).ext ec em (push_lt _ _ _ (hw.blk_lt h1 ⟨ob, h2, h3⟩))
    · intro i b es h1 h2
      by_cases hi : i = h.nx
      · subst hi
        rw [ms] at h1; cases h1
        rw [H.gm_newm_self] at h2; cases h2
        exact ⟨#[], 0, push_eq _ _, .nil⟩
      · rw [mo _ hi] at h1
        rw [H.gm_newm_ne _ _ hi] at h2
        obtain ⟨mes, clk, g, hr⟩ := hw.map i b es h1 h2
        exact ⟨mes, clk, by rw [show (World.mk1 w (.map #[] 0)).heap = w.heap.push _ from rfl, push_lt _ _ _ (hw.map_lt h1 h2)]; exact g, hr.mono ec em⟩
    · intro i j b h1 h2
      by_cases hi : i = h.nx <;> by_cases hj : j = h.nx
      · omega
      · subst hi; rw [ms] at h1; cases h1; rw [mo _ hj] at h2; exact absurd (hw.mlt _ _ h2) (Nat.lt_irrefl _)
      · subst hj; rw [ms] at h2; cases h2; rw [mo _ hi] at h1; exact absurd (hw.mlt _ _ h1) (Nat.lt_irrefl _)
      · rw [mo _ hi] at h1; rw [mo _ hj] at h2; exact hw.mone _ _ _ h1 h2
    · intro i v x h1
      have := hw.ltc _ _ _ h1; rw [H.nx_newm]; omega
    · intro i b h1
      by_cases hi : i = h.nx
      · rw [H.nx_newm]; omega
      · rw [mo _ hi] at h1
        have := hw.ltm _ _ h1; rw [H.nx_newm]; omega
    · intro i b h1
      simp only [World.mk1, Array.size_push]
      by_cases hi : i = h.nx
      · subst hi; rw [ms] at h1; cases h1; omega
      · rw [mo _ hi] at h1
        exact Nat.lt_succ_of_lt (hw.mlt _ _ h1)
  · intro b hb _
    exact push_lt _ _ _ hb
  · intro b hb hwr
    rcases hwr with ⟨i, v, sh, ps, L, ob, h1, h2, h3, h4⟩ | ⟨i, es, h1, h2⟩
    · exact .inl ⟨i, v, sh, ps, L, ob, h1, h2, h3, h4⟩
    · by_cases hi : i = h.nx
      · subst hi; rw [ms] at h1; cases h1; exact absurd hb (Nat.lt_irrefl _)
      · rw [mo _ hi] at h1; rw [H.gm_newm_ne _ _ hi] at h2; exact .inr ⟨i, es, h1, h2⟩
end
end Go.Kx
/- THE ENGINE, part 5: reading and writing rows of cells. -/
namespace Go.Kx
open Go

theorem add_none (b o j : Nat) : Addr.add ⟨b, o, none⟩ j = ⟨b, o + j, none⟩ := by
  unfold Addr.add; split
  · rename_i hj; subst hj; rfl
  · rfl
theorem cell_at {w : World} {b : Nat} {arr : Array Value} {T : TypeId} {fz : Nat × Nat} (h : w.heap[b]? = some (.cells arr T fz)) (o : Nat) : w.cell? ⟨b, o, none⟩ = arr[o]? := by
  simp [World.cell?, h]
theorem frozen_at {w : World} {b : Nat} {arr : Array Value} {T : TypeId} {fz : Nat × Nat} (h : w.heap[b]? = some (.cells arr T fz)) (o : Nat) (hf : ¬ (fz.1 ≤ o ∧ o < fz.2)) : w.frozen? ⟨b, o, none⟩ = false := by
  obtain ⟨lo, hi⟩ := fz
  simp only [World.frozen?, h]
  simp only [Bool.and_eq_false_iff, decide_eq_false_iff_not]
  by_cases h1 : lo ≤ o
  · right; intro h2; exact hf ⟨h1, h2⟩
  · exact .inl h1

def setBlk (w : World) (b : Nat) (o : Go.Obj) : World := { w with heap := w.heap.setIfInBounds b o }
theorem setBlk_self {w : World} {b : Nat} {o : Go.Obj} (h : b < w.heap.size) : (setBlk w b o).heap[b]? = some o := by simp [setBlk, h]
theorem setBlk_ne {w : World} {b c : Nat} {o : Go.Obj} (h : c ≠ b) : (setBlk w b o).heap[c]? = w.heap[c]? := by simp [setBlk, Ne.symm h]
theorem setCell_eq {w : World} {b o : Nat} {arr : Array Value} {T : TypeId} {fz : Nat × Nat} (h : w.heap[b]? = some (.cells arr T fz)) (v : Value) :
    w.setCell ⟨b, o, none⟩ v = setBlk w b (.cells (arr.setIfInBounds o v) T fz) := by
  unfold World.setCell setBlk
  congr 1
  apply Array.ext_getElem?
  intro c
  by_cases hc : c = b
  · subst hc
    have hb := (Array.getElem?_eq_some_iff.1 h).1
    rw [Array.getElem?_modify, if_pos rfl, h]
    simp [hb]
  · simp [Array.getElem?_modify, Ne.symm hc]
theorem setBlk_setBlk (w : World) (b : Nat) (o o' : Go.Obj) : setBlk (setBlk w b o) b o' = setBlk w b o' := by
  unfold setBlk
  congr 1
  apply Array.ext_getElem?
  intro c
  by_cases hc : b = c <;> simp [hc]
theorem setBlk_id {w : World} {b : Nat} {o : Go.Obj} (h : w.heap[b]? = some o) : setBlk w b o = w := by
  have : w.heap.setIfInBounds b o = w.heap := by
    apply Array.ext_getElem?
    intro c
    by_cases hc : b = c
    · subst hc; have hb := (Array.getElem?_eq_some_iff.1 h).1; rw [h]; simp [hb]
    · simp [hc]
  unfold setBlk; rw [this]

/- storing a row -/
theorem run_storeCells_any (P : Program) (b o : Nat) (T : TypeId) (fz : Nat × Nat) : ∀ (ys : List Value) (i : Nat) (w : World) (arr : Array Value),
    w.heap[b]? = some (.cells arr T fz) → o + i + ys.length ≤ arr.size → (∀ j, o + i ≤ j → j < o + i + ys.length → ¬ (fz.1 ≤ j ∧ j < fz.2)) → (∀ v ∈ ys, v.oneCell' = true) →
    ∃ arr' : Array Value, arr'.size = arr.size ∧ (∀ j, arr'[j]? = if o + i ≤ j ∧ j < o + i + ys.length then ys[j - (o + i)]? else arr[j]?) ∧
      (storeCells ⟨b, o, none⟩ ys i).run P w = .ok () (setBlk w b (.cells arr' T fz))
  | [], i, w, arr, hb, hl, hf, h1 => by
    refine ⟨arr, rfl, ?_, ?_⟩
    · intro j; rw [if_neg (by simp only [List.length_nil]; omega)]
    · rw [setBlk_id hb]; rfl
  | v :: ys, i, w, arr, hb, hl, hf, h1 => by
    simp only [List.length_cons] at hl hf
    have hcell : w.cell? (Addr.add ⟨b, o, none⟩ i) = some arr[o + i] := by
      rw [add_none, cell_at hb]; exact Array.getElem?_eq_getElem (by omega)
    have hfr : w.frozen? (Addr.add ⟨b, o, none⟩ i) = false := by
      rw [add_none]; exact frozen_at hb _ (hf _ (by omega) (by omega))
    have hb' : (setBlk w b (.cells (arr.setIfInBounds (o + i) v) T fz)).heap[b]? = some (.cells (arr.setIfInBounds (o + i) v) T fz) := setBlk_self (Array.getElem?_eq_some_iff.1 hb).1
    obtain ⟨arr', hs, hg, hr⟩ := run_storeCells_any P b o T fz ys (i + 1) _ _ hb' (by simp; omega) (fun j h2 h3 => hf j (by omega) (by omega)) (fun u hu => h1 u (List.mem_cons_of_mem _ hu))
    refine ⟨arr', by simpa using hs, ?_, ?_⟩
    · intro j
      rw [hg j]
      by_cases hj : j = o + i
      · subst hj
        rw [if_neg (by omega), if_pos (by simp only [List.length_cons]; omega)]
        simp [show o + i < arr.size by omega]
      · by_cases hj2 : o + (i + 1) ≤ j ∧ j < o + (i + 1) + ys.length
        · rw [if_pos hj2, if_pos (by simp only [List.length_cons]; omega)]
          rw [show j - (o + i) = (j - (o + (i + 1))) + 1 by omega]; simp
        · rw [if_neg hj2, if_neg (by simp only [List.length_cons]; omega)]
          simp [Ne.symm hj]
    · simp only [storeCells, Sem.run_bind]
      rw [run_store P w _ _ _ (h1 v (List.mem_cons_self ..)), hcell]
      simp only [hfr, Bool.false_eq_true, if_false, Result.andThen_ok]
      rw [add_none, setCell_eq hb]
      rw [hr, setBlk_setBlk]

section
variable {G : Nat} {R : Rl} {h : H} {w : World}

theorem cut_eq {l x : List AV} {o n : Nat} (hc : cut l o n = some x) : o + n ≤ l.length ∧ x = (l.drop o).take n := by
  unfold cut at hc; split at hc
  · rename_i hh; cases hc; exact ⟨hh, rfl⟩
  · cases hc
theorem cut_len {l x : List AV} {o n : Nat} (hc : cut l o n = some x) : x.length = n := by
  obtain ⟨h1, rfl⟩ := cut_eq hc; simp; omega

/- the cells of a readable row -/
theorem cells_of {v b sh ps L : Nat} {ob : Obj} (hk : CellOK R w v b sh ps L ob) (o n : Nat) (hn : o + n ≤ L) :
    ∃ cs : List Value, cs.length = n ∧ (∀ (j : Nat) y, cs[j]? = some y → w.cell? ⟨b, sh + o + j, none⟩ = some y) ∧ VRs R ((ob.l.drop o).take n) cs := by
  obtain ⟨arr, T, fz, hb, hs, h3, h4, h5, h6, h7⟩ := hk
  refine ⟨(arr.toList.drop (sh + o)).take n, by simp; omega, ?_, ?_⟩
  · intro j y hj
    rw [List.getElem?_take] at hj
    split at hj
    · rw [List.getElem?_drop] at hj
      rw [cell_at hb]; simpa using hj
    · cases hj
  · refine VRs.of_get (by simp; omega) ?_
    intro j x y hx hy
    rw [List.getElem?_take] at hx hy
    split at hx
    · rename_i hjn
      rw [if_pos hjn] at hy
      rw [List.getElem?_drop] at hx hy
      obtain ⟨c, hc, hv⟩ := h7 (o + j) x (by omega) hx
      have : arr.toList[sh + o + j]? = some c := by rw [show sh + o + j = sh + (o + j) by omega]; simpa using hc
      rw [this] at hy; cases hy; exact hv
    · cases hx

theorem rdN_sound (hw : WR G R h w) {p : AV} {n : Nat} {x : List AV} {v : Value} (hr : rdN h p n = some x) (hp : VR R p v) :
    ∃ (b o : Nat) (cs : List Value), v = .pointer (some ⟨b, o, none⟩) ∧ cs.length = n ∧ (∀ (j : Nat) y, cs[j]? = some y → w.cell? (Addr.add ⟨b, o, none⟩ j) = some y) ∧ VRs R x cs := by
  cases hp <;> simp only [rdN] at hr <;> try (cases hr; done)
  rename_i i u o b sh ps L hc
  split at hr
  · rename_i ob ho
    split at hr
    · rename_i hv
      obtain ⟨h1, rfl⟩ := cut_eq hr
      have hk := hw.cell _ _ _ _ _ _ _ hc ho (by rw [hv]; exact hw.lohi _ _ ho)
      have hL : L = ob.l.length := by obtain ⟨_, _, _, _, _, _, _, h5, _⟩ := hk; exact h5 hv
      obtain ⟨cs, hl, hcs, hvr⟩ := cells_of hk o n (by omega)
      exact ⟨b, sh + o, cs, rfl, hl, fun j y hj => by rw [add_none]; exact hcs j y hj, hvr⟩
    · cases hr
  · cases hr
end
end Go.Kx
/- THE ENGINE, part 6: the laws of a single cell, of a slice as a source, of a row written in place, of a row that grows, of a map that is put. -/
namespace Go.Kx
open Go
section
variable {G : Nat} {R : Rl} {h : H} {w : World}

theorem rd_sound (hw : WR G R h w) {p x : AV} {v : Value} (hr : rd h p = some x) (hp : VR R p v) :
    ∃ (b o : Nat) (y : Value), v = .pointer (some ⟨b, o, none⟩) ∧ w.cell? ⟨b, o, none⟩ = some y ∧ VR R x y := by
  cases hp <;> simp only [rd] at hr <;> try (cases hr; done)
  rename_i i u o b sh ps L hc
  split at hr
  · rename_i ob ho
    split at hr
    · rename_i hv
      have hk := hw.cell _ _ _ _ _ _ _ hc ho (by rw [hv]; exact hw.lohi _ _ ho)
      obtain ⟨arr, T, fz, hb, hs, h3, h4, h5, h6, h7⟩ := hk
      have hlt : o < ob.l.length := (List.getElem?_eq_some_iff.1 hr).1
      obtain ⟨c, hcc, hvr⟩ := h7 o x (by rw [h5 hv]; exact hlt) hr
      exact ⟨b, sh + o, c, rfl, by rw [cell_at hb]; exact hcc, hvr⟩
    · cases hr
  · cases hr

theorem lenS_sound {x : AV} {v : Value} {n : Nat} (hl : lenS x = some n) (hx : VR R x v) : Builtin.lenOf v = Sem.pure n := by
  cases hx <;> simp only [lenS] at hl <;> try (cases hl; done)
  · cases hl; rename_i l s hs; simp only [Builtin.lenOf]; rw [← hs]; rfl
  · cases hl; rfl
  · cases hl; rfl
  · cases hl; rfl

/- a slice's, a string's, first cells -/
theorem src_sound (P : Program) (hw : WR G R h w) {x : AV} {v : Value} {n sz : Nat} {l : List AV} (hs : src h x n = some l) (hx : VR R x v) (hl : l.length = n * sz) : ∃ cs : List Value, VRs R l cs ∧ ∀ w2 : World, w2.heap = w.heap → (Builtin.firstCells sz n v).run P w2 = .ok cs.toArray w2 := by
  cases hx <;> simp only [src] at hs <;> try (cases hs; done)
  · -- string
    rename_i s0 s hss
    split at hs
    · rename_i hn
      cases hs
      refine ⟨(s0.take n).map fun b => .int .u8 b.toNat, ?_, ?_⟩
      · refine VRs.of_get (by simp) ?_
        intro j x y hx hy
        simp only [List.getElem?_map, Option.map_eq_some_iff] at hx hy
        obtain ⟨a, ha, rfl⟩ := hx
        obtain ⟨c, hc, rfl⟩ := hy
        rw [ha] at hc; cases hc
        exact .int _ _
      · intro w2 _
        simp only [Builtin.firstCells]
        have : ((s.extract 0 n).data.map fun b => (.int .u8 b.toNat : Value)) = ((s0.take n).map fun b => (.int .u8 b.toNat : Value)).toArray := by
          apply Array.ext'
          simp only [Array.toList_map]
          congr 1
          rw [← hss]
          simp [ByteArray.data_extract]
        rw [this]; rfl
    · cases hs
  · -- nil slice
    split at hs
    · rename_i hn; cases hs; exact ⟨[], .nil, fun _ _ => rfl⟩
    · cases hs
  · -- slice
    rename_i i u o m sz' b sh ps L cap full hc hlo hcp hp hf hz'
    split at hs
    · rename_i hn; cases hs; subst hn
      exact ⟨[], .nil, fun _ _ => by simp [Builtin.firstCells, loadCells, loadCellsFrom]⟩
    · split at hs
      · rename_i hnm
        split at hs
        · rename_i ob ho
          split at hs
          · rename_i hv
            have hlc := cut_len hs
            obtain ⟨h1, rfl⟩ := cut_eq hs
            have hk := hw.cell _ _ _ _ _ _ _ hc ho hv.1
            have hle : n * sz' ≤ m * sz' := Nat.mul_le_mul_right _ hnm
            obtain ⟨cs, hcl, hcs, hvr⟩ := cells_of hk o (n * sz') (by omega)
            refine ⟨cs, hvr, ?_⟩
            intro w2 hw2
            simp only [Builtin.firstCells]
            have := run_loadCells_list (P := P) w2 ⟨b, sh + o, none⟩ cs (fun j y hj => by rw [add_none]; have := hcs j y hj; unfold World.cell? at this ⊢; rw [hw2]; exact this)
            rw [hcl] at this
            rw [show n * sz = n * sz' by omega]
            exact this
          · cases hs
        · cases hs
      · cases hs
  · -- slice of none
    rename_i i u o sz' b sh ps L full a hc hlo hz'
    split at hs
    · rename_i hn; cases hs; subst hn
      exact ⟨[], .nil, fun _ _ => by simp [Builtin.firstCells, loadCells, loadCellsFrom]⟩
    · split at hs
      · rename_i h1 h2; omega
      · cases hs

/- other objects are not touched where block b alone turns -/
theorem others_ok {i : Nat} {b : Nat} {w' : World} {h' : H} (hw : WR G R h w) {v0 sh0 ps0 L0 : Nat} (hc : R.c i v0 = some (b, sh0, ps0, L0)) (ha : aliveC h i v0)
    (hheap : ∀ c, c ≠ b → w'.heap[c]? = w.heap[c]?) (hget : ∀ j, j ≠ i → h'.get j = h.get j) {R' : Rl} (ec : ∀ i v x, R.c i v = some x → R'.c i v = some x) (em : ∀ i b, R.m i = some b → R'.m i = some b)
    {j v bb sh ps L : Nat} {ob : Obj} (hj : j ≠ i) (h1 : R.c j v = some (bb, sh, ps, L)) (h2 : h'.get j = some ob) (h3 : ob.lo ≤ v) : CellOK R' w' v bb sh ps L ob := by
  rw [hget j hj] at h2
  have hne : bb ≠ b := by
    intro e; subst e
    exact hj (hw.sep _ _ _ _ _ _ _ _ _ _ _ h1 hc ⟨ob, h2, h3⟩ ha).1
  exact (hw.cell _ _ _ _ _ _ _ h1 h2 h3).ext ec em (hheap _ hne)

theorem map_ok {b : Nat} {w' : World} (hw : WR G R h w) (hcell : ∃ arr T fz, w.heap[b]? = some (.cells arr T fz))
    (hheap : ∀ c, c ≠ b → w'.heap[c]? = w.heap[c]?) {R' : Rl} (ec : ∀ i v x, R.c i v = some x → R'.c i v = some x) (em : ∀ i b, R.m i = some b → R'.m i = some b)
    {i bb : Nat} {es : List (AV × AV)} (h1 : R.m i = some bb) (h2 : h.gm i = some es) : ∃ mes clk, w'.heap[bb]? = some (.map mes clk) ∧ ERs R' es mes.toList := by
  obtain ⟨mes, clk, g, hr⟩ := hw.map i bb es h1 h2
  have hne : bb ≠ b := by
    intro e; subst e
    obtain ⟨arr, T, fz, hc⟩ := hcell
    rw [hc] at g; cases g
  exact ⟨mes, clk, by rw [hheap _ hne]; exact g, hr.mono ec em⟩

/- THE LAW OF A ROW THAT IS WRITTEN IN PLACE -/
theorem put_cells (hw : WR G R h w) {i b sh ps L : Nat} {ob : Obj} (hc : R.c i ob.hi = some (b, sh, ps, L)) (ho : h.get i = some ob) (hro : ob.ro = false)
    (l' : List AV) (arr' : Array Value) (T : TypeId) (fz : Nat × Nat) (hfz : ∀ j < ps, ¬ (fz.1 ≤ j ∧ j < fz.2)) (hs : arr'.size = ps) (hl : l'.length = ob.l.length) (hone : l'.all AV.one = true)
    (hv : ∀ (j : Nat) (x : AV), l'[j]? = some x → ∃ c, arr'[sh + j]? = some c ∧ VR R x c) :
    Go2 G R h w R (h.put i ⟨ob.hi, ob.hi, false, l'⟩) (setBlk w b (.cells arr' T fz)) := by
  have hlh := hw.lohi _ _ ho
  have hal : aliveC h i ob.hi := ⟨ob, ho, hlh⟩
  have hk := hw.cell _ _ _ _ _ _ _ hc ho hlh
  have hblt : b < w.heap.size := hw.blk_lt hc hal
  obtain ⟨arr, T0, fz0, hb, hs0, h3, h4, h5, h6, h7⟩ := hk
  have hL := h5 rfl
  have eheap : ∀ c, c ≠ b → (setBlk w b (.cells arr' T fz)).heap[c]? = w.heap[c]? := fun c hcb => setBlk_ne hcb
  have eget : ∀ j, j ≠ i → (h.put i ⟨ob.hi, ob.hi, false, l'⟩).get j = h.get j := fun j hj => H.get_put_ne _ _ _ _ hj
  have alive_old : ∀ j v, aliveC (h.put i ⟨ob.hi, ob.hi, false, l'⟩) j v → aliveC h j v := by
    intro j v hh
    by_cases hj : j = i
    · subst hj
      obtain ⟨o2, ho2, hlo⟩ := hh
      rw [H.get_put_self] at ho2; cases ho2
      exact ⟨ob, ho, Nat.le_trans hlh hlo⟩
    · obtain ⟨o2, ho2, hlo⟩ := hh
      rw [eget _ hj] at ho2
      exact ⟨o2, ho2, hlo⟩
  refine ⟨Ext.refl _ _, ⟨?_, ?_, ?_, ?_, hw.mone, hw.ltc, hw.ltm, ?_, ?_, ?_, hw.glob⟩, Nat.le_refl _, by simp [setBlk], ?_, ?_, rfl, rfl, rfl⟩
  · intro j v bb sh1 ps1 L1 ob1 h1 h2 h3'
    by_cases hj : j = i
    · subst hj
      rw [H.get_put_self] at h2; cases h2
      have hve : v = ob.hi := Nat.le_antisymm (hw.ver _ _ _ _ h1 ho) h3'
      subst hve
      rw [hc] at h1; cases h1
      refine ⟨arr', T, fz, setBlk_self hblt, hs, h3, by simp only []; omega, fun _ => by simp only []; omega, fun _ => hfz, ?_⟩
      intro k x hk2 hx
      exact hv k x hx
    · exact others_ok hw hc hal eheap eget (fun _ _ _ hh => hh) (fun _ _ hh => hh) hj h1 h2 h3'
  · intro j v x ob1 h1 h2
    by_cases hj : j = i
    · subst hj
      rw [H.get_put_self] at h2; cases h2
      show v ≤ ob.hi
      exact hw.ver _ _ _ _ h1 ho
    · rw [eget _ hj] at h2; exact hw.ver _ _ _ _ h1 h2
  · intro j v j' v' bb s1 s2 p1 p2 L1 L2 h1 h2 a1 a2
    exact hw.sep _ _ _ _ _ _ _ _ _ _ _ h1 h2 (alive_old _ _ a1) (alive_old _ _ a2)
  · intro j bb es h1 h2
    exact map_ok hw ⟨arr, T0, fz0, hb⟩ eheap (fun _ _ _ hh => hh) (fun _ _ hh => hh) h1 h2
  · intro j bb hh; simp only [setBlk, Array.size_setIfInBounds]; exact hw.mlt _ _ hh
  · intro j ob1 h2
    by_cases hj : j = i
    · subst hj; rw [H.get_put_self] at h2; cases h2; exact Nat.le_refl _
    · rw [eget _ hj] at h2; exact hw.lohi _ _ h2
  · intro j ob1 h2
    by_cases hj : j = i
    · subst hj; rw [H.get_put_self] at h2; cases h2; exact hone
    · rw [eget _ hj] at h2; exact hw.ones _ _ h2
  · intro c hcl hnw
    refine eheap c ?_
    intro e; subst e
    exact hnw (.inl ⟨i, ob.hi, sh, ps, L, ob, hc, ho, hlh, hro⟩)
  · intro c hcl hwr
    rcases hwr with ⟨j, v, s1, p1, L1, ob1, h1, h2, h3', h4'⟩ | ⟨j, es, h1, h2⟩
    · by_cases hj : j = i
      · subst hj
        rw [H.get_put_self] at h2; cases h2
        exact .inl ⟨j, v, s1, p1, L1, ob, h1, ho, Nat.le_trans hlh h3', hro⟩
      · rw [eget _ hj] at h2
        exact .inl ⟨j, v, s1, p1, L1, ob1, h1, h2, h3', h4'⟩
    · exact .inr ⟨j, es, h1, h2⟩

theorem splice_get (l x : List AV) (o j : Nat) (h : o + x.length ≤ l.length) : (splice l o x)[j]? = if o ≤ j ∧ j < o + x.length then x[j - o]? else l[j]? := by
  unfold splice
  by_cases h1 : j < o
  · rw [if_neg (by omega), List.append_assoc, List.getElem?_append_left (by simp; omega), List.getElem?_take_of_lt h1]
  · by_cases h2 : j < o + x.length
    · rw [if_pos ⟨by omega, h2⟩, List.append_assoc, List.getElem?_append_right (by simp; omega), List.getElem?_append_left (by simp; omega)]
      congr 1; simp; omega
    · rw [if_neg (by omega), List.getElem?_append_right (by simp; omega), List.getElem?_drop]
      congr 1; simp; omega
theorem splice_len (l x : List AV) (o : Nat) (h : o + x.length ≤ l.length) : (splice l o x).length = l.length := by
  unfold splice; simp; omega

theorem splice_all (l x : List AV) (o : Nat) (h1 : l.all AV.one = true) (h2 : x.all AV.one = true) : (splice l o x).all AV.one = true := by
  unfold splice
  rw [List.all_eq_true] at *
  intro y hy
  simp only [List.mem_append] at hy
  rcases hy with (hy | hy) | hy
  · exact h1 _ (List.mem_of_mem_take hy)
  · exact h2 _ hy
  · exact h1 _ (List.mem_of_mem_drop hy)

theorem wr_sound (P : Program) (hw : WR G R h w) {p : AV} {x : List AV} {v : Value} {ys : List Value} {h' : H} (hr : wr h p x = some h') (hp : VR R p v) (hx : VRs R x ys) :
    ∃ (b o : Nat) (w' : World), v = .pointer (some ⟨b, o, none⟩) ∧ (storeCells ⟨b, o, none⟩ ys).run P w = .ok () w' ∧ Go2 G R h w R h' w' := by
  cases hp <;> simp only [wr] at hr <;> try (cases hr; done)
  rename_i i u o b sh ps L hc
  split at hr
  · rename_i ob ho
    split at hr
    · rename_i hv
      obtain ⟨hv1, hro, hlen, hall⟩ := hv
      cases hr
      subst hv1
      have hlh := hw.lohi _ _ ho
      have hk := hw.cell _ _ _ _ _ _ _ hc ho hlh
      obtain ⟨arr, T, fz, hb, hs, h3, h4, h5, h6, h7⟩ := hk
      have hL := h5 rfl
      have hxl := hx.length
      obtain ⟨arr', hs', hg, hrun⟩ := run_storeCells_any P b (sh + o) T fz ys 0 w arr hb (by omega) (fun j h1 h2 => h6 hro j (by omega)) (hx.ones hall)
      refine ⟨b, sh + o, _, rfl, hrun, ?_⟩
      refine put_cells hw hc ho hro _ arr' T fz (h6 hro) (by omega) (splice_len _ _ _ hlen) (splice_all _ _ _ (hw.ones _ _ ho) hall) ?_
      intro j y hj
      rw [splice_get _ _ _ _ hlen] at hj
      rw [hg]
      split at hj
      · rename_i hjj
        rw [if_pos (by omega)]
        obtain ⟨c, hcc, hvr⟩ := hx.get _ _ hj
        exact ⟨c, by rw [show sh + j - (sh + o + 0) = j - o by omega]; exact hcc, hvr⟩
      · rename_i hjj
        rw [if_neg (by omega)]
        exact h7 j y (by have := (List.getElem?_eq_some_iff.1 hj).1; omega) hj
    · cases hr
  · cases hr

/- THE LAW OF A MAP THAT IS PUT -/
theorem put_map (hw : WR G R h w) {i b : Nat} {es es' : List (AV × AV)} (hc : R.m i = some b) (ho : h.gm i = some es) (mes' : Array MapEntry) (clk : Nat)
    (hv : ERs R es' mes'.toList) : Go2 G R h w R (h.putm i es') (setBlk w b (.map mes' clk)) := by
  have hblt : b < w.heap.size := hw.map_lt hc ho
  obtain ⟨mes, clk0, hb, hr⟩ := hw.map _ _ _ hc ho
  have eheap : ∀ c, c ≠ b → (setBlk w b (.map mes' clk)).heap[c]? = w.heap[c]? := fun c hcb => setBlk_ne hcb
  refine ⟨Ext.refl _ _, ⟨?_, hw.ver, hw.sep, ?_, hw.mone, hw.ltc, hw.ltm, ?_, hw.lohi, hw.ones, hw.glob⟩, Nat.le_refl _, by simp [setBlk], ?_, ?_, rfl, rfl, rfl⟩
  · intro j v bb sh1 ps1 L1 ob1 h1 h2 h3'
    have hk := hw.cell _ _ _ _ _ _ _ h1 h2 h3'
    have hne : bb ≠ b := by
      intro e; subst e
      obtain ⟨arr, T, fz, hb2, _⟩ := hk
      rw [hb] at hb2; cases hb2
    exact hk.ext (fun _ _ _ hh => hh) (fun _ _ hh => hh) (eheap _ hne)
  · intro j bb es1 h1 h2
    by_cases hj : j = i
    · subst hj
      rw [hc] at h1; cases h1
      rw [H.gm_putm_self] at h2; cases h2
      exact ⟨mes', clk, setBlk_self hblt, hv⟩
    · rw [H.gm_putm_ne _ _ _ _ hj] at h2
      obtain ⟨mes1, clk1, g, hr1⟩ := hw.map _ _ _ h1 h2
      have hne : bb ≠ b := fun e => hj (hw.mone _ _ _ (e ▸ h1) hc)
      exact ⟨mes1, clk1, by rw [eheap _ hne]; exact g, hr1⟩
  · intro j bb hh; simp only [setBlk, Array.size_setIfInBounds]; exact hw.mlt _ _ hh
  · intro c hcl hnw
    refine eheap c ?_
    intro e; subst e
    exact hnw (.inr ⟨i, es, hc, ho⟩)
  · intro c hcl hwr
    rcases hwr with ⟨j, v, s1, p1, L1, ob1, h1, h2, h3', h4'⟩ | ⟨j, es1, h1, h2⟩
    · exact .inl ⟨j, v, s1, p1, L1, ob1, h1, h2, h3', h4'⟩
    · by_cases hj : j = i
      · subst hj; exact .inr ⟨j, es, h1, ho⟩
      · rw [H.gm_putm_ne _ _ _ _ hj] at h2; exact .inr ⟨j, es1, h1, h2⟩
end
end Go.Kx
/- THE ENGINE, part 7: the law of a row that grows, and the builtin append. -/
namespace Go.Kx
open Go
section
variable {G : Nat} {R : Rl} {h : H} {w : World}

theorem grow (hw : WR G R h w) {i b sh ps L : Nat} {ob : Obj} (hc : R.c i ob.hi = some (b, sh, ps, L)) (ho : h.get i = some ob) (hro : ob.ro = false)
    (w' : World) (b2 sh2 ps2 lo' : Nat) (l' : List AV) (hlo : lo' = ob.lo ∨ lo' = ob.hi + 1) (hb2 : (b2 = b ∧ sh2 = sh) ∨ b2 = w.heap.size) (hsz : w.heap.size ≤ w'.heap.size)
    (hoth : ∀ c, c < w.heap.size → c ≠ b → w'.heap[c]? = w.heap[c]?)
    (hnew : CellOK R w' (ob.hi + 1) b2 sh2 ps2 l'.length ⟨lo', ob.hi + 1, false, l'⟩)
    (hold : ∀ v b1 sh1 ps1 L1, R.c i v = some (b1, sh1, ps1, L1) → lo' ≤ v → v ≤ ob.hi → CellOK R w' v b1 sh1 ps1 L1 ⟨lo', ob.hi + 1, false, l'⟩)
    (hone : l'.all AV.one = true) (hos : w'.os = w.os) (hout : w'.output = w.output) (htp : w'.tape = w.tape) :
    Go2 G R h w (R.add i (ob.hi + 1) b2 sh2 ps2 l'.length) (h.put i ⟨lo', ob.hi + 1, false, l'⟩) w' := by
  have hlh := hw.lohi _ _ ho
  have hal : aliveC h i ob.hi := ⟨ob, ho, hlh⟩
  have hblt : b < w.heap.size := hw.blk_lt hc hal
  obtain ⟨arr, T0, fz0, hb, _⟩ := hw.cell _ _ _ _ _ _ _ hc ho hlh
  have hnone : R.c i (ob.hi + 1) = none := by
    cases hh : R.c i (ob.hi + 1) with
    | none => rfl
    | some x => exact absurd (hw.ver _ _ _ _ hh ho) (by omega)
  have ec : ∀ j v x, R.c j v = some x → (R.add i (ob.hi + 1) b2 sh2 ps2 l'.length).c j v = some x := by
    intro j v x hx
    rw [add_c_ne]; exact hx
    rintro ⟨rfl, rfl⟩; rw [hnone] at hx; cases hx
  have em : ∀ j c, R.m j = some c → (R.add i (ob.hi + 1) b2 sh2 ps2 l'.length).m j = some c := fun _ _ hh => hh
  have eget : ∀ j, j ≠ i → (h.put i ⟨lo', ob.hi + 1, false, l'⟩).get j = h.get j := fun j hj => H.get_put_ne _ _ _ _ hj
  have alive_old : ∀ j v x, R.c j v = some x → aliveC (h.put i ⟨lo', ob.hi + 1, false, l'⟩) j v → aliveC h j v := by
    intro j v x hx hh
    by_cases hj : j = i
    · subst hj
      obtain ⟨o2, ho2, hl2⟩ := hh
      rw [H.get_put_self] at ho2; cases ho2
      have := hw.ver _ _ _ _ hx ho
      simp only at hl2
      exact ⟨ob, ho, by omega⟩
    · obtain ⟨o2, ho2, hl2⟩ := hh
      rw [eget _ hj] at ho2
      exact ⟨o2, ho2, hl2⟩
  -- the new version's block parts it from every other object's
  have hpart : ∀ j v sh1 ps1 L1, R.c j v = some (b2, sh1, ps1, L1) → aliveC h j v → j = i ∧ sh1 = sh2 := by
    intro j v sh1 ps1 L1 h1 a1
    rcases hb2 with ⟨rfl, rfl⟩ | rfl
    · exact hw.sep _ _ _ _ _ _ _ _ _ _ _ h1 hc a1 hal
    · exact absurd (hw.blk_lt h1 a1) (Nat.lt_irrefl _)
  have inv : ∀ j v x, (R.add i (ob.hi + 1) b2 sh2 ps2 l'.length).c j v = some x → (j = i ∧ v = ob.hi + 1 ∧ x = (b2, sh2, ps2, l'.length)) ∨ R.c j v = some x := by
    intro j v x hx
    by_cases hjv : j = i ∧ v = ob.hi + 1
    · obtain ⟨rfl, rfl⟩ := hjv; rw [add_c_self] at hx; cases hx; exact .inl ⟨rfl, rfl, rfl⟩
    · rw [add_c_ne hjv] at hx; exact .inr hx
  refine ⟨⟨ec, em, ?_, fun j c hh => .inl hh⟩, ⟨?_, ?_, ?_, ?_, hw.mone, ?_, hw.ltm, ?_, ?_, ?_, ?_⟩, Nat.le_refl _, hsz, ?_, ?_, hos, hout, htp⟩
  · intro j v x hx
    rcases inv _ _ _ hx with ⟨rfl, rfl, rfl⟩ | hx
    · exact .inl ⟨_, _, hc⟩
    · exact .inl ⟨_, _, hx⟩
  · intro j v bb sh1 ps1 L1 ob1 h1 h2 h3
    have g1 := inv _ _ _ h1; clear h1; rcases g1 with ⟨rfl, rfl, e⟩ | h1
    · cases e
      rw [H.get_put_self] at h2; cases h2
      exact hnew.ext ec em rfl
    · by_cases hj : j = i
      · subst hj
        rw [H.get_put_self] at h2; cases h2
        exact (hold _ _ _ _ _ h1 h3 (hw.ver _ _ _ _ h1 ho)).ext ec em rfl
      · rw [eget _ hj] at h2
        have hne : bb ≠ b := by
          intro e; subst e
          exact hj (hw.sep _ _ _ _ _ _ _ _ _ _ _ h1 hc ⟨ob1, h2, h3⟩ hal).1
        exact (hw.cell _ _ _ _ _ _ _ h1 h2 h3).ext ec em (hoth _ (hw.blk_lt h1 ⟨ob1, h2, h3⟩) hne)
  · intro j v x ob1 h1 h2
    have g1 := inv _ _ _ h1; clear h1; rcases g1 with ⟨rfl, rfl, e⟩ | h1
    · rw [H.get_put_self] at h2; cases h2; exact Nat.le_refl _
    · by_cases hj : j = i
      · subst hj
        rw [H.get_put_self] at h2; cases h2
        have := hw.ver _ _ _ _ h1 ho
        show v ≤ ob.hi + 1
        omega
      · rw [eget _ hj] at h2; exact hw.ver _ _ _ _ h1 h2
  · intro j v j' v' bb s1 s2 p1 p2 L1 L2 h1 h2 a1 a2
    have g1 := inv _ _ _ h1; have g2 := inv _ _ _ h2; clear h1 h2; rcases g1 with ⟨rfl, rfl, e⟩ | h1 <;> rcases g2 with ⟨rfl, rfl, e'⟩ | h2
    · cases e; cases e'; exact ⟨rfl, rfl⟩
    · cases e
      obtain ⟨e1, e2⟩ := hpart _ _ _ _ _ h2 (alive_old _ _ _ h2 a2)
      exact ⟨e1.symm, e2.symm⟩
    · cases e'
      exact hpart _ _ _ _ _ h1 (alive_old _ _ _ h1 a1)
    · exact hw.sep _ _ _ _ _ _ _ _ _ _ _ h1 h2 (alive_old _ _ _ h1 a1) (alive_old _ _ _ h2 a2)
  · intro j bb es h1 h2
    obtain ⟨mes, clk, g, hr⟩ := hw.map j bb es h1 h2
    have hne : bb ≠ b := by intro e; subst e; rw [hb] at g; cases g
    exact ⟨mes, clk, by rw [hoth _ (hw.map_lt h1 h2) hne]; exact g, hr.mono ec em⟩
  · intro j v x h1
    have g1 := inv _ _ _ h1; clear h1; rcases g1 with ⟨rfl, rfl, e⟩ | h1
    · exact hw.ltc _ _ _ hc
    · exact hw.ltc _ _ _ h1
  · intro j bb hh; exact Nat.lt_of_lt_of_le (hw.mlt _ _ hh) hsz
  · intro j ob1 h2
    by_cases hj : j = i
    · subst hj; rw [H.get_put_self] at h2; cases h2
      show lo' ≤ ob.hi + 1
      omega
    · rw [eget _ hj] at h2; exact hw.lohi _ _ h2
  · intro j ob1 h2
    by_cases hj : j = i
    · subst hj; rw [H.get_put_self] at h2; cases h2; exact hone
    · rw [eget _ hj] at h2; exact hw.ones _ _ h2
  · intro g hg
    obtain ⟨ps3, L3, hh⟩ := hw.glob g hg
    exact ⟨ps3, L3, ec _ _ _ hh⟩
  · intro c hcl hnw
    refine hoth c hcl ?_
    intro e; subst e
    exact hnw (.inl ⟨i, ob.hi, sh, ps, L, ob, hc, ho, hlh, hro⟩)
  · intro c hcl hwr
    rcases hwr with ⟨j, v, s1, p1, L1, ob1, h1, h2, h3', h4'⟩ | ⟨j, es, h1, h2⟩
    · have g1 := inv _ _ _ h1; clear h1; rcases g1 with ⟨rfl, rfl, e⟩ | h1
      · cases e
        rcases hb2 with ⟨rfl, rfl⟩ | rfl
        · exact .inl ⟨j, ob.hi, sh2, ps, L, ob, hc, ho, hlh, hro⟩
        · exact absurd hcl (Nat.lt_irrefl _)
      · by_cases hj : j = i
        · subst hj
          rw [H.get_put_self] at h2; cases h2
          have := hw.ver _ _ _ _ h1 ho
          simp only at h3'
          exact .inl ⟨j, v, s1, p1, L1, ob, h1, ho, by omega, hro⟩
        · rw [eget _ hj] at h2
          exact .inl ⟨j, v, s1, p1, L1, ob1, h1, h2, h3', h4'⟩
    · exact .inr ⟨j, es, h1, h2⟩
end
end Go.Kx
/- THE ENGINE, part 8: constants stand for what they are; the builtin append. -/
namespace Go.Kx
open Go
section
variable {R : Rl}
theorem valC1_sound {v : Value} {x : AV} (h : valC1 v = some x) : VR R x v ∧ x.one = true := by
  unfold valC1 at h
  split at h <;> first
    | (cases h; done)
    | (cases h; exact ⟨by constructor <;> rfl, rfl⟩)
    | (cases h; exact ⟨.str _ _ rfl, rfl⟩)
theorem allC_sound {f : Value → Option AV} (hf : ∀ v x, f v = some x → VR R x v) : ∀ {l : List Value} {m : List AV}, allC f l = some m → VRs R m l
  | [], m, h => by simp only [allC] at h; cases h; exact .nil
  | v :: l, m, h => by
    simp only [allC] at h
    split at h
    · rename_i x r h1 h2; cases h; exact .cons _ _ _ _ (hf _ _ h1) (allC_sound hf h2)
    · cases h
theorem valC2_sound {v : Value} {x : AV} (h : valC2 v = some x) : VR R x v ∧ x ≠ .undef := by
  unfold valC2 at h
  split at h
  · rename_i cs
    cases hh : allC valC1 cs.toList with
    | none => rw [hh] at h; cases h
    | some m => rw [hh] at h; cases h; exact ⟨.agg _ _ (allC_sound (fun v x h => (valC1_sound h).1) hh), by simp⟩
  · obtain ⟨h1, h2⟩ := valC1_sound (R := R) h
    exact ⟨h1, one_ne h2⟩
theorem valC_sound {v : Value} {x : AV} (h : valC v = some x) : VR R x v := by
  unfold valC at h
  split at h
  · rename_i cs
    cases hh : allC valC2 cs.toList with
    | none => rw [hh] at h; cases h
    | some m => rw [hh] at h; cases h; exact .tup _ _ (allC_sound (fun v x h => (valC2_sound h).1) hh)
  · exact (valC2_sound (R := R) h).1
theorem zeroT_sound {P : Program} {t : TypeId} {z : AV} (h : zeroT P t = some z) : ∃ i v, P.info? t = some i ∧ i.zero = some v ∧ VRs R z.cells v.cells.toList ∧ VR R z v := by
  unfold zeroT at h
  split at h
  · rename_i i hi
    split at h
    · rename_i v hv
      obtain ⟨h1, h2⟩ := valC2_sound (R := R) h
      exact ⟨i, v, hi, hv, h1.cells h2, h1⟩
    · cases h
  · cases h
end

section
variable {G : Nat} {R : Rl} {h : H} {w : World} {P : Program}

theorem zeroCells_len (z : Array Value) (n : Nat) : (Builtin.zeroCells z n).size = n * z.size := by simp [Builtin.zeroCells]

/- a new row whose first cells stand for l -/
theorem new_grown (hw : WR G R h w) (l : List AV) (cs : List Value) (rest : Array Value) (T : TypeId) (hv : VRs R l cs) (h1 : l.all AV.one = true) (n : Nat) :
    Go2 G R h w (R.add h.nx 0 w.heap.size 0 (cs.toArray ++ rest).size l.length) (h.new l) (World.mk1 { w with drawn := n } (.cells (cs.toArray ++ rest) T)) := by
  have hw' : WR G R h { w with drawn := n } := hw.drawn rfl
  refine (Go2.drawn hw n).trans (new_cells hw' l (cs.toArray ++ rest) T (0, 0) (fun j _ => by simp) (by simp [hv.length]) h1 ?_)
  intro j x hx
  obtain ⟨y, hy, hvr⟩ := hv.get j x hx
  refine ⟨y, ?_, hvr⟩
  have hlt : j < cs.length := (List.getElem?_eq_some_iff.1 hy).1
  rw [Array.getElem?_append_left (by simpa using hlt)]
  simpa using hy

structure AppT (P : Program) (t tx e : TypeId) (i : TypeInfo) (z : Value) (sz bytes : Nat) : Prop where
  ht : P.underlying t = some (.slice e)
  hi : P.info? e = some i
  hz : i.zero = some z
  hsz : i.size = sz
  hby : i.bytes = bytes
  hzs : z.cells.size = sz
  hx : (∃ e', P.underlying tx = some (.slice e')) ∨ P.underlying tx = some .string
  hs0 : 0 < sz
  hb0 : 0 < bytes

theorem cut_ones {l x : List AV} {o n : Nat} (hc : cut l o n = some x) (h : l.all AV.one = true) : x.all AV.one = true := by
  obtain ⟨_, rfl⟩ := cut_eq hc
  rw [List.all_eq_true] at *
  intro y hy
  exact h _ (List.mem_of_mem_drop (List.mem_of_mem_take hy))
theorem src_ones (hw : WR G R h w) {x : AV} {n : Nat} {l : List AV} (hs : src h x n = some l) : l.all AV.one = true := by
  cases x <;> simp only [src] at hs <;> try (cases hs; done)
  · split at hs
    · cases hs
      rw [List.all_eq_true]; intro y hy
      obtain ⟨c, _, rfl⟩ := List.mem_map.1 hy
      rfl
    · cases hs
  · split at hs
    · cases hs; rfl
    · cases hs
  · split at hs
    · cases hs; rfl
    · split at hs
      · split at hs
        · rename_i ob ho
          split at hs
          · exact cut_ones hs (hw.ones _ _ ho)
          · cases hs
        · cases hs
      · cases hs

theorem src_of (hw : WR G R h w) {t tx e : TypeId} {i : TypeInfo} {z : Value} {sz bytes : Nat} (A : AppT P t tx e i z sz bytes) {x : AV} {xv : Value} {n : Nat} {new : List AV} (hx : VR R x xv) (hn : lenS x = some n) (hs : src h x n = some new) (hl : new.length = n * sz) : ∃ news, VRs R new news ∧ ∀ w2 : World, w2.heap = w.heap → Src P i.size tx xv n news w2 := by
  obtain ⟨news, hvr, hrun⟩ := src_sound P hw hs hx hl
  refine ⟨news, hvr, fun w2 hw2 => ⟨A.hx, fun w' => by rw [lenS_sound hn hx]; rfl, by rw [A.hsz]; exact hrun _ hw2, by rw [A.hsz]; exact hrun _ hw2, by rw [A.hsz, ← hl, hvr.length], hvr.ones (src_ones hw hs)⟩⟩

theorem room_fit {need old bytes : Nat} (hlt : old < need) (hb : need * bytes ≤ roomB) : Builtin.nextslicecap need old * bytes ≤ 281474976710656 := by
  have h1 := Room.nextslicecap_le' hlt
  have h2 : Builtin.nextslicecap need old * bytes ≤ 2 * need * bytes := Nat.mul_le_mul_right _ h1
  have h3 : 2 * need * bytes = 2 * (need * bytes) := Nat.mul_assoc _ _ _
  unfold roomB at hb
  omega
theorem room_63 {need bytes : Nat} (h0 : 0 < bytes) (hb : need * bytes ≤ roomB) : ((need : Nat) : Int) ≤ 9223372036854775807 := by
  have : need ≤ need * bytes := Nat.le_mul_of_pos_right _ h0
  unfold roomB at hb
  omega

/- what an append that must grow comes to -/
theorem run_grow (_hw : WR G R h w) {t tx ty e : TypeId} {i : TypeInfo} {z : Value} {sz bytes : Nat} (A : AppT P t tx e i z sz bytes) {base : Option Addr} {sLen sCap n : Nat} {xv : Value}
    {olds news : List Value} (hS : ∀ w2 : World, w2.heap = w.heap → Src P i.size tx xv n news w2)
    (hold : ∀ w2 : World, w2.heap = w.heap → (Builtin.firstCells sz sLen (.slice base sLen sCap)).run P w2 = .ok olds.toArray w2) (hg : sCap < sLen + n) (hb : (sLen + n) * bytes ≤ roomB) :
    ∃ cap rest, sLen + n ≤ cap ∧ rest.size = (cap - (sLen + n)) * sz ∧ (Builtin.append_ #[t, tx] ty #[.slice base sLen sCap, xv]).run P w =
      .ok (.slice (some ⟨w.heap.size, 0, none⟩) (sLen + n) cap) (World.mk1 { w with drawn := w.drawn + 1 } (.cells ((olds ++ news).toArray ++ rest) e)) := by
  refine ⟨grownCap w (sLen + n) sCap e, Builtin.zeroCells z.cells (grownCap w (sLen + n) sCap e - (sLen + n)), grownCap_ge w _ _ _, by rw [zeroCells_len, A.hzs], ?_⟩
  exact run_append_grow_src (P := P) w t tx ty e i z A.ht A.hi A.hz base sLen sCap olds (by rw [A.hsz]; exact hold _ rfl) xv n news (hS w rfl |> fun S => ⟨S.kind, S.len, S.cells, (hS w.drew rfl).cells, S.newsLen, S.one⟩) hg (room_63 A.hb0 hb)
    (by rw [A.hby]; exact room_fit hg hb)

/- an append in place -/
theorem run_here {t tx ty e : TypeId} {i : TypeInfo} {z : Value} {sz bytes : Nat} (A : AppT P t tx e i z sz bytes) {b o sLen sCap n : Nat} {xv : Value} {news : List Value} {arr : Array Value} {T : TypeId} {fz : Nat × Nat}
    (hS : Src P i.size tx xv n news w) (hroom : sLen + n ≤ sCap) (hb : w.heap[b]? = some (.cells arr T fz)) (hl : o + sLen * sz + news.length ≤ arr.size) (hf : ∀ j < arr.size, ¬ (fz.1 ≤ j ∧ j < fz.2)) :
    ∃ arr' : Array Value, arr'.size = arr.size ∧ (∀ j, arr'[j]? = if o + sLen * sz ≤ j ∧ j < o + sLen * sz + news.length then news[j - (o + sLen * sz)]? else arr[j]?) ∧
      (Builtin.append_ #[t, tx] ty #[.slice (some ⟨b, o, none⟩) sLen sCap, xv]).run P w = .ok (.slice (some ⟨b, o, none⟩) (sLen + n) sCap) (setBlk w b (.cells arr' T fz)) := by
  obtain ⟨arr', hs, hg, hrun⟩ := run_storeCells_any P b (o + sLen * sz) T fz news 0 w arr hb (by omega) (fun j h1 h2 => hf j (by omega)) hS.one
  refine ⟨arr', hs, by simpa using hg, ?_⟩
  have hcells := hS.cells
  rw [A.hsz] at hcells
  rcases A.hx with ⟨e', hk⟩ | hk <;> simp [Builtin.append_, run_underlying A.ht, run_underlying hk, sizeOf, typeInfo, A.hi, A.hsz, hS.len, hroom, hcells, add_none, hrun]

theorem cellok_keep {v b sh ps L : Nat} {ob ob' : Obj} {w' : World} (hk : CellOK R w v b sh ps L ob) (hb : w'.heap[b]? = w.heap[b]?) (hv : v ≠ ob'.hi) (hle : L ≤ ob'.l.length)
    (hro : ob'.ro = false → ob.ro = false) (hpre : ∀ (j : Nat) (x : AV), j < L → ob'.l[j]? = some x → ob.l[j]? = some x) : CellOK R w' v b sh ps L ob' := by
  obtain ⟨arr, T, fz, h1, h2, h3, h4, h5, h6, h7⟩ := hk
  exact ⟨arr, T, fz, by rw [hb]; exact h1, h2, h3, hle, fun e => absurd e hv, fun e => h6 (hro e), fun j x hj hx => h7 j x hj (hpre j x hj hx)⟩

theorem take_app_get {l m : List AV} {k j : Nat} {x : AV} (hk : k ≤ l.length) (hj : j < k) (hx : (l.take k ++ m)[j]? = some x) : l[j]? = some x := by
  rw [List.getElem?_append_left (by simp; omega), List.getElem?_take_of_lt hj] at hx
  exact hx

theorem app_sound (hw : WR G R h w) {t tx ty e : TypeId} {i : TypeInfo} {z : Value} {sz bytes : Nat} (A : AppT P t tx e i z sz bytes) {s x y : AV} {sv xv : Value} {h' : H}
    (hs : VR R s sv) (hx : VR R x xv) (hr : appA sz bytes h s x = some (y, h')) :
    ∃ yv w' R', (Builtin.append_ #[t, tx] ty #[sv, xv]).run P w = .ok yv w' ∧ Go2 G R h w R' h' w' ∧ VR R' y yv := by
  have hsz0 := A.hs0
  unfold appA at hr
  split at hr
  · cases hr
  rename_i n hn
  split at hr
  · cases hr
  rename_i new hsrc
  by_cases hn0 : n = 0
  · rw [if_pos hn0] at hr
    subst hn0
    have hnew : new = [] := by
      cases x <;> simp [src] at hsrc <;> first | exact hsrc | exact hsrc.symm
    subst hnew
    obtain ⟨news, hvr, hS⟩ := src_of hw A hx hn hsrc (by simp)
    cases hvr
    have hS := hS w rfl
    cases s <;> simp only at hr <;> try (cases hr; done)
    · cases hr; cases hs
      refine ⟨.slice none 0 0, w, R, ?_, Go2.refl hw, .nilS⟩
      exact run_append_nothing w t tx ty e i A.ht A.hi none 0 0 (Nat.le_refl _) xv hS
    · cases hr
      have key : ∃ base sLen sCap, sv = .slice base sLen sCap ∧ sLen ≤ sCap := by
        cases hs
        · exact ⟨_, _, _, rfl, by assumption⟩
        · exact ⟨_, _, _, rfl, Nat.le_refl _⟩
      obtain ⟨base, sLen, sCap, rfl, hle⟩ := key
      refine ⟨.slice base sLen sCap, w, R, ?_, Go2.refl hw, hs⟩
      exact run_append_nothing w t tx ty e i A.ht A.hi base sLen sCap hle xv hS
  · rw [if_neg hn0] at hr
    cases s <;> simp only at hr <;> try (cases hr; done)
    · -- onto nothing
      split at hr
      · rename_i hh
        obtain ⟨hroom, hlen, _⟩ := hh
        cases hr; cases hs
        obtain ⟨news, hvr, hS⟩ := src_of hw A hx hn hsrc hlen
        obtain ⟨cap, rest, hcap, hrest, hrun⟩ := run_grow hw (base := none) (sLen := 0) (sCap := 0) (olds := []) (ty := ty) A hS (fun _ _ => rfl) (by omega) (by simpa using hroom)
        rw [Nat.zero_add] at hcap hrest hrun
        refine ⟨_, _, _, hrun, new_grown hw new ([] ++ news) rest e hvr (src_ones hw hsrc) _, ?_⟩
        have hnl := hvr.length
        refine .slice _ _ _ _ _ w.heap.size 0 _ new.length cap _ add_c_self (by omega) hcap ?_ (by simp) hsz0
        simp only [List.nil_append, Array.size_append, List.size_toArray]
        have : cap * sz = n * sz + (cap - n) * sz := by rw [← Nat.add_mul]; congr 1; omega
        omega
      · cases hr
    · rename_i si sv0 so m sz' full
      split at hr
      · rename_i hh
        obtain ⟨rfl, hroom, hlen, _⟩ := hh
        obtain ⟨news, hvr, hS⟩ := src_of hw A hx hn hsrc hlen
        have hnl := hvr.length
        cases full with
        | true =>
          simp only [if_true] at hr
          cases hso : src h (.slice si sv0 so m sz' true) m with
          | none => rw [hso] at hr; cases hr
          | some old =>
            rw [hso] at hr
            cases hr
            have hol : old.length = m * sz' := by
              simp only [src] at hso
              split at hso
              · rename_i hm; cases hso; subst hm; simp
              · split at hso
                · split at hso
                  · split at hso
                    · exact cut_len hso
                    · cases hso
                  · cases hso
                · cases hso
            obtain ⟨olds, hvo, hold⟩ := src_sound (sz := sz') P hw hso hs hol
            have key : ∃ base, sv = .slice base m m := by
              cases hs with
              | slice _ _ _ _ _ b sh ps L cap _ hc hl hcp hp hf hz => have := hf rfl; subst this; exact ⟨_, rfl⟩
              | slice0 _ _ _ _ b sh ps L _ a hc hl hz => exact ⟨_, rfl⟩
            obtain ⟨base, rfl⟩ := key
            obtain ⟨cap, rest, hcap, hrest, hrun⟩ := run_grow hw (ty := ty) A hS hold (by omega) hroom
            refine ⟨_, _, _, hrun, new_grown hw (old ++ new) (olds ++ news) rest e (hvo.append hvr) (by rw [List.all_append, src_ones hw hso, src_ones hw hsrc]; rfl) _, ?_⟩
            have hol2 := hvo.length
            have e1 : (m + n) * sz' = m * sz' + n * sz' := Nat.add_mul _ _ _
            refine .slice _ _ _ _ _ w.heap.size 0 _ (old ++ new).length cap _ add_c_self (by simp; omega) hcap ?_ (by simp) hsz0
            simp only [Array.size_append, List.size_toArray, List.length_append]
            have : cap * sz' = (m + n) * sz' + (cap - (m + n)) * sz' := by rw [← Nat.add_mul]; congr 1; omega
            omega
        | false =>
          simp only [Bool.false_eq_true, if_false] at hr
          split at hr
          · rename_i ob ho
            split at hr
            · rename_i hh2
              obtain ⟨rfl, rfl, hro, hml⟩ := hh2
              have hyy := hr
              simp only [Option.some.injEq, Prod.mk.injEq] at hyy
              obtain ⟨rfl, rfl⟩ := hyy
              have hlh := hw.lohi _ _ ho
              have hones : (ob.l.take (m * sz') ++ new).all AV.one = true := by
                rw [List.all_append, src_ones hw hsrc, Bool.and_true, List.all_eq_true]
                intro u hu
                have := hw.ones _ _ ho
                rw [List.all_eq_true] at this
                exact this _ (List.mem_of_mem_take hu)
              have hlo' : (if m * sz' = ob.l.length then ob.lo else ob.hi + 1) = ob.lo ∨ (if m * sz' = ob.l.length then ob.lo else ob.hi + 1) = ob.hi + 1 := by split <;> simp
              have hll : (ob.l.take (m * sz') ++ new).length = (m + n) * sz' := by simp [Nat.add_mul]; omega
              have e1 : (m + n) * sz' = m * sz' + n * sz' := Nat.add_mul _ _ _
              have old_ok : ∀ (w' : World) v b1 sh1 ps1 L1, R.c si v = some (b1, sh1, ps1, L1) → (if m * sz' = ob.l.length then ob.lo else ob.hi + 1) ≤ v → v ≤ ob.hi → w'.heap[b1]? = w.heap[b1]? →
                  CellOK R w' v b1 sh1 ps1 L1 ⟨if m * sz' = ob.l.length then ob.lo else ob.hi + 1, ob.hi + 1, false, ob.l.take (m * sz') ++ new⟩ := by
                intro w' v b1 sh1 ps1 L1 hc1 hl1 hv1 hb1
                have hfull : m * sz' = ob.l.length := by
                  by_cases hq : m * sz' = ob.l.length
                  · exact hq
                  · rw [if_neg hq] at hl1; omega
                rw [if_pos hfull] at hl1
                have hk := hw.cell _ _ _ _ _ _ _ hc1 ho hl1
                have hL1 : L1 ≤ ob.l.length := by obtain ⟨_, _, _, _, _, _, h4, _⟩ := hk; exact h4
                refine cellok_keep hk hb1 (by show v ≠ ob.hi + 1; omega) (by show L1 ≤ (ob.l.take (m * sz') ++ new).length; rw [hll, e1]; omega) (fun _ => hro) ?_
                intro j u hj hu
                exact take_app_get (by omega) (by omega) hu
              have old2 : ∃ olds : List Value, VRs R (ob.l.take (m * sz')) olds ∧ ∀ w2 : World, w2.heap = w.heap → (Builtin.firstCells sz' m sv).run P w2 = .ok olds.toArray w2 := by
                refine src_sound (sz := sz') (n := m) (x := .slice si ob.hi 0 m sz' false) P hw ?_ hs (by simp; omega)
                simp only [src]
                by_cases hm0 : m = 0
                · subst hm0; simp
                · rw [if_neg hm0, if_pos (Nat.le_refl _), ho]
                  simp only []
                  rw [if_pos ⟨hlh, Nat.le_refl _⟩]
                  unfold cut
                  rw [if_pos (by omega)]; simp
              obtain ⟨olds, hvo, hold⟩ := old2
              have hol2 : olds.length = m * sz' := by rw [← hvo.length, List.length_take]; exact Nat.min_eq_left hml
              have moved : ∀ base sCap b sh ps L, sv = .slice base m sCap → sCap < m + n → R.c si ob.hi = some (b, sh, ps, L) →
                  ∃ yv w' R', (Builtin.append_ #[t, tx] ty #[sv, xv]).run P w = .ok yv w' ∧
                    Go2 G R h w R' (h.put si ⟨if m * sz' = ob.l.length then ob.lo else ob.hi + 1, ob.hi + 1, false, ob.l.take (m * sz') ++ new⟩) w' ∧ VR R' (.slice si (ob.hi + 1) 0 (m + n) sz' false) yv := by
                rintro base sCap b sh ps L rfl hlt hc
                obtain ⟨cap, rest, hcap, hrest, hrun⟩ := run_grow hw (ty := ty) A hS hold hlt hroom
                refine ⟨_, _, _, hrun, grow hw hc ho hro _ w.heap.size 0 ((olds ++ news).toArray ++ rest).size _ _ hlo' (.inr rfl) (by simp [World.mk1]) (fun c hc1 _ => push_lt _ _ _ hc1) ?_ ?_ hones rfl rfl rfl, ?_⟩
                · refine ⟨(olds ++ news).toArray ++ rest, e, (0, 0), push_eq _ _, rfl, by simp; omega, Nat.le_refl _, fun _ => rfl, fun _ j _ => by simp, ?_⟩
                  intro j u hj hu
                  obtain ⟨c, hc2, hvc⟩ := (hvo.append hvr).get j u hu
                  refine ⟨c, ?_, hvc⟩
                  have hjl : j < (olds ++ news).length := (List.getElem?_eq_some_iff.1 hc2).1
                  rw [Nat.zero_add, Array.getElem?_append_left (by simpa using hjl)]
                  simpa using hc2
                · intro v b1 sh1 ps1 L1 hc1 hl1 hv1
                  refine old_ok _ v b1 sh1 ps1 L1 hc1 hl1 hv1 (push_lt _ _ _ (hw.blk_lt hc1 ⟨ob, ho, ?_⟩))
                  split at hl1 <;> omega
                · refine .slice _ _ _ _ _ w.heap.size 0 _ _ cap _ add_c_self (by rw [hll]; omega) hcap ?_ (by simp) hsz0
                  simp only [Array.size_append, List.size_toArray, List.length_append]
                  have : cap * sz' = (m + n) * sz' + (cap - (m + n)) * sz' := by rw [← Nat.add_mul]; congr 1; omega
                  omega
              cases hs with
              | slice _ _ _ _ _ b sh ps L cap _ hc hl hcp hp hf hz =>
                by_cases hroom2 : m + n ≤ cap
                · -- in place
                  obtain ⟨arr, T, fz, hb, hs0, h3, h4, h5, h6, h7⟩ := hw.cell _ _ _ _ _ _ _ hc ho hlh
                  have hL := h5 rfl
                  have e2 : (m + n) * sz' ≤ cap * sz' := Nat.mul_le_mul_right _ hroom2
                  obtain ⟨arr', hs', hg', hrun⟩ := run_here (ty := ty) (o := sh + 0) (sLen := m) (sCap := cap) A (hS w rfl) hroom2 hb (by omega) (fun j hj => h6 hro j (by omega))
                  have hblt := (Array.getElem?_eq_some_iff.1 hb).1
                  refine ⟨_, _, _, hrun, grow hw hc ho hro _ b sh ps _ _ hlo' (.inl ⟨rfl, rfl⟩) (by simp [setBlk]) (fun c _ hne => setBlk_ne hne) ?_ ?_ hones rfl rfl rfl, ?_⟩
                  · refine ⟨arr', T, fz, setBlk_self hblt, by omega, by omega, Nat.le_refl _, fun _ => rfl, fun _ => h6 hro, ?_⟩
                    intro j u hj hu
                    rw [hg']
                    by_cases hjm : j < m * sz'
                    · rw [if_neg (by omega)]
                      exact h7 j u (by omega) (take_app_get hml hjm hu)
                    · rw [List.getElem?_append_right (by simp; omega)] at hu
                      obtain ⟨c, hc2, hvc⟩ := hvr.get _ u hu
                      refine ⟨c, ?_, hvc⟩
                      rw [if_pos (by omega)]
                      rw [show sh + j - (sh + 0 + m * sz') = j - (ob.l.take (m * sz')).length by simp; omega]
                      exact hc2
                  · intro v b1 sh1 ps1 L1 hc1 hl1 hv1
                    by_cases hb1 : b1 = b
                    · subst hb1
                      have hfull : m * sz' = ob.l.length := by
                        by_cases hq : m * sz' = ob.l.length
                        · exact hq
                        · rw [if_neg hq] at hl1; omega
                      have hl2 := hl1
                      rw [if_pos hfull] at hl2
                      obtain ⟨_, rfl⟩ := hw.sep _ _ _ _ _ _ _ _ _ _ _ hc1 hc ⟨ob, ho, hl2⟩ ⟨ob, ho, hlh⟩
                      obtain ⟨arr1, T1, fz1, hb2, hs2, g3, g4, g5, g6, g7⟩ := hw.cell _ _ _ _ _ _ _ hc1 ho hl2
                      rw [hb] at hb2; cases hb2
                      refine ⟨arr', T, fz, setBlk_self hblt, by omega, g3, by rw [hll]; omega, fun q => by simp only at q; omega, fun _ => g6 hro, ?_⟩
                      intro j u hj hu
                      rw [hg', if_neg (by omega)]
                      exact g7 j u hj (take_app_get (by omega) (by omega) hu)
                    · exact old_ok _ v b1 sh1 ps1 L1 hc1 hl1 hv1 (setBlk_ne hb1)
                  · refine .slice _ _ _ _ _ b sh ps _ cap _ add_c_self (by rw [hll]; omega) hroom2 (by omega) (by simp) hsz0
                · exact moved _ _ _ _ _ _ rfl (by omega) hc
              | slice0 _ _ _ _ b sh ps L _ a hc hl hz =>
                exact moved _ _ _ _ _ _ rfl (by omega) hc
            · cases hr
          · cases hr
      · cases hr
end
end Go.Kx
/- THE ENGINE, part 9: helpers for the single operations: filling, equality, slicing, maps. -/
namespace Go.Kx
open Go
section
variable {G : Nat} {R : Rl} {h : H} {w : World} {P : Program}

theorem run_mapM_arr {α β : Type} (g : α → Sem β) (r : α → β) (w : World) : ∀ (l : List α), (∀ x ∈ l, (g x).run P w = .ok (r x) w) → (l.mapM g).run P w = .ok (l.map r) w
  | [], _ => by simp
  | x :: l, hh => by
    have h1 := hh x (List.mem_cons_self ..)
    have h2 := run_mapM_arr g r w l (fun y hy => hh y (List.mem_cons_of_mem _ hy))
    simp [List.mapM_cons, h1, h2]
theorem run_mapM_array {α β : Type} (g : α → Sem β) (r : α → β) (w : World) (l : Array α) (hh : ∀ x ∈ l.toList, (g x).run P w = .ok (r x) w) : (l.mapM g).run P w = .ok (l.map r) w := by
  rw [Array.mapM_eq_mapM_toList]
  simp only [Sem.run_map, run_mapM_arr g r w l.toList hh, Result.andThen_ok]
  congr 1
  apply Array.ext'; simp

theorem fold_set (off : Nat) : ∀ (vs : List Value) (k : Nat) (cells : Array Value), ∀ j, (((vs.zipIdx k).foldl (fun cs (c, j) => cs.setIfInBounds (off + j) c) cells)[j]? =
    if off + k ≤ j ∧ j < off + k + vs.length ∧ j < cells.size then vs[j - (off + k)]? else cells[j]?) ∧ ((vs.zipIdx k).foldl (fun cs (c, j) => cs.setIfInBounds (off + j) c) cells).size = cells.size
  | [], k, cells, j => by
    refine ⟨?_, rfl⟩
    simp only [List.zipIdx_nil, List.foldl_nil]
    rw [if_neg (by simp only [List.length_nil]; omega)]
  | v :: vs, k, cells, j => by
    obtain ⟨h1, h2⟩ := fold_set off vs (k + 1) (cells.setIfInBounds (off + k) v) j
    simp only [List.zipIdx_cons, List.foldl_cons]
    refine ⟨?_, by rw [h2]; simp⟩
    rw [h1]
    simp only [Array.size_setIfInBounds, List.length_cons]
    by_cases hj : j = off + k
    · subst hj
      rw [if_neg (by omega)]
      by_cases hs : off + k < cells.size
      · rw [if_pos (by omega)]; simp [hs]
      · rw [if_neg (by omega)]; simp [hs]
    · by_cases hj2 : off + (k + 1) ≤ j ∧ j < off + (k + 1) + vs.length ∧ j < cells.size
      · rw [if_pos hj2, if_pos (by omega), show j - (off + k) = (j - (off + (k + 1))) + 1 by omega]; simp
      · rw [if_neg hj2, if_neg (by omega)]; simp [Ne.symm hj]

/- the parts' places are what the compiler said -/
def PartsOK (P : Program) (place : Nat → Option (Nat × Nat)) (ps : List (Nat × Operand)) (qs : List (Nat × Nat × Opd)) : Prop :=
  match ps, qs with
  | [], [] => True
  | (i, x) :: ps, (o, n, y) :: qs => place i = some (o, n) ∧ opdC P x = some y ∧ PartsOK P place ps qs
  | _, _ => False

theorem fill_sound {ρ : Operand → Value} {fr : List AV} (hρ : ∀ x y, opdC P x = some y → VR R (opd fr y) (ρ x)) (place : Nat → Option (Nat × Nat)) :
    ∀ (ps : List (Nat × Operand)) (qs : List (Nat × Nat × Opd)) (cs l : List AV) (cells : Array Value), PartsOK P place ps qs → lay cs fr qs = some l → VRs R cs cells.toList →
      ∃ out, Instr.fill place cells (ps.map fun (i, x) => (i, ρ x)) = some out ∧ VRs R l out.toList
  | [], [], cs, l, cells, _, hl, hv => by
    simp only [lay] at hl; cases hl
    exact ⟨cells, rfl, hv⟩
  | (i, x) :: ps, (o, n, y) :: qs, cs, l, cells, hp, hl, hv => by
    obtain ⟨h1, h2, h3⟩ := hp
    simp only [lay] at hl
    split at hl
    · rename_i hh
      obtain ⟨hn, ho, hone⟩ := hh
      have hx := hρ x y h2
      have hxc := hx.cells (cells_ne hone)
      have hcl := hxc.length
      have hsz := hv.length
      have hcl' : (ρ x).cells.size = n := by rw [← hn, hcl]; simp
      have hsz' : cells.size = cs.length := by rw [hsz]; simp
      have hv' : VRs R (splice cs o (opd fr y).cells) ((ρ x).cells.zipIdx.foldl (fun cs (c, j) => cs.setIfInBounds (o + j) c) cells).toList := by
        have hf := fold_set o (ρ x).cells.toList 0 cells
        have e : (ρ x).cells.zipIdx.foldl (fun cs (c, j) => cs.setIfInBounds (o + j) c) cells = ((ρ x).cells.toList.zipIdx 0).foldl (fun cs (c, j) => cs.setIfInBounds (o + j) c) cells := by
          rw [← Array.foldl_toList, Array.toList_zipIdx]
        rw [e]
        refine VRs.of_get (by rw [splice_len _ _ _ (by omega)]; simp [(hf 0).2, hsz']) ?_
        intro j u v hu hvv
        have hg := (hf j).1
        rw [splice_get _ _ _ _ (by omega)] at hu
        rw [Array.getElem?_toList, hg] at hvv
        simp only [Array.length_toList] at hvv
        split at hu
        · rename_i hj
          rw [if_pos (by omega)] at hvv
          obtain ⟨c, hc, hvr⟩ := hxc.get _ _ hu
          simp only [Nat.add_zero] at hvv
          rw [hc] at hvv; cases hvv; exact hvr
        · rename_i hj
          rw [if_neg (by omega)] at hvv
          obtain ⟨c, hc, hvr⟩ := hv.get _ _ hu
          rw [Array.getElem?_toList] at hc
          rw [hc] at hvv; cases hvv; exact hvr
      obtain ⟨out, hout, hvo⟩ := fill_sound hρ place ps qs _ _ _ h3 hl hv'
      refine ⟨out, ?_, hvo⟩
      simp only [List.map_cons, Instr.fill, h1]
      rw [if_neg (by simp [hcl']; omega)]
      exact hout
    · cases hl
  | [], _ :: _, _, _, _, hp, _, _ => hp.elim
  | _ :: _, [], _, _, _, hp, _, _ => hp.elim

theorem partsF_ok (fs : Array Field) : ∀ (ps : List (Nat × Operand)) (qs : List (Nat × Nat × Opd)), partsF P fs ps = some qs →
    PartsOK P (fun i => ((fs.map fun f => (f.offset, P.cellsOf f.type)))[i]?) ps qs
  | [], qs, hh => by simp only [partsF] at hh; cases hh; trivial
  | (i, x) :: ps, qs, hh => by
    simp only [partsF] at hh
    split at hh
    · rename_i f y l h1 h2 h3
      split at hh
      · rename_i n hn
        cases hh
        refine ⟨?_, h2, partsF_ok fs ps l h3⟩
        simp only [Array.getElem?_map, h1, Option.map_some]
        unfold szT at hn
        simp [Program.cellsOf, hn]
      · cases hh
    · cases hh
theorem partsA_ok (sz : Nat) : ∀ (ps : List (Nat × Operand)) (qs : List (Nat × Nat × Opd)), partsA P sz ps = some qs → PartsOK P (fun i => some (i * sz, sz)) ps qs
  | [], qs, hh => by simp only [partsA] at hh; cases hh; trivial
  | (i, x) :: ps, qs, hh => by
    simp only [partsA] at hh
    split at hh
    · rename_i y l h1 h2
      cases hh
      exact ⟨rfl, h1, partsA_ok sz ps l h2⟩
    · cases hh

theorem szT_run {t : TypeId} {n : Nat} (hs : szT P t = some n) (w : World) : (sizeOf t).run P w = .ok n w := by
  unfold szT at hs
  cases hi : P.info? t with
  | none => rw [hi] at hs; cases hs
  | some i => rw [hi] at hs; cases hs; simp [sizeOf, typeInfo, hi]
theorem byT_run {t : TypeId} {n : Nat} (hs : byT P t = some n) : ∃ i, P.info? t = some i ∧ i.bytes = n := by
  unfold byT at hs
  cases hi : P.info? t with
  | none => rw [hi] at hs; cases hs
  | some i => rw [hi] at hs; cases hs; exact ⟨i, rfl, rfl⟩
theorem szT_info {t : TypeId} {n : Nat} (hs : szT P t = some n) : ∃ i, P.info? t = some i ∧ i.size = n := by
  unfold szT at hs
  cases hi : P.info? t with
  | none => rw [hi] at hs; cases hs
  | some i => rw [hi] at hs; cases hs; exact ⟨i, rfl, rfl⟩
theorem aggT_run {t : TypeId} {b : Bool} (hs : aggT P t = some b) (w : World) : (isAgg t).run P w = .ok b w := by
  unfold aggT at hs
  cases hu : P.underlying t with
  | none => rw [hu] at hs; cases hs
  | some d =>
    rw [hu] at hs
    simp only [isAgg, Sem.run_bind, run_underlying hu, Result.andThen_ok]
    cases d <;> simp at hs <;> subst hs <;> rfl
theorem zeroT_run {t : TypeId} {z : AV} (hs : zeroT P t = some z) : ∃ v, (∀ w, (zeroValue t).run P w = .ok v w) ∧ VR R z v ∧ VRs R z.cells v.cells.toList := by
  obtain ⟨i, v, hi, hz, h1, h2⟩ := zeroT_sound (R := R) hs
  exact ⟨v, fun w => by simp [zeroValue, typeInfo, hi, hz], h2, h1⟩

/- numbers -/
theorem asNat_int {x : AV} {n : Nat} {v : Value} (hn : asNat x = some n) (hv : VR R x v) : ∃ k, v = .int k (n : Int) := by
  cases hv <;> simp only [asNat] at hn <;> try (cases hn; done)
  rename_i k m
  split at hn
  · rename_i h0; cases hn; exact ⟨k, by rw [Int.toNat_of_nonneg h0]⟩
  · cases hn

theorem beq_bytes (a b : ByteArray) : (a == b) = (a.data.toList == b.data.toList) := by
  rw [beq_toListBytes, ByteArray.toList_eq, ByteArray.toList_eq]
end
end Go.Kx
