/- THE FRAME, part 1: a run over a small heap is a run over each heap that holds its objects under other names; the rest stays. Renaming. -/
import Derived.Test.YtmafgdnlggoljaaGreatDoorE1
namespace Go.Kx
open Go

/- a naming: ids, and by how much versions are shifted -/
structure Nm where
  i : Nat → Nat
  d : Nat → Nat

mutual
def ren (ι : Nm) : AV → AV
  | .undef => .undef
  | .bool b => .bool b
  | .int k n => .int k n
  | .str s => .str s
  | .nil => .nil
  | .ptr i v o => .ptr (ι.i i) (v + ι.d i) o
  | .nilS => .nilS
  | .slice i v o n sz f => .slice (ι.i i) (v + ι.d i) o n sz f
  | .nilM => .nilM
  | .map i => .map (ι.i i)
  | .nilF => .nilF
  | .func f a b => .func f (rens ι a) (rens ι b)
  | .nilI => .nilI
  | .iface t x => .iface t (ren ι x)
  | .agg l => .agg (rens ι l)
  | .tup l => .tup (rens ι l)
def rens (ι : Nm) : List AV → List AV
  | [] => []
  | x :: l => ren ι x :: rens ι l
end

/- no names in it -/
mutual
def pureV : AV → Bool
  | .ptr .. | .slice .. | .map _ => false
  | .func _ a b => pureVs a && pureVs b
  | .iface _ x => pureV x
  | .agg l | .tup l => pureVs l
  | _ => true
def pureVs : List AV → Bool
  | [] => true
  | x :: l => pureV x && pureVs l
end

section
variable {ι : Nm}
mutual
theorem ren_pure : ∀ {x : AV}, pureV x = true → ren ι x = x
  | .undef, _ => rfl
  | .bool b, _ => rfl
  | .int k n, _ => rfl
  | .str s, _ => rfl
  | .nil, _ => rfl
  | .nilS, _ => rfl
  | .nilM, _ => rfl
  | .nilF, _ => rfl
  | .nilI, _ => rfl
  | .func f a b, h => by simp only [pureV, Bool.and_eq_true] at h; simp only [ren, rens_pure h.1, rens_pure h.2]
  | .iface t x, h => by simp only [pureV] at h; simp only [ren, ren_pure h]
  | .agg l, h => by simp only [pureV] at h; simp only [ren, rens_pure h]
  | .tup l, h => by simp only [pureV] at h; simp only [ren, rens_pure h]
  | .ptr .., h => by simp [pureV] at h
  | .slice .., h => by simp [pureV] at h
  | .map _, h => by simp [pureV] at h
theorem rens_pure : ∀ {l : List AV}, pureVs l = true → rens ι l = l
  | [], _ => rfl
  | x :: l, h => by simp only [pureVs, Bool.and_eq_true] at h; simp only [rens, ren_pure h.1, rens_pure h.2]
end

theorem rens_map : ∀ l : List AV, rens ι l = l.map (ren ι)
  | [] => rfl
  | x :: l => by simp only [rens, List.map_cons, rens_map l]
theorem rens_length (l : List AV) : (rens ι l).length = l.length := by rw [rens_map]; simp
theorem rens_append (l m : List AV) : rens ι (l ++ m) = rens ι l ++ rens ι m := by simp only [rens_map, List.map_append]
theorem rens_take (l : List AV) (n : Nat) : rens ι (l.take n) = (rens ι l).take n := by simp only [rens_map, List.map_take]
theorem rens_drop (l : List AV) (n : Nat) : rens ι (l.drop n) = (rens ι l).drop n := by simp only [rens_map, List.map_drop]
theorem rens_get (l : List AV) (n : Nat) : (rens ι l)[n]? = (l[n]?).map (ren ι) := by simp only [rens_map, List.getElem?_map]
theorem ren_cells (x : AV) : (ren ι x).cells = rens ι x.cells := by cases x <;> rfl
theorem ren_one (x : AV) : (ren ι x).one = x.one := by cases x <;> rfl
theorem rens_ones : ∀ l : List AV, (rens ι l).all AV.one = l.all AV.one
  | [] => rfl
  | x :: l => by simp only [rens, List.all_cons, ren_one, rens_ones l]
theorem rens_repl (z : List AV) : ∀ n, rens ι (repl n z) = repl n (rens ι z)
  | 0 => rfl
  | n + 1 => by simp only [repl, rens_append, rens_repl z n]
theorem rens_nth : ∀ (l : List AV) (t : Nat), nth (rens ι l) t = ren ι (nth l t)
  | [], _ => rfl
  | _ :: _, 0 => rfl
  | _ :: l, t + 1 => by simp only [rens, nth, rens_nth l t]
theorem rens_setN : ∀ (l : List AV) (t : Nat) (x : AV), rens ι (setN l t x) = setN (rens ι l) t (ren ι x)
  | [], _, _ => rfl
  | _ :: _, 0, _ => rfl
  | _ :: l, t + 1, x => by simp only [rens, setN, rens_setN l t x]
theorem rens_putD (l : List AV) (d : Option Nat) (x : AV) : rens ι (putD l d x) = putD (rens ι l) d (ren ι x) := by
  cases d with
  | none => rfl
  | some t => exact rens_setN l t x
theorem rens_splice (l : List AV) (o : Nat) (x : List AV) : rens ι (splice l o x) = splice (rens ι l) o (rens ι x) := by
  simp only [splice, rens_append, rens_take, rens_drop, rens_length]
theorem rens_cut (l : List AV) (o n : Nat) : cut (rens ι l) o n = (cut l o n).map (rens ι) := by
  simp only [cut, rens_length]
  split
  · simp only [Option.map_some, rens_take, rens_drop]
  · rfl

/- operands whose literals have no names, and whose globals are named as they are -/
def okO (G : Nat) : Opd → Bool
  | .lit x => pureV x
  | .glob g => Nat.blt g G
  | _ => true
def okOo (G : Nat) : Option Opd → Bool
  | some x => okO G x
  | none => true
def okOs (G : Nat) : List Opd → Bool
  | [] => true
  | x :: l => okO G x && okOs G l
def okP (G : Nat) : List (Nat × Nat × Opd) → Bool
  | [] => true
  | (_, _, x) :: l => okO G x && okP G l
def okOp (G : Nat) : AOp → Bool
  | .mv x | .box _ x | .load x | .loadN _ x | .nilck x | .un _ x | .convI _ x | .convS x | .toStr x | .toB x | .faddr _ x | .field _ x | .fieldN _ _ x | .ext x _ | .lenS x | .lenL x | .lenM x | .iface _ x => okO G x
  | .pick c a b => okO G c && (okO G a && okO G b)
  | .new z => pureVs z
  | .mkmap => true
  | .build z ps => pureVs z && okP G ps
  | .row _ _ z ps => pureVs z && okP G ps
  | .mksl _ _ z a x => pureVs z && (okO G a && okO G x)
  | .look _ z a x _ => pureV z && (okO G a && okO G x)
  | .store _ a x | .bin _ _ a x | .iaddr _ a x | .iaddrA _ _ a x | .idxS a x | .idxA _ a x | .idxAN _ _ a x | .app _ _ a x | .copy _ a x | .mn a x | .mx a x => okO G a && okO G x
  | .mkfunc _ a b => okOs G a && okOs G b
  | .sliceS x lo hi => okO G x && (okOo G lo && okOo G hi)
  | .sliceL _ x lo hi mx => okO G x && (okOo G lo && (okOo G hi && okOo G mx))
  | .upd _ m k x => okO G m && (okO G k && okO G x)
  | .call f args | .dfr f args => okO G f && okOs G args

variable {G : Nat} (hG : ∀ g, g < G → ι.i g = g ∧ ι.d g = 0)
include hG
theorem ren_opd {x : Opd} (h : okO G x = true) (fr : List AV) : opd (rens ι fr) x = ren ι (opd fr x) := by
  cases x with
  | tmp t => exact rens_nth fr t
  | lit x => exact (ren_pure h).symm
  | glob g => simp only [opd, ren]; rw [(hG g (by simpa [okO, Nat.blt_eq] using h)).1, (hG g (by simpa [okO, Nat.blt_eq] using h)).2]
  | fn f => rfl
theorem ren_opds (fr : List AV) : ∀ {l : List Opd}, okOs G l = true → l.map (opd (rens ι fr)) = rens ι (l.map (opd fr))
  | [], _ => rfl
  | x :: l, h => by
    simp only [okOs, Bool.and_eq_true] at h
    simp only [List.map_cons, rens, ren_opd hG h.1, ren_opds fr h.2]
theorem ren_lay (fr : List AV) : ∀ {ps : List (Nat × Nat × Opd)} {cs : List AV}, okP G ps = true → lay (rens ι cs) (rens ι fr) ps = (lay cs fr ps).map (rens ι)
  | [], cs, _ => rfl
  | (o, n, x) :: ps, cs, h => by
    simp only [okP, Bool.and_eq_true] at h
    simp only [lay, ren_opd hG h.1, ren_cells, rens_length, rens_ones]
    split
    · rw [← rens_splice, ren_lay fr h.2]
    · rfl
omit hG in
theorem ren_asNat (x : AV) : asNat (ren ι x) = asNat x := by cases x <;> rfl
theorem ren_optNat (fr : List AV) {x : Option Opd} (h : okOo G x = true) (d : Nat) : optNat (rens ι fr) x d = optNat fr x d := by
  cases x with
  | none => rfl
  | some x => simp only [optNat, ren_opd hG h, ren_asNat]
theorem ren_maxNat (fr : List AV) {x : Option Opd} (h : okOo G x = true) : maxNat (rens ι fr) x = maxNat fr x := by
  cases x with
  | none => rfl
  | some x => simp only [maxNat, ren_opd hG h, ren_asNat]
omit hG
theorem ren_lenL (x : AV) : lenL (ren ι x) = lenL x := by cases x <;> rfl
theorem ren_lenS (x : AV) : lenS (ren ι x) = lenS x := by cases x <;> rfl
theorem ren_eqK {d : Kd} {x y : AV} {b : Bool} (h : eqK d x y = some b) : eqK d (ren ι x) (ren ι y) = some b := by
  cases d <;> cases x <;> cases y <;> simp only [eqK, ren] at h ⊢ <;> first
    | exact h
    | (cases h; done)
    | (split at h
       · rename_i hh; rw [if_pos ⟨by rw [hh.1], by rw [hh.1, hh.2]⟩]; exact h
       · cases h)
theorem ren_eqKs : ∀ {ks : List Kd} {x y : List AV} {b : Bool}, eqKs ks x y = some b → eqKs ks (rens ι x) (rens ι y) = some b
  | [], [], [], b, h => h
  | k :: ks, x :: l, y :: m, b, h => by
    simp only [eqKs] at h
    split at h
    · rename_i p q h1 h2
      simp only [rens, eqKs, ren_eqK h1, ren_eqKs h2]
      exact h
    · cases h
  | [], [], _ :: _, _, h => by simp [eqKs] at h
  | [], _ :: _, _, _, h => by simp [eqKs] at h
  | _ :: _, [], _, _, h => by simp [eqKs] at h
  | _ :: _, _ :: _, [], _, h => by simp [eqKs] at h
theorem ren_eqV {e : EqT} {x y : AV} {b : Bool} (h : eqV e x y = some b) : eqV e (ren ι x) (ren ι y) = some b := by
  cases e with
  | no => simp [eqV] at h
  | leaf k => exact ren_eqK h
  | flat ks =>
    cases x <;> cases y <;> simp only [eqV] at h <;> first
      | (cases h; done)
      | exact ren_eqKs h
end
end Go.Kx
/- THE FRAME, part 2: memory under another naming; one operation. -/
namespace Go.Kx
open Go

def renO (ι : Nm) (dl : Nat) (o : Obj) : Obj := ⟨o.lo + dl, o.hi + dl, o.ro, rens ι o.l⟩
def renE (ι : Nm) : List (AV × AV) → List (AV × AV)
  | [] => []
  | (k, x) :: l => (ren ι k, ren ι x) :: renE ι l

structure RelH (ι : Nm) (B n0 N0 : Nat) (S : Nat → Prop) (h0 : H) (hs h : H) : Prop where
  n0le : n0 ≤ hs.nx
  nx : h.nx = N0 + (hs.nx - n0)
  lt : ∀ i ob, hs.get i = some ob → ι.i i < h.nx
  cs : ∀ i ob, hs.get i = some ob → h.get (ι.i i) = some (renO ι (ι.d i) ob)
  inj : ∀ i j ob ob', hs.get i = some ob → hs.get j = some ob' → ι.i i = ι.i j → i = j
  dz : ∀ i ob, hs.get i = some ob → ob.hi = 0 → ι.d i = 0
  ltm : ∀ i es, hs.gm i = some es → ι.i i < h.nx
  ms : ∀ i es, hs.gm i = some es → h.gm (ι.i i) = some (renE ι es)
  injm : ∀ i j es es', hs.gm i = some es → hs.gm j = some es' → ι.i i = ι.i j → i = j
  own : ∀ i ob, hs.get i = some ob → ι.i i < N0 → S (ι.i i)
  ownm : ∀ i es, hs.gm i = some es → ι.i i < N0 → S (ι.i i)
  un : ∀ j, j < N0 → ¬ S j → h.get j = h0.get j ∧ h.gm j = h0.gm j

theorem g_new_self (h : H) (l : List AV) : (h.new l).get h.nx = some ⟨0, 0, false, l⟩ := Tr.get_set_same _ _ _
theorem g_new_ne (h : H) (l : List AV) (i : Nat) (hi : i ≠ h.nx) : (h.new l).get i = h.get i := Tr.get_set_ne _ _ _ _ hi
theorem g_newm_self (h : H) : h.newm.gm h.nx = some [] := Tr.get_set_same _ _ _
theorem g_newm_ne (h : H) (i : Nat) (hi : i ≠ h.nx) : h.newm.gm i = h.gm i := Tr.get_set_ne _ _ _ _ hi
theorem g_put_self (h : H) (i : Nat) (o : Obj) : (h.put i o).get i = some o := Tr.get_set_same _ _ _
theorem g_put_ne (h : H) (i j : Nat) (o : Obj) (hi : j ≠ i) : (h.put i o).get j = h.get j := Tr.get_set_ne _ _ _ _ hi
theorem g_putm_self (h : H) (i : Nat) (o : List (AV × AV)) : (h.putm i o).gm i = some o := Tr.get_set_same _ _ _
theorem g_putm_ne (h : H) (i j : Nat) (o : List (AV × AV)) (hi : j ≠ i) : (h.putm i o).gm j = h.gm j := Tr.get_set_ne _ _ _ _ hi

section
variable {ι : Nm} {B n0 N0 : Nat} {S : Nat → Prop} {h0 hs h : H}

theorem RelH.put (r : RelH ι B n0 N0 S h0 hs h) {i : Nat} {ob : Obj} (ho : hs.get i = some ob) (ob' : Obj) (hz : ob'.hi = 0 → ob.hi = 0) : RelH ι B n0 N0 S h0 (hs.put i ob') (h.put (ι.i i) (renO ι (ι.d i) ob')) := by
  have key : ∀ j o, (hs.put i ob').get j = some o → ∃ o', hs.get j = some o' := by
    intro j o hj
    by_cases e : j = i
    · subst e; exact ⟨ob, ho⟩
    · rw [g_put_ne _ _ _ _ e] at hj; exact ⟨o, hj⟩
  refine ⟨r.n0le, r.nx, ?_, ?_, ?_, ?_, r.ltm, r.ms, r.injm, ?_, r.ownm, ?_⟩
  · intro j o hj; obtain ⟨o', h'⟩ := key j o hj; exact r.lt j o' h'
  · intro j o hj
    by_cases e : j = i
    · subst e; rw [g_put_self] at hj; cases hj; exact g_put_self _ _ _
    · rw [g_put_ne _ _ _ _ e] at hj
      rw [g_put_ne _ _ _ _ (fun hh => e (r.inj _ _ _ _ hj ho hh))]
      exact r.cs j o hj
  · intro j k o o' hj hk e
    obtain ⟨p, hp⟩ := key j o hj
    obtain ⟨q, hq⟩ := key k o' hk
    exact r.inj _ _ _ _ hp hq e
  · intro j o hj ho0
    by_cases e : j = i
    · subst e; rw [g_put_self] at hj; cases hj; exact r.dz _ _ ho (hz ho0)
    · rw [g_put_ne _ _ _ _ e] at hj; exact r.dz j o hj ho0
  · intro j o hj hlt; obtain ⟨o', h'⟩ := key j o hj; exact r.own j o' h' hlt
  · intro j hj hS
    have : j ≠ ι.i i := fun e => hS (by rw [e]; exact r.own i ob ho (by rw [← e]; exact hj))
    rw [g_put_ne _ _ _ _ this]
    exact r.un j hj hS

theorem RelH.putm (r : RelH ι B n0 N0 S h0 hs h) {i : Nat} {es : List (AV × AV)} (ho : hs.gm i = some es) (es' : List (AV × AV)) : RelH ι B n0 N0 S h0 (hs.putm i es') (h.putm (ι.i i) (renE ι es')) := by
  have key : ∀ j o, (hs.putm i es').gm j = some o → ∃ o', hs.gm j = some o' := by
    intro j o hj
    by_cases e : j = i
    · subst e; exact ⟨es, ho⟩
    · rw [g_putm_ne _ _ _ _ e] at hj; exact ⟨o, hj⟩
  refine ⟨r.n0le, r.nx, r.lt, r.cs, r.inj, r.dz, ?_, ?_, ?_, r.own, ?_, ?_⟩
  · intro j o hj; obtain ⟨o', h'⟩ := key j o hj; exact r.ltm j o' h'
  · intro j o hj
    by_cases e : j = i
    · subst e; rw [g_putm_self] at hj; cases hj; exact g_putm_self _ _ _
    · rw [g_putm_ne _ _ _ _ e] at hj
      rw [g_putm_ne _ _ _ _ (fun hh => e (r.injm _ _ _ _ hj ho hh))]
      exact r.ms j o hj
  · intro j k o o' hj hk e
    obtain ⟨p, hp⟩ := key j o hj
    obtain ⟨q, hq⟩ := key k o' hk
    exact r.injm _ _ _ _ hp hq e
  · intro j o hj hlt; obtain ⟨o', h'⟩ := key j o hj; exact r.ownm j o' h' hlt
  · intro j hj hS
    have : j ≠ ι.i i := fun e => hS (by rw [e]; exact r.ownm i es ho (by rw [← e]; exact hj))
    rw [g_putm_ne _ _ _ _ this]
    exact r.un j hj hS

variable (lock : ∀ k, n0 ≤ k → k < B → ι.i k = N0 + (k - n0) ∧ ι.d k = 0)
include lock
theorem RelH.next (r : RelH ι B n0 N0 S h0 hs h) (hB : hs.nx < B) : ι.i hs.nx = h.nx := by rw [(lock _ r.n0le hB).1, r.nx]
theorem RelH.nextd (r : RelH ι B n0 N0 S h0 hs h) (hB : hs.nx < B) : ι.d hs.nx = 0 := (lock _ r.n0le hB).2
theorem RelH.new (r : RelH ι B n0 N0 S h0 hs h) (hB : hs.nx < B) (l : List AV) : RelH ι B n0 N0 S h0 (hs.new l) (h.new (rens ι l)) := by
  have hn := r.next lock hB
  have hge : N0 ≤ h.nx := by rw [r.nx]; omega
  have key : ∀ j o, (hs.new l).get j = some o → (j = hs.nx ∧ o = ⟨0, 0, false, l⟩) ∨ (j ≠ hs.nx ∧ hs.get j = some o) := by
    intro j o hj
    by_cases e : j = hs.nx
    · subst e; rw [g_new_self] at hj; cases hj; exact .inl ⟨rfl, rfl⟩
    · rw [g_new_ne _ _ _ e] at hj; exact .inr ⟨e, hj⟩
  refine ⟨by have := r.n0le; simp only [H.new]; omega, by have := r.nx; have := r.n0le; simp only [H.new]; omega, ?_, ?_, ?_, ?_, ?_, ?_, r.injm, ?_, r.ownm, ?_⟩
  · intro j o hj
    show ι.i j < h.nx + 1
    rcases key j o hj with ⟨rfl, rfl⟩ | ⟨_, h'⟩
    · omega
    · have := r.lt j o h'; omega
  · intro j o hj
    rcases key j o hj with ⟨rfl, rfl⟩ | ⟨_, h'⟩
    · rw [hn, r.nextd lock hB]; exact g_new_self _ _
    · rw [g_new_ne _ _ _ (Nat.ne_of_lt (r.lt j o h'))]; exact r.cs j o h'
  · intro j k o o' hj hk e
    rcases key j o hj with ⟨rfl, _⟩ | ⟨_, h1⟩ <;> rcases key k o' hk with ⟨rfl, _⟩ | ⟨_, h2⟩
    · rfl
    · have := r.lt k o' h2; omega
    · have := r.lt j o h1; omega
    · exact r.inj _ _ _ _ h1 h2 e
  · intro j o hj ho0
    rcases key j o hj with ⟨rfl, _⟩ | ⟨_, h'⟩
    · exact r.nextd lock hB
    · exact r.dz j o h' ho0
  · intro j es hj; have := r.ltm j es hj; show ι.i j < h.nx + 1; omega
  · intro j es hj; exact r.ms j es hj
  · intro j o hj hlt
    rcases key j o hj with ⟨rfl, _⟩ | ⟨_, h'⟩
    · omega
    · exact r.own j o h' hlt
  · intro j hj hS
    rw [g_new_ne _ _ _ (by omega)]
    exact r.un j hj hS
theorem RelH.newm (r : RelH ι B n0 N0 S h0 hs h) (hB : hs.nx < B) : RelH ι B n0 N0 S h0 hs.newm h.newm := by
  have hn := r.next lock hB
  have hge : N0 ≤ h.nx := by rw [r.nx]; omega
  have key : ∀ j o, hs.newm.gm j = some o → (j = hs.nx ∧ o = []) ∨ (j ≠ hs.nx ∧ hs.gm j = some o) := by
    intro j o hj
    by_cases e : j = hs.nx
    · subst e; rw [g_newm_self] at hj; cases hj; exact .inl ⟨rfl, rfl⟩
    · rw [g_newm_ne _ _ e] at hj; exact .inr ⟨e, hj⟩
  refine ⟨by have := r.n0le; simp only [H.newm]; omega, by have := r.nx; have := r.n0le; simp only [H.newm]; omega, ?_, ?_, r.inj, r.dz, ?_, ?_, ?_, r.own, ?_, ?_⟩
  · intro j es hj; have := r.lt j es hj; show ι.i j < h.nx + 1; omega
  · intro j es hj; exact r.cs j es hj
  · intro j o hj
    show ι.i j < h.nx + 1
    rcases key j o hj with ⟨rfl, rfl⟩ | ⟨_, h'⟩
    · omega
    · have := r.ltm j o h'; omega
  · intro j o hj
    rcases key j o hj with ⟨rfl, rfl⟩ | ⟨_, h'⟩
    · rw [hn]; exact g_newm_self _
    · rw [g_newm_ne _ _ (Nat.ne_of_lt (r.ltm j o h'))]; exact r.ms j o h'
  · intro j k o o' hj hk e
    rcases key j o hj with ⟨rfl, _⟩ | ⟨_, h1⟩ <;> rcases key k o' hk with ⟨rfl, _⟩ | ⟨_, h2⟩
    · rfl
    · have := r.ltm k o' h2; omega
    · have := r.ltm j o h1; omega
    · exact r.injm _ _ _ _ h1 h2 e
  · intro j o hj hlt
    rcases key j o hj with ⟨rfl, _⟩ | ⟨_, h'⟩
    · omega
    · exact r.ownm j o h' hlt
  · intro j hj hS
    rw [g_newm_ne _ _ (by omega)]
    exact r.un j hj hS
omit lock

theorem map_some'' {α β : Type} {f : α → β} {a : Option α} {y : β} (h : a.map f = some y) : ∃ x, a = some x ∧ f x = y := by
  cases a with
  | none => cases h
  | some x => exact ⟨x, rfl, by simpa using h⟩

theorem rd_ren (r : RelH ι B n0 N0 S h0 hs h) {p x : AV} (hr : rd hs p = some x) : rd h (ren ι p) = some (ren ι x) := by
  cases p <;> simp only [rd] at hr <;> try (cases hr; done)
  rename_i i v o
  simp only [ren, rd]
  split at hr
  · rename_i ob ho
    rw [r.cs i ob ho]
    split at hr
    · rename_i hv
      show (if v + ι.d i = ob.hi + ι.d i then (rens ι ob.l)[o]? else none) = _
      rw [if_pos (by rw [hv]), rens_get, hr]; rfl
    · cases hr
  · cases hr
theorem rdN_ren (r : RelH ι B n0 N0 S h0 hs h) {p : AV} {n : Nat} {x : List AV} (hr : rdN hs p n = some x) : rdN h (ren ι p) n = some (rens ι x) := by
  cases p <;> simp only [rdN] at hr <;> try (cases hr; done)
  rename_i i v o
  simp only [ren, rdN]
  split at hr
  · rename_i ob ho
    rw [r.cs i ob ho]
    split at hr
    · rename_i hv
      show (if v + ι.d i = ob.hi + ι.d i then cut (rens ι ob.l) o n else none) = _
      rw [if_pos (by rw [hv]), rens_cut, hr]; rfl
    · cases hr
  · cases hr
theorem wr_ren (r : RelH ι B n0 N0 S h0 hs h) {p : AV} {x : List AV} {hs' : H} (hr : wr hs p x = some hs') : ∃ h', wr h (ren ι p) (rens ι x) = some h' ∧ RelH ι B n0 N0 S h0 hs' h' := by
  cases p <;> simp only [wr] at hr <;> try (cases hr; done)
  rename_i i v o
  simp only [ren, wr]
  split at hr
  · rename_i ob ho
    rw [r.cs i ob ho]
    split at hr
    · rename_i hc
      cases hr
      refine ⟨_, if_pos ⟨by show v + ι.d i = ob.hi + ι.d i; rw [hc.1], hc.2.1, by simp only [renO, rens_length]; exact hc.2.2.1, by rw [rens_ones]; exact hc.2.2.2⟩, ?_⟩
      have := r.put ho ⟨ob.hi, ob.hi, false, splice ob.l o x⟩ (fun h => h)
      simp only [renO, rens_splice] at this
      exact this
    · cases hr
  · cases hr
theorem src_ren (r : RelH ι B n0 N0 S h0 hs h) {x : AV} {n : Nat} {l : List AV} (hr : src hs x n = some l) : src h (ren ι x) n = some (rens ι l) := by
  cases x <;> simp only [src] at hr <;> try (cases hr; done)
  case nilS =>
    simp only [ren, src]
    split at hr
    · rename_i hn; cases hr; rw [if_pos hn]; rfl
    · cases hr
  case slice i v o m sz f =>
    simp only [ren, src]
    split at hr
    · rename_i hn; cases hr; rw [if_pos hn]; rfl
    · rename_i hn
      rw [if_neg hn]
      split at hr
      · rename_i hm
        rw [if_pos hm]
        split at hr
        · rename_i ob ho
          rw [r.cs i ob ho]
          split at hr
          · rename_i hv
            show (if ob.lo + ι.d i ≤ v + ι.d i ∧ v + ι.d i ≤ ob.hi + ι.d i then cut (rens ι ob.l) o (n * sz) else none) = _
            rw [if_pos ⟨by omega, by omega⟩, rens_cut, hr]; rfl
          · cases hr
        · cases hr
      · cases hr
  case str s =>
    simp only [ren, src]
    split at hr
    · rename_i hn
      cases hr
      rw [if_pos hn, rens_map, List.map_map]
      rfl
    · cases hr
theorem find_ren {d : Kd} {k : AV} : ∀ {es : List (AV × AV)} {q : Option AV}, find d k es = some q → find d (ren ι k) (renE ι es) = some (q.map (ren ι))
  | [], q, hq => by simp only [find] at hq; cases hq; rfl
  | (j, x) :: es, q, hq => by
    simp only [find] at hq
    simp only [renE, find]
    split at hq
    · rename_i he; rw [ren_eqK he]; cases hq; rfl
    · rename_i he; rw [ren_eqK he]; exact find_ren hq
    · cases hq
theorem keyOf_ren (d : Kd) (k : AV) : keyOf d (ren ι k) = keyOf d k := by cases d <;> cases k <;> rfl
theorem update_ren {d : Kd} {k x : AV} : ∀ {es : List (AV × AV)} {q : Option AV}, find d k es = some q → update d (ren ι k) (ren ι x) (renE ι es) = renE ι (update d k x es)
  | [], q, _ => rfl
  | (j, y) :: es, q, hq => by
    simp only [find] at hq
    simp only [renE, update]
    split at hq
    · rename_i he; rw [ren_eqK he, he]; rfl
    · rename_i he; rw [ren_eqK he, he]; simp only [renE]; rw [update_ren hq]
    · cases hq
theorem toBytes_ren : ∀ (l : List AV), toBytes (rens ι l) = toBytes l
  | [] => rfl
  | x :: l => by
    cases x <;> simp only [rens, ren, toBytes]
    rename_i k n
    cases k <;> simp only [toBytes, toBytes_ren l]
theorem renE_length : ∀ es : List (AV × AV), (renE ι es).length = es.length
  | [] => rfl
  | (k, x) :: l => by simp only [renE, List.length_cons, renE_length l]
def eqPart (op : BinOp) (e : EqT) (x y : AV) : Option AV := match op with
  | .eql => (eqV e x y).map .bool
  | .neq => (eqV e x y).map fun b => .bool !b
  | _ => none
theorem eqPart_ren {op : BinOp} {e : EqT} {x y v : AV} (hb : eqPart op e x y = some v) : eqPart op e (ren ι x) (ren ι y) = some (ren ι v) := by
  cases op <;> simp only [eqPart] at hb ⊢ <;> first
    | (cases hb; done)
    | (obtain ⟨b, h1, h2⟩ := map_some'' hb; rw [ren_eqV h1]; subst h2; rfl)
theorem binA_ren {op : BinOp} {e : EqT} {x y v : AV} (hb : binA op e x y = some v) : binA op e (ren ι x) (ren ι y) = some (ren ι v) := by
  cases x <;> cases y <;> first
    | exact eqPart_ren hb
    | (simp only [binA, ren] at hb ⊢
       cases op <;> simp only at hb ⊢ <;> first
         | (cases hb; done)
         | (cases hb; rfl)
         | (split at hb
            · rename_i hh
              first
                | (cases hb; done)
                | (cases hb; (first | rw [if_pos hh] | rw [if_neg hh]); rfl)
                | (cases hb; rw [if_neg hh]; rfl)
            · first
                | (cases hb; done)
                | (rename_i hh; cases hb; rw [if_neg hh]; rfl)))
theorem unA_ren {op : UnOp} {x v : AV} (hb : unA op x = some v) : unA op (ren ι x) = some (ren ι v) := by
  cases op <;> cases x <;> simp only [unA, ren] at hb ⊢ <;> first
    | (cases hb; done)
    | (cases hb; rfl)
theorem sliceA_ren {sz lo hi : Nat} {x y : AV} {m : Option Nat} (hb : sliceA sz x lo hi m = some y) : sliceA sz (ren ι x) lo hi m = some (ren ι y) := by
  cases x <;> simp only [sliceA, ren] at hb ⊢ <;> try (cases hb; done)
  · split at hb
    · rename_i hh; cases hb; rw [if_pos hh]; rfl
    · cases hb
  · split at hb
    · rename_i hh; cases hb; rw [if_pos hh]; rfl
    · cases hb
end
end Go.Kx
/- THE FRAME, part 3: one operation. -/
namespace Go.Kx
open Go

def srOK (B : Nat) : SR → Prop
  | .val _ h => h.nx ≤ B
  | _ => True
def StepR (ι : Nm) (B n0 N0 : Nat) (S : Nat → Prop) (h0 : H) (op : AOp) (fr : List AV) (h : H) : SR → Prop
  | .val x hs' => ∃ h', step op (rens ι fr) h = some (.val (ren ι x) h') ∧ RelH ι B n0 N0 S h0 hs' h'
  | .call f args => step op (rens ι fr) h = some (.call f (rens ι args))
  | .dfr f args => step op (rens ι fr) h = some (.dfr f (rens ι args))

section
variable {ι : Nm} {B n0 N0 G : Nat} {S : Nat → Prop} {h0 hs h : H}
variable (hG : ∀ g, g < G → ι.i g = g ∧ ι.d g = 0) (lock : ∀ k, n0 ≤ k → k < B → ι.i k = N0 + (k - n0) ∧ ι.d k = 0)
include lock
theorem appA_ren (r : RelH ι B n0 N0 S h0 hs h) {sz bytes : Nat} {s x y : AV} {hs' : H} (ha : appA sz bytes hs s x = some (y, hs')) (hB : hs'.nx ≤ B) :
    ∃ h', appA sz bytes h (ren ι s) (ren ι x) = some (ren ι y, h') ∧ RelH ι B n0 N0 S h0 hs' h' := by
  unfold appA at ha ⊢
  rw [ren_lenS]
  cases hn : lenS x with
  | none => rw [hn] at ha; cases ha
  | some n =>
    rw [hn] at ha
    simp only at ha ⊢
    cases hsrc : src hs x n with
    | none => rw [hsrc] at ha; cases ha
    | some new =>
      rw [hsrc] at ha
      rw [src_ren r hsrc]
      simp only at ha ⊢
      by_cases h0' : n = 0
      · rw [if_pos h0'] at ha ⊢
        cases s <;> simp only [ren] at ha ⊢ <;> first
          | (cases ha; done)
          | (cases ha; exact ⟨h, rfl, r⟩)
      · rw [if_neg h0'] at ha ⊢
        cases s <;> simp only [ren] at ha ⊢ <;> try (cases ha; done)
        case nilS =>
          split at ha
          · rename_i hh
            cases ha
            have hlt : hs.nx < B := by have : hs.nx + 1 ≤ B := hB; omega
            rw [rens_length, if_pos hh]
            exact ⟨_, by simp only [ren, r.next lock hlt, r.nextd lock hlt], r.new lock hlt new⟩
          · cases ha
        case slice i v o m sz' full =>
          split at ha
          · rename_i hh
            rw [rens_length, if_pos hh]
            cases full with
            | true =>
              simp only [if_true] at ha ⊢
              split at ha
              · rename_i old hold
                cases ha
                have hlt : hs.nx < B := by have : hs.nx + 1 ≤ B := hB; omega
                have := src_ren r hold
                simp only [ren] at this
                rw [this]
                refine ⟨_, by simp only [ren, r.next lock hlt, r.nextd lock hlt]; rfl, ?_⟩
                have := r.new lock hlt (old ++ new)
                rw [rens_append] at this
                exact this
              · cases ha
            | false =>
              simp only [Bool.false_eq_true, if_false] at ha ⊢
              split at ha
              · rename_i ob ho
                rw [r.cs i ob ho]
                split at ha
                · rename_i hc
                  cases ha
                  have hc' : o = 0 ∧ v + ι.d i = ob.hi + ι.d i ∧ ob.ro = false ∧ m * sz ≤ (rens ι ob.l).length := ⟨hc.1, by rw [hc.2.1], hc.2.2.1, by rw [rens_length]; exact hc.2.2.2⟩
                  have e1 : ob.hi + 1 + ι.d i = ob.hi + ι.d i + 1 := by omega
                  refine ⟨_, (if_pos hc').trans (congrArg some (Prod.ext (show AV.slice _ (ob.hi + ι.d i + 1) 0 _ _ _ = AV.slice _ (ob.hi + 1 + ι.d i) 0 _ _ _ by rw [e1]) rfl)), ?_⟩
                  have := r.put ho ⟨if m * sz = ob.l.length then ob.lo else ob.hi + 1, ob.hi + 1, false, ob.l.take (m * sz) ++ new⟩ (fun h => absurd h (by simp))
                  have e2 : (if m * sz = ob.l.length then ob.lo else ob.hi + 1) + ι.d i = (if m * sz = (rens ι ob.l).length then ob.lo + ι.d i else ob.hi + ι.d i + 1) := by rw [rens_length]; split <;> omega
                  simp only [renO, rens_append, rens_take, e1] at this
                  rw [e2] at this
                  exact this
                · cases ha
              · cases ha
          · cases ha

include hG
theorem step_ren (r : RelH ι B n0 N0 S h0 hs h) {op : AOp} {fr : List AV} {s : SR} (hok : okOp G op = true) (hst : step op fr hs = some s) (hB : srOK B s) : StepR ι B n0 N0 S h0 op fr h s := by
  cases op <;> simp only [okOp, Bool.and_eq_true] at hok <;> simp only [step] at hst
  case mv x => cases hst; exact ⟨h, by simp only [step, ren_opd hG hok], r⟩
  case pick c a b =>
    split at hst
    · rename_i t ht
      cases hst
      refine ⟨h, ?_, r⟩
      simp only [step, ren_opd hG hok.1, ren_opd hG hok.2.1, ren_opd hG hok.2.2, ht, ren]
      cases t <;> rfl
    · cases hst
  case new z =>
    cases hst
    have hlt : hs.nx < B := by have : hs.nx + 1 ≤ B := hB; omega
    refine ⟨h.new z, by simp only [step, ren, r.next lock hlt, r.nextd lock hlt], ?_⟩
    have := r.new lock hlt z
    rw [rens_pure hok] at this; exact this
  case box n x =>
    split at hst
    · rename_i hh
      cases hst
      have hlt : hs.nx < B := by have : hs.nx + 1 ≤ B := hB; omega
      refine ⟨_, ?_, r.new lock hlt _⟩
      simp only [step, ren_opd hG hok, ren_cells, rens_length, rens_ones]
      rw [if_pos hh]; simp only [ren, r.next lock hlt, r.nextd lock hlt]
    · cases hst
  case build z ps =>
    obtain ⟨l, hl, e⟩ := map_some'' hst
    cases e
    have := ren_lay hG fr (cs := z) hok.2
    rw [rens_pure hok.1, hl] at this
    exact ⟨h, by simp only [step, this]; rfl, r⟩
  case row n sz z ps =>
    obtain ⟨l, hl, e⟩ := map_some'' hst
    cases e
    have hlt : hs.nx < B := by have : hs.nx + 1 ≤ B := hB; omega
    have := ren_lay hG fr (cs := repl n z) hok.2
    rw [rens_repl, rens_pure hok.1, hl] at this
    exact ⟨_, by simp only [step, this, Option.map_some, ren, r.next lock hlt, r.nextd lock hlt], r.new lock hlt l⟩
  case load x =>
    obtain ⟨y, hy, e⟩ := map_some'' hst
    cases e
    exact ⟨h, by simp only [step, ren_opd hG hok, rd_ren r hy]; rfl, r⟩
  case loadN n x =>
    obtain ⟨y, hy, e⟩ := map_some'' hst
    cases e
    exact ⟨h, by simp only [step, ren_opd hG hok, rdN_ren r hy]; rfl, r⟩
  case store n a x =>
    split at hst
    · rename_i hh
      obtain ⟨h1, hy, e⟩ := map_some'' hst
      cases e
      obtain ⟨h', g1, g2⟩ := wr_ren r hy
      refine ⟨h', ?_, g2⟩
      simp only [step, ren_opd hG hok.1, ren_opd hG hok.2, ren_cells, rens_length]
      rw [if_pos hh, g1]; rfl
    · cases hst
  case nilck x =>
    split at hst
    · rename_i hx; cases hst; exact ⟨h, by simp only [step, ren_opd hG hok, hx, ren], r⟩
    · rename_i hx; cases hst; exact ⟨h, by simp only [step, ren_opd hG hok, hx, ren], r⟩
    · cases hst
  case bin op e x y =>
    obtain ⟨v, hy, e'⟩ := map_some'' hst
    cases e'
    exact ⟨h, by simp only [step, ren_opd hG hok.1, ren_opd hG hok.2, binA_ren hy]; rfl, r⟩
  case un op x =>
    obtain ⟨v, hy, e'⟩ := map_some'' hst
    cases e'
    exact ⟨h, by simp only [step, ren_opd hG hok, unA_ren hy]; rfl, r⟩
  case convI k x =>
    split at hst
    · rename_i hx; cases hst; exact ⟨h, by simp only [step, ren_opd hG hok, hx, ren], r⟩
    · cases hst
  case convS x =>
    split at hst
    · rename_i hx; cases hst; exact ⟨h, by simp only [step, ren_opd hG hok, hx, ren], r⟩
    · cases hst
  case mkfunc f a b =>
    cases hst
    exact ⟨h, by simp only [step, ren_opds hG fr hok.1, ren_opds hG fr hok.2, ren], r⟩
  case mkmap =>
    cases hst
    have hlt : hs.nx < B := by have : hs.nx + 1 ≤ B := hB; omega
    exact ⟨_, by simp only [step, ren, r.next lock hlt, r.nextd lock hlt], r.newm lock hlt⟩
  case app sz bytes a x =>
    obtain ⟨⟨y, h1⟩, hy, e⟩ := map_some'' hst
    cases e
    obtain ⟨h', g1, g2⟩ := appA_ren lock r hy hB
    exact ⟨h', by simp only [step, ren_opd hG hok.1, ren_opd hG hok.2, g1]; rfl, g2⟩
  case call f args =>
    split at hst
    · rename_i g a b hx
      cases hst
      simp only [StepR, step, ren_opd hG hok.1, hx, ren, ren_opds hG fr hok.2, rens_append]
    · cases hst
  case dfr f args =>
    split at hst
    · rename_i g a b hx
      cases hst
      simp only [StepR, step, ren_opd hG hok.1, hx, ren, ren_opds hG fr hok.2, rens_append]
    · cases hst
  case toStr x =>
    split at hst
    · rename_i n hn
      split at hst
      · rename_i l hl
        split at hst
        · rename_i hh
          obtain ⟨b, hb, e⟩ := map_some'' hst
          cases e
          refine ⟨h, ?_, r⟩
          simp only [step, ren_opd hG hok, ren_lenL, hn, src_ren r hl, rens_length]
          rw [if_pos hh, toBytes_ren, hb]; rfl
        · cases hst
      · cases hst
    · cases hst
  case toB x =>
    split at hst
    · rename_i s hx
      cases hst
      have hlt : hs.nx < B := by have : hs.nx + 1 ≤ B := hB; omega
      have hp : ∀ s : List UInt8, pureVs (s.map fun b => AV.int .u8 b.toNat) = true := by
        intro s
        induction s with
        | nil => rfl
        | cons a s ih => simp [pureVs, pureV, ih]
      have := r.new lock hlt (s.map fun b => AV.int .u8 b.toNat)
      rw [rens_pure (hp s)] at this
      exact ⟨_, by simp only [step, ren_opd hG hok, hx, ren, r.next lock hlt, r.nextd lock hlt], this⟩
    · cases hst
  case mksl sz bytes z l c =>
    split at hst
    · rename_i a b ha hb
      split at hst
      · rename_i hh
        cases hst
        have hlt : hs.nx < B := by have : hs.nx + 1 ≤ B := hB; omega
        have := r.new lock hlt (repl b z)
        rw [rens_repl, rens_pure hok.1] at this
        refine ⟨_, ?_, this⟩
        simp only [step, ren_opd hG hok.2.1, ren_opd hG hok.2.2, ren_asNat, ha, hb]
        rw [if_pos hh]; simp only [ren, r.next lock hlt, r.nextd lock hlt]
      · cases hst
    · cases hst
  case sliceS x lo hi =>
    split at hst
    · rename_i s hx
      split at hst
      · rename_i l k hl hk
        split at hst
        · rename_i hh
          cases hst
          refine ⟨h, ?_, r⟩
          simp only [step, ren_opd hG hok.1, hx, ren, ren_optNat hG fr hok.2.1, ren_optNat hG fr hok.2.2, hl, hk]
          rw [if_pos hh]
        · cases hst
      · cases hst
    · cases hst
  case sliceL sz x lo hi mx =>
    split at hst
    · rename_i n l hn hl
      split at hst
      · rename_i k m hk hm
        obtain ⟨y, hy, e⟩ := map_some'' hst
        cases e
        refine ⟨h, ?_, r⟩
        simp only [step, ren_opd hG hok.1, ren_lenL, hn, ren_optNat hG fr hok.2.1, hl, ren_optNat hG fr hok.2.2.1, hk, ren_maxNat hG fr hok.2.2.2, hm, sliceA_ren hy]
        rfl
      · cases hst
    · cases hst
  case faddr off x =>
    split at hst
    · rename_i hx; cases hst; exact ⟨h, by simp only [step, ren_opd hG hok, hx, ren], r⟩
    · cases hst
  case field off x =>
    split at hst
    · rename_i l hx
      obtain ⟨y, hy, e⟩ := map_some'' hst
      cases e
      exact ⟨h, by simp only [step, ren_opd hG hok, hx, ren, rens_get, hy]; rfl, r⟩
    · cases hst
  case fieldN off n x =>
    split at hst
    · rename_i l hx
      obtain ⟨y, hy, e⟩ := map_some'' hst
      cases e
      exact ⟨h, by simp only [step, ren_opd hG hok, hx, ren, rens_cut, hy]; rfl, r⟩
    · cases hst
  case iaddr sz x i =>
    split at hst
    · rename_i hx hi
      split at hst
      · rename_i hh
        cases hst
        refine ⟨h, ?_, r⟩
        simp only [step, ren_opd hG hok.1, ren_opd hG hok.2, ren_asNat, hx, hi, ren]
        rw [if_pos hh]
      · cases hst
    · cases hst
  case iaddrA len sz x i =>
    split at hst
    · rename_i hx hi
      split at hst
      · rename_i hh
        cases hst
        refine ⟨h, ?_, r⟩
        simp only [step, ren_opd hG hok.1, ren_opd hG hok.2, ren_asNat, hx, hi, ren]
        rw [if_pos hh]
      · cases hst
    · cases hst
  case idxS x i =>
    split at hst
    · rename_i hx hi
      split at hst
      · rename_i b hb
        cases hst
        exact ⟨h, by simp only [step, ren_opd hG hok.1, ren_opd hG hok.2, ren_asNat, hx, hi, ren, hb], r⟩
      · cases hst
    · cases hst
  case idxA len x i =>
    split at hst
    · rename_i hx hi
      split at hst
      · rename_i hh
        obtain ⟨y, hy, e⟩ := map_some'' hst
        cases e
        refine ⟨h, ?_, r⟩
        simp only [step, ren_opd hG hok.1, ren_opd hG hok.2, ren_asNat, hx, hi, ren]
        rw [if_pos hh, rens_get, hy]; rfl
      · cases hst
    · cases hst
  case idxAN len sz x i =>
    split at hst
    · rename_i hx hi
      split at hst
      · rename_i hh
        obtain ⟨y, hy, e⟩ := map_some'' hst
        cases e
        refine ⟨h, ?_, r⟩
        simp only [step, ren_opd hG hok.1, ren_opd hG hok.2, ren_asNat, hx, hi, ren]
        rw [if_pos hh, rens_cut, hy]; rfl
      · cases hst
    · cases hst
  case ext x i =>
    split at hst
    · rename_i l hx
      obtain ⟨y, hy, e⟩ := map_some'' hst
      cases e
      exact ⟨h, by simp only [step, ren_opd hG hok, hx, ren, rens_get, hy]; rfl, r⟩
    · cases hst
  case lenS x =>
    split at hst
    · rename_i hx; cases hst; exact ⟨h, by simp only [step, ren_opd hG hok, hx, ren], r⟩
    · cases hst
  case lenL x =>
    split at hst
    · rename_i hx; cases hst; exact ⟨h, by simp only [step, ren_opd hG hok, ren_lenL, hx, ren], r⟩
    · cases hst
  case lenM x =>
    split at hst
    · rename_i hx; cases hst; exact ⟨h, by simp only [step, ren_opd hG hok, hx, ren], r⟩
    · rename_i j hx
      split at hst
      · rename_i es hes
        cases hst
        exact ⟨h, by simp only [step, ren_opd hG hok, hx, ren, r.ms _ _ hes, renE_length], r⟩
      · cases hst
    · cases hst
  case mn x y =>
    split at hst
    · rename_i hx hy
      split at hst
      · rename_i hh; cases hst; refine ⟨h, ?_, r⟩; simp only [step, ren_opd hG hok.1, ren_opd hG hok.2, hx, hy, ren]; rw [if_pos hh]
      · cases hst
    · cases hst
  case mx x y =>
    split at hst
    · rename_i hx hy
      split at hst
      · rename_i hh; cases hst; refine ⟨h, ?_, r⟩; simp only [step, ren_opd hG hok.1, ren_opd hG hok.2, hx, hy, ren]; rw [if_pos hh]
      · cases hst
    · cases hst
  case iface t x => cases hst; exact ⟨h, by simp only [step, ren_opd hG hok, ren], r⟩
  case look d z x i ok =>
    split at hst
    · rename_i hk
      split at hst
      · rename_i es hes
        split at hst
        · rename_i q hq
          cases hst
          have hz : ∀ q : Option AV, (q.map (ren ι)).getD z = ren ι (q.getD z) := by
            intro q
            cases q with
            | none => exact (ren_pure hok.1).symm
            | some y => rfl
          have hsome : (q.map (ren ι)).isSome = q.isSome := by cases q <;> rfl
          refine ⟨h, ?_, r⟩
          simp only [step, ren_opd hG hok.2.1, ren_opd hG hok.2.2]
          rw [if_pos (by rw [keyOf_ren]; exact hk)]
          cases hx : opd fr x <;> rw [hx] at hes <;> simp only at hes <;> try (cases hes; done)
          case nilM =>
            cases hes
            simp only [find] at hq
            cases hq
            simp only [ren, find, Option.getD_none, Option.isSome_none]
            cases ok <;> simp [ren, rens, ren_pure hok.1]
          case map j =>
            simp only [ren, r.ms _ _ hes, find_ren hq, hz, hsome]
            cases ok <;> rfl
        · cases hst
      · cases hst
    · cases hst
  case upd d m k x =>
    split at hst
    · rename_i j hm
      split at hst
      · rename_i es hes
        split at hst
        · rename_i hk
          split at hst
          · rename_i q hq
            cases hst
            have := r.putm hes (update d (opd fr k) (opd fr x) es)
            rw [← update_ren hq] at this
            refine ⟨_, ?_, this⟩
            simp only [step, ren_opd hG hok.1, ren_opd hG hok.2.1, ren_opd hG hok.2.2, hm, ren, r.ms _ _ hes]
            rw [if_pos ⟨by rw [keyOf_ren]; exact hk.1, by rw [ren_cells, rens_ones]; exact hk.2⟩]
            simp only [find_ren hq]
            rfl
          · cases hst
        · cases hst
      · cases hst
    · cases hst
  case copy sz d s =>
    split at hst
    · rename_i i v o n sz' f m hd hm
      split at hst
      · rename_i hc
        split at hst
        · rename_i hz
          cases hst
          refine ⟨h, ?_, r⟩
          simp only [step, ren_opd hG hok.1, ren_opd hG hok.2, hd, ren, ren_lenS, hm]
          rw [if_pos hc, if_pos hz]
        · rename_i hz
          split at hst
          · rename_i l hl
            split at hst
            · rename_i hh
              obtain ⟨h1, hy, e⟩ := map_some'' hst
              cases e
              obtain ⟨h', g1, g2⟩ := wr_ren r hy
              refine ⟨h', ?_, g2⟩
              simp only [ren] at g1
              simp only [step, ren_opd hG hok.1, ren_opd hG hok.2, hd, ren, ren_lenS, hm, src_ren r hl, rens_length]
              rw [if_pos hc, if_neg hz, if_pos hh, g1]; rfl
            · cases hst
          · cases hst
      · cases hst
    · rename_i m hd hm
      cases hst
      refine ⟨h, ?_, r⟩
      simp only [step, ren_opd hG hok.1, ren_opd hG hok.2, hd, ren, ren_lenS, hm]
    · cases hst
end
end Go.Kx
/- THE FRAME, part 4: THE FRAME's LAW for code, calls, deferred calls. -/
namespace Go.Kx
open Go

def okIt (G : Nat) (i : Item) : Bool := okOp G i.op && !effB i.op
def okIts (G : Nat) : List Item → Bool
  | [] => true
  | i :: l => okIt G i && okIts G l
def okIc (G : Nat) (i : ItemC) : Bool := okOp G i.it.op && okIts G i.chk
def okL (G : Nat) : List ItemC → Bool
  | [] => true
  | i :: l => okIc G i && okL G l
def okAC (G : Nat) : AC → Bool
  | .ops l => okL G l
  | .seq a b => okAC G a && okAC G b
  | .cond c a b => okO G c && (okAC G a && okAC G b)
  | .block _ a => okAC G a
  | .loop _ a => okAC G a
  | _ => true

theorem noeff' {op : AOp} {fr : List AV} {h h' : H} {x : AV} (he : effB op = false) (hn : newB op = false) (hs : step op fr h = some (.val x h')) : h' = h := by
  cases op <;> simp only [effB, newB] at he hn <;> (try (cases he; done)) <;> (try (cases hn; done)) <;> simp only [step] at hs <;> revert hs <;> (repeat' split) <;> simp [Option.map_eq_some_iff] <;> intros <;> simp_all

section
variable {ι : Nm} {B n0 N0 G : Nat} {S : Nat → Prop} {h0 hs h : H}
mutual
theorem beq_ren : ∀ {a b : AV}, AV.beq a b = true → AV.beq (ren ι a) (ren ι b) = true
  | .bool a, b, h => by cases b <;> simp [AV.beq] at h; subst h; simp [ren, AV.beq]
  | .int k n, b, h => by cases b <;> simp [AV.beq] at h; obtain ⟨rfl, rfl⟩ := h; simp [ren, AV.beq]
  | .str s, b, h => by cases b <;> simp [AV.beq] at h; subst h; simp [ren, AV.beq]
  | .nil, b, h => by cases b <;> simp [AV.beq] at h; simp [ren, AV.beq]
  | .ptr i v o, b, h => by cases b <;> simp [AV.beq] at h; obtain ⟨⟨rfl, rfl⟩, rfl⟩ := h; simp [ren, AV.beq]
  | .nilS, b, h => by cases b <;> simp [AV.beq] at h; simp [ren, AV.beq]
  | .slice i v o n sz f, b, h => by cases b <;> simp [AV.beq] at h; obtain ⟨⟨⟨⟨⟨rfl, rfl⟩, rfl⟩, rfl⟩, rfl⟩, rfl⟩ := h; simp [ren, AV.beq]
  | .nilM, b, h => by cases b <;> simp [AV.beq] at h; simp [ren, AV.beq]
  | .map i, b, h => by cases b <;> simp [AV.beq] at h; subst h; simp [ren, AV.beq]
  | .nilF, b, h => by cases b <;> simp [AV.beq] at h; simp [ren, AV.beq]
  | .func f x y, b, h => by
    cases b <;> simp [AV.beq] at h
    obtain ⟨⟨rfl, h1⟩, h2⟩ := h
    simp [ren, AV.beq, beqs_ren h1, beqs_ren h2]
  | .nilI, b, h => by cases b <;> simp [AV.beq] at h; simp [ren, AV.beq]
  | .iface t x, b, h => by cases b <;> simp [AV.beq] at h; obtain ⟨rfl, h1⟩ := h; simp [ren, AV.beq, beq_ren h1]
  | .agg l, b, h => by cases b <;> simp [AV.beq] at h; simp [ren, AV.beq, beqs_ren h]
  | .tup l, b, h => by cases b <;> simp [AV.beq] at h; simp [ren, AV.beq, beqs_ren h]
  | .undef, b, h => by cases b <;> simp [AV.beq] at h
theorem beqs_ren : ∀ {a b : List AV}, AV.beqs a b = true → AV.beqs (rens ι a) (rens ι b) = true
  | [], [], _ => rfl
  | x :: l, y :: m, h => by simp [AV.beqs] at h; simp [rens, AV.beqs, beq_ren h.1, beqs_ren h.2]
  | [], _ :: _, h => by simp [AV.beqs] at h
  | _ :: _, [], h => by simp [AV.beqs] at h
end

theorem wanted_ren (fr : List AV) (g : Option (Nat × Bool)) {b : Bool} (hw : wanted fr g = some b) : wanted (rens ι fr) g = some b := by
  cases g with
  | none => exact hw
  | some p =>
    obtain ⟨t, c⟩ := p
    simp only [wanted] at hw ⊢
    rw [rens_nth]
    split at hw
    · rename_i hx; rw [hx]; exact hw
    · rename_i hx; rw [hx]; exact hw
    · cases hw

variable (hG : ∀ g, g < G → ι.i g = g ∧ ι.d g = 0) (lock : ∀ k, n0 ≤ k → k < B → ι.i k = N0 + (k - n0) ∧ ι.d k = 0)
include hG lock
theorem again_ren (r : RelH ι B n0 N0 S h0 hs h) (hB : hs.nx ≤ B) {fr : List AV} {it : Item} (hok : okIt G it = true) (ha : again hs fr it = true) : again h (rens ι fr) it = true := by
  simp only [okIt, Bool.and_eq_true, Bool.not_eq_true'] at hok
  obtain ⟨ho, he⟩ := hok
  unfold again at ha ⊢
  split at ha
  · cases ha
  · rename_i hw; rw [wanted_ren fr _ hw]
  · rename_i hw
    rw [wanted_ren fr _ hw]
    simp only
    have gen : newB it.op = false → (match step it.op fr hs with | some (.val x _) => (match it.dst with | some t => AV.beq x (nth fr t) | none => false) | _ => false) = true →
        (match step it.op (rens ι fr) h with | some (.val x _) => (match it.dst with | some t => AV.beq x (nth (rens ι fr) t) | none => false) | _ => false) = true := by
      intro hn hb
      cases hst : step it.op fr hs with
      | none => rw [hst] at hb; cases hb
      | some s =>
        rw [hst] at hb
        cases s with
        | val x hs2 =>
          simp only at hb
          have e := noeff' he hn hst
          subst e
          obtain ⟨h', g1, _⟩ := step_ren hG lock r ho hst hB
          rw [g1]
          simp only
          cases hd : it.dst with
          | none => rw [hd] at hb; cases hb
          | some t =>
            rw [hd] at hb
            simp only at hb ⊢
            rw [rens_nth]
            exact beq_ren hb
        | call f a => cases hb
        | dfr f a => cases hb
    have obj : ∀ (i : Nat) (ob : Obj) (l : List AV), hs.get i = some ob → (ob.lo == 0 && ob.hi == 0 && !ob.ro && AV.beqs ob.l l) = true → ι.d i = 0 ∧ ∃ ob', h.get (ι.i i) = some ob' ∧ (ob'.lo == 0 && ob'.hi == 0 && !ob'.ro && AV.beqs ob'.l (rens ι l)) = true := by
      intro i ob l hob hc
      simp only [Bool.and_eq_true] at hc
      have hz : ι.d i = 0 := r.dz i ob hob (by have := hc.1.1.2; simpa using this)
      refine ⟨hz, _, r.cs i ob hob, ?_⟩
      simp only [renO, Bool.and_eq_true, hz]
      exact ⟨hc.1, beqs_ren hc.2⟩
    cases hop : it.op <;> rw [hop] at ha ho gen <;> first
      | exact gen rfl ha
      | skip
    case new z =>
      simp only [okOp] at ho
      simp only at ha ⊢
      split at ha
      · rename_i t ht
        split at ha
        · rename_i i hx
          split at ha
          · rename_i ob hob
            obtain ⟨gz, ob', g1, g2⟩ := obj i ob z hob ha
            rw [rens_nth, hx]
            simp only [ren, gz]
            rw [g1]
            rw [rens_pure ho] at g2
            exact g2
          · cases ha
        · cases ha
      · cases ha
    case box n x =>
      simp only [okOp] at ho
      simp only at ha ⊢
      split at ha
      · rename_i t ht
        split at ha
        · rename_i i hx
          split at ha
          · rename_i ob hob
            obtain ⟨gz, ob', g1, g2⟩ := obj i ob _ hob ha
            rw [rens_nth, hx]
            simp only [ren, gz]
            rw [g1, ren_opd hG ho, ren_cells]
            exact g2
          · cases ha
        · cases ha
      · cases ha
    case row n sz z ps =>
      simp only [okOp, Bool.and_eq_true] at ho
      simp only at ha ⊢
      split at ha
      · rename_i t ht
        split at ha
        · rename_i i a b c hx
          split at ha
          · rename_i ob l hob hl
            obtain ⟨gz, ob', g1, g2⟩ := obj i ob l hob ha
            have := ren_lay hG fr (cs := repl n z) ho.2
            rw [rens_repl, rens_pure ho.1, hl] at this
            rw [rens_nth, hx]
            simp only [ren, gz]
            rw [g1, this]
            exact g2
          · cases ha
        · cases ha
      · cases ha
theorem agains_ren (r : RelH ι B n0 N0 S h0 hs h) (hB : hs.nx ≤ B) {fr : List AV} : ∀ {l : List Item}, okIts G l = true → l.all (again hs fr) = true → l.all (again h (rens ι fr)) = true
  | [], _, _ => rfl
  | i :: l, hok, ha => by
    simp only [okIts, Bool.and_eq_true] at hok
    simp only [List.all_cons, Bool.and_eq_true] at ha ⊢
    exact ⟨again_ren hG lock r hB hok.1 ha.1, agains_ren r hB hok.2 ha.2⟩
end
end Go.Kx
/- THE FRAME, part 5: code, calls, deferred calls. -/
namespace Go.Kx
open Go

theorem wr_nx {h h' : H} {p : AV} {x : List AV} (hr : wr h p x = some h') : h'.nx = h.nx := by
  cases p <;> simp only [wr] at hr <;> try (cases hr; done)
  split at hr
  · split at hr
    · cases hr; rfl
    · cases hr
  · cases hr
theorem appA_nx {sz b : Nat} {h h' : H} {s x y : AV} (hr : appA sz b h s x = some (y, h')) : h.nx ≤ h'.nx := by
  unfold appA at hr
  cases hn : lenS x with
  | none => rw [hn] at hr; cases hr
  | some n =>
    rw [hn] at hr
    simp only at hr
    cases hsrc : src h x n with
    | none => rw [hsrc] at hr; cases hr
    | some new =>
      rw [hsrc] at hr
      simp only at hr
      by_cases h0 : n = 0
      · rw [if_pos h0] at hr
        cases s <;> simp only at hr <;> first | (cases hr; done) | (cases hr; exact Nat.le_refl _)
      · rw [if_neg h0] at hr
        cases s <;> simp only at hr <;> try (cases hr; done)
        · split at hr
          · cases hr; exact Nat.le_succ _
          · cases hr
        · rename_i i v o m sz' full
          split at hr
          · cases full with
            | true =>
              simp only [if_true] at hr
              split at hr
              · cases hr; exact Nat.le_succ _
              · cases hr
            | false =>
              simp only [Bool.false_eq_true, if_false] at hr
              split at hr
              · split at hr
                · cases hr; exact Nat.le_refl _
                · cases hr
              · cases hr
          · cases hr
theorem step_nx {op : AOp} {fr : List AV} {h h' : H} {x : AV} (hs : step op fr h = some (.val x h')) : h.nx ≤ h'.nx := by
  by_cases he : effB op = true
  · cases op <;> simp only [effB] at he <;> (try (cases he; done)) <;> simp only [step] at hs
    case store n a x =>
      split at hs
      · obtain ⟨h1, hy, e⟩ := map_some'' hs
        cases e; rw [wr_nx hy]; exact Nat.le_refl _
      · cases hs
    case toB x =>
      split at hs
      · cases hs; exact Nat.le_succ _
      · cases hs
    case mkmap => cases hs; exact Nat.le_succ _
    case mksl =>
      split at hs
      · split at hs
        · cases hs; exact Nat.le_succ _
        · cases hs
      · cases hs
    case upd =>
      split at hs
      · split at hs
        · split at hs
          · split at hs
            · cases hs; exact Nat.le_refl _
            · cases hs
          · cases hs
        · cases hs
      · cases hs
    case app =>
      obtain ⟨⟨y, h1⟩, hy, e⟩ := map_some'' hs
      cases e
      exact appA_nx hy
    case copy =>
      split at hs
      · split at hs
        · split at hs
          · cases hs; exact Nat.le_refl _
          · split at hs
            · split at hs
              · obtain ⟨h1, hy, e⟩ := map_some'' hs
                cases e; rw [wr_nx hy]; exact Nat.le_refl _
              · cases hs
            · cases hs
        · cases hs
      · cases hs; exact Nat.le_refl _
      · cases hs
    case call => split at hs <;> cases hs
    case dfr => split at hs <;> cases hs
  · by_cases hn : newB op = true
    · cases op <;> simp only [newB] at hn <;> (try (cases hn; done)) <;> simp only [step] at hs
      case new => cases hs; exact Nat.le_succ _
      case box =>
        split at hs
        · cases hs; exact Nat.le_succ _
        · cases hs
      case row =>
        obtain ⟨l, _, e⟩ := map_some'' hs
        cases e; exact Nat.le_succ _
    · rw [noeff' (by simpa using he) (by simpa using hn) hs]; exact Nat.le_refl _

def renD (ι : Nm) (d : List Df) : List Df := d.map fun x => ⟨x.f, rens ι x.args⟩
theorem rens_mask {ι : Nm} : ∀ (m : List Bool) (l : List AV), mask m (rens ι l) = rens ι (mask m l)
  | [], l => by simp [mask]
  | b :: m, [] => by simp [mask, rens]
  | b :: m, x :: l => by cases b <;> simp [mask, rens, ren, rens_mask m l]
theorem rens_pad {ι : Nm} (n : Nat) (l : List AV) : pad n (rens ι l) = rens ι (pad n l) := by
  have : ∀ k, rens ι (List.replicate k AV.undef) = List.replicate k AV.undef := by
    intro k
    induction k with
    | zero => rfl
    | succ k ih => simp [List.replicate_succ, rens, ren, ih]
  simp only [pad, rens_append, rens_length, this]

section
variable {ι : Nm} {B n0 N0 : Nat} {S : Nat → Prop} {h0 hs h : H}
theorem resAs_ren (r : RelH ι B n0 N0 S h0 hs h) {fr : List AV} : ∀ {l : List ARes} {x : List AV}, resAs hs fr l = some x → resAs h (rens ι fr) l = some (rens ι x)
  | [], x, hx => by simp only [resAs] at hx; cases hx; rfl
  | q :: l, x, hx => by
    simp only [resAs] at hx ⊢
    cases h1 : resA hs fr q with
    | none => rw [h1] at hx; cases hx
    | some y =>
      rw [h1] at hx
      cases h2 : resAs hs fr l with
      | none => rw [h2] at hx; cases hx
      | some ys =>
        rw [h2] at hx
        cases hx
        have : resA h (rens ι fr) q = some (ren ι y) := by
          cases q with
          | tmp t => simp only [resA] at h1 ⊢; cases h1; rw [rens_nth]
          | cell t => simp only [resA] at h1 ⊢; rw [rens_nth]; exact rd_ren r h1
          | cellN n t =>
            simp only [resA] at h1 ⊢
            obtain ⟨z, hz, e⟩ := map_some'' h1
            cases e
            rw [rens_nth, rdN_ren r hz]; rfl
        rw [this, resAs_ren r h2]
        rfl
theorem results_ren (r : RelH ι B n0 N0 S h0 hs h) {b : AFn} {fr : List AV} {x : AV} (hx : results b fr hs = some x) : results b (rens ι fr) h = some (ren ι x) := by
  unfold results at hx ⊢
  cases h1 : resAs hs fr b.res with
  | none => rw [h1] at hx; cases hx
  | some l =>
    rw [h1] at hx
    rw [resAs_ren r h1]
    match l, hx with
    | [], hx => cases hx; rfl
    | [y], hx => cases hx; rfl
    | y :: z :: l, hx => cases hx; rfl
end
end Go.Kx
/- THE FRAME, part 6: ITS LAW. -/
namespace Go.Kx
open Go

structure Plain (E : Env) (G : Nat) : Prop where
  hook : ∀ f, E.hook f = none
  ok : ∀ f b, E.body f = some b → okAC G b.code = true

theorem bnd {α β : Type} {a : Option α} {f : α → Option β} {y : β} (h : (a >>= f) = some y) : ∃ x, a = some x ∧ f x = some y := by
  cases a with
  | none => cases h
  | some x => exact ⟨x, rfl, h⟩

def EvR (G : Nat) (E : Env) (c : AC) (fr : List AV) (d : List Df) (hs : H) (r : Res) : Prop := hs.nx ≤ r.h.nx ∧
  ∀ (ι : Nm) (B n0 N0 : Nat) (S : Nat → Prop) (h0 h : H), (∀ g, g < G → ι.i g = g ∧ ι.d g = 0) → (∀ k, n0 ≤ k → k < B → ι.i k = N0 + (k - n0) ∧ ι.d k = 0) → okAC G c = true → RelH ι B n0 N0 S h0 hs h → r.h.nx ≤ B →
    ∃ h', ev E c (rens ι fr) (renD ι d) h = some ⟨r.x, rens ι r.fr, renD ι r.d, h'⟩ ∧ RelH ι B n0 N0 S h0 r.h h'
def CallR (G : Nat) (E : Env) (f : FuncId) (args : List AV) (hs : H) (r : AV × H) : Prop := hs.nx ≤ r.2.nx ∧
  ∀ (ι : Nm) (B n0 N0 : Nat) (S : Nat → Prop) (h0 h : H), (∀ g, g < G → ι.i g = g ∧ ι.d g = 0) → (∀ k, n0 ≤ k → k < B → ι.i k = N0 + (k - n0) ∧ ι.d k = 0) → RelH ι B n0 N0 S h0 hs h → r.2.nx ≤ B →
    ∃ h', call E f (rens ι args) h = some (ren ι r.1, h') ∧ RelH ι B n0 N0 S h0 r.2 h'
def DfR (G : Nat) (E : Env) (d : List Df) (hs hs' : H) : Prop := hs.nx ≤ hs'.nx ∧
  ∀ (ι : Nm) (B n0 N0 : Nat) (S : Nat → Prop) (h0 h : H), (∀ g, g < G → ι.i g = g ∧ ι.d g = 0) → (∀ k, n0 ≤ k → k < B → ι.i k = N0 + (k - n0) ∧ ι.d k = 0) → RelH ι B n0 N0 S h0 hs h → hs'.nx ≤ B →
    ∃ h', defers E (renD ι d) h = some h' ∧ RelH ι B n0 N0 S h0 hs' h'

theorem ev_ren {E : Env} {G : Nat} (hE : Plain E G) :
    (∀ c fr d h r, ev E c fr d h = some r → EvR G E c fr d h r) ∧ (∀ f args h r, call E f args h = some r → CallR G E f args h r) ∧ (∀ d h r, defers E d h = some r → DfR G E d h r) := by
  apply ev.mutual_partial_correctness E (fun c fr d h r => EvR G E c fr d h r) (fun f args h r => CallR G E f args h r) (fun d h r => DfR G E d h r)
  · intro ev' call' ih1 ih2 c fr d hs r hr
    split at hr
    · cases hr
      exact ⟨Nat.le_refl _, fun ι B n0 N0 S h0 h _ _ _ rel _ => ⟨h, by rw [ev.eq_def], rel⟩⟩
    · cases hr
      exact ⟨Nat.le_refl _, fun ι B n0 N0 S h0 h _ _ _ rel _ => ⟨h, by rw [ev.eq_def], rel⟩⟩
    · cases hr
      exact ⟨Nat.le_refl _, fun ι B n0 N0 S h0 h _ _ _ rel _ => ⟨h, by rw [ev.eq_def], rel⟩⟩
    · obtain ⟨r1, h1, h2⟩ := bnd hr
      obtain ⟨m1, k1⟩ := ih1 _ _ _ _ _ h1
      split at h2
      · rename_i hx
        obtain ⟨m2, k2⟩ := ih1 _ _ _ _ _ h2
        refine ⟨Nat.le_trans m1 m2, ?_⟩
        intro ι B n0 N0 S h0 h hG lock hok rel hB
        simp only [okAC, Bool.and_eq_true] at hok
        obtain ⟨ha, e1, rel1⟩ := k1 ι B n0 N0 S h0 h hG lock hok.1 rel (Nat.le_trans m2 hB)
        obtain ⟨hb, e2, rel2⟩ := k2 ι B n0 N0 S h0 ha hG lock hok.2 rel1 hB
        exact ⟨hb, by rw [ev.eq_def]; simp [e1, hx, e2], rel2⟩
      · rename_i hx
        cases h2
        refine ⟨m1, ?_⟩
        intro ι B n0 N0 S h0 h hG lock hok rel hB
        simp only [okAC, Bool.and_eq_true] at hok
        obtain ⟨ha, e1, rel1⟩ := k1 ι B n0 N0 S h0 h hG lock hok.1 rel hB
        refine ⟨ha, ?_, rel1⟩
        rw [ev.eq_def]; simp only [e1, Option.bind_eq_bind, Option.bind_some]
    · rename_i c' x y
      split at hr
      · rename_i ho
        obtain ⟨m1, k1⟩ := ih1 _ _ _ _ _ hr
        refine ⟨m1, ?_⟩
        intro ι B n0 N0 S h0 h hG lock hok rel hB
        simp only [okAC, Bool.and_eq_true] at hok
        obtain ⟨ha, e1, rel1⟩ := k1 ι B n0 N0 S h0 h hG lock hok.2.1 rel hB
        exact ⟨ha, by rw [ev.eq_def]; simp only [ren_opd hG hok.1, ho, ren, e1], rel1⟩
      · rename_i ho
        obtain ⟨m1, k1⟩ := ih1 _ _ _ _ _ hr
        refine ⟨m1, ?_⟩
        intro ι B n0 N0 S h0 h hG lock hok rel hB
        simp only [okAC, Bool.and_eq_true] at hok
        obtain ⟨ha, e1, rel1⟩ := k1 ι B n0 N0 S h0 h hG lock hok.2.2 rel hB
        exact ⟨ha, by rw [ev.eq_def]; simp only [ren_opd hG hok.1, ho, ren, e1], rel1⟩
      · cases hr
    · obtain ⟨r1, h1, h2⟩ := bnd hr
      obtain ⟨m1, k1⟩ := ih1 _ _ _ _ _ h1
      have hh : r.h = r1.h := by
        split at h2
        · split at h2 <;> (cases h2; rfl)
        · cases h2; rfl
      refine ⟨by rw [hh]; exact m1, ?_⟩
      intro ι B n0 N0 S h0 h hG lock hok rel hB
      obtain ⟨ha, e1, rel1⟩ := k1 ι B n0 N0 S h0 h hG lock hok rel (by rw [← hh]; exact hB)
      refine ⟨ha, ?_, by rw [hh]; exact rel1⟩
      rw [ev.eq_def]
      simp only [e1, Option.bind_eq_bind, Option.bind_some]
      cases hx : r1.x with
      | normal => rw [hx] at h2; cases h2; simp [hx]
      | ret => rw [hx] at h2; cases h2; simp [hx]
      | exit j =>
        rw [hx] at h2
        simp only at h2 ⊢
        split at h2
        · rename_i hj; cases h2; rw [if_pos hj]
        · rename_i hj; cases h2; rw [if_neg hj, ← hx]
    · obtain ⟨r1, h1, h2⟩ := bnd hr
      obtain ⟨m1, k1⟩ := ih1 _ _ _ _ _ h1
      split at h2
      · rename_i hx
        obtain ⟨m2, k2⟩ := ih1 _ _ _ _ _ h2
        refine ⟨Nat.le_trans m1 m2, ?_⟩
        intro ι B n0 N0 S h0 h hG lock hok rel hB
        obtain ⟨ha, e1, rel1⟩ := k1 ι B n0 N0 S h0 h hG lock hok rel (Nat.le_trans m2 hB)
        obtain ⟨hb, e2, rel2⟩ := k2 ι B n0 N0 S h0 ha hG lock hok rel1 hB
        exact ⟨hb, by rw [ev.eq_def]; simp [rens_mask, e1, hx, e2], rel2⟩
      · rename_i hx
        cases h2
        refine ⟨m1, ?_⟩
        intro ι B n0 N0 S h0 h hG lock hok rel hB
        obtain ⟨ha, e1, rel1⟩ := k1 ι B n0 N0 S h0 h hG lock hok rel hB
        refine ⟨ha, ?_, rel1⟩
        rw [ev.eq_def]; simp only [rens_mask, e1, Option.bind_eq_bind, Option.bind_some]
    · cases hr
      exact ⟨Nat.le_refl _, fun ι B n0 N0 S h0 h _ _ _ rel _ => ⟨h, by rw [ev.eq_def], rel⟩⟩
    · rename_i i l
      split at hr
      · cases hr
      · rename_i hw
        obtain ⟨m1, k1⟩ := ih1 _ _ _ _ _ hr
        refine ⟨m1, ?_⟩
        intro ι B n0 N0 S h0 h hG lock hok rel hB
        simp only [okAC, okL, Bool.and_eq_true] at hok
        obtain ⟨ha, e1, rel1⟩ := k1 ι B n0 N0 S h0 h hG lock hok.2 rel hB
        rw [rens_putD] at e1
        exact ⟨ha, by rw [ev.eq_def]; simp only [wanted_ren fr _ hw]; exact e1, rel1⟩
      · rename_i hw
        split at hr
        · cases hr
        · rename_i x h' hs1
          split at hr
          · rename_i hk
            obtain ⟨m1, k1⟩ := ih1 _ _ _ _ _ hr
            refine ⟨Nat.le_trans (step_nx hs1) m1, ?_⟩
            intro ι B n0 N0 S h0 h hG lock hok rel hB
            simp only [okAC, okL, okIc, Bool.and_eq_true] at hok
            obtain ⟨g, g1, g2⟩ := step_ren hG lock rel hok.1.1 hs1 (show h'.nx ≤ B from Nat.le_trans m1 hB)
            have gk := agains_ren hG lock g2 (Nat.le_trans m1 hB) hok.1.2 hk
            obtain ⟨ha, e1, rel1⟩ := k1 ι B n0 N0 S h0 g hG lock hok.2 g2 hB
            rw [rens_putD] at e1
            exact ⟨ha, by rw [ev.eq_def]; simp only [wanted_ren fr _ hw, g1]; rw [if_pos gk]; exact e1, rel1⟩
          · cases hr
        · rename_i f args hs1
          obtain ⟨m1, k1⟩ := ih1 _ _ _ _ _ hr
          refine ⟨m1, ?_⟩
          intro ι B n0 N0 S h0 h hG lock hok rel hB
          simp only [okAC, okL, okIc, Bool.and_eq_true] at hok
          have g1 := step_ren hG lock rel hok.1.1 hs1 trivial
          obtain ⟨ha, e1, rel1⟩ := k1 ι B n0 N0 S h0 h hG lock hok.2 rel hB
          rw [rens_putD] at e1
          simp only [StepR] at g1
          exact ⟨ha, by rw [ev.eq_def]; simp only [wanted_ren fr _ hw, g1]; exact e1, rel1⟩
        · rename_i f args hs1
          obtain ⟨r1, h1, h2⟩ := bnd hr
          obtain ⟨mc, kc⟩ := ih2 _ _ _ _ h1
          split at h2
          · rename_i hk
            obtain ⟨m1, k1⟩ := ih1 _ _ _ _ _ h2
            refine ⟨Nat.le_trans mc m1, ?_⟩
            intro ι B n0 N0 S h0 h hG lock hok rel hB
            simp only [okAC, okL, okIc, Bool.and_eq_true] at hok
            have g1 := step_ren hG lock rel hok.1.1 hs1 trivial
            simp only [StepR] at g1
            obtain ⟨g, c1, g2⟩ := kc ι B n0 N0 S h0 h hG lock rel (Nat.le_trans m1 hB)
            have gk := agains_ren hG lock g2 (Nat.le_trans m1 hB) hok.1.2 hk
            obtain ⟨ha, e1, rel1⟩ := k1 ι B n0 N0 S h0 g hG lock hok.2 g2 hB
            rw [rens_putD] at e1
            exact ⟨ha, by rw [ev.eq_def]; simp only [wanted_ren fr _ hw, g1, c1, Option.bind_eq_bind, Option.bind_some]; rw [if_pos gk]; exact e1, rel1⟩
          · cases h2
  · intro ev' defers' ih1 ih3 f args hs r hr
    rw [hE.hook f] at hr
    simp only at hr
    split at hr
    · cases hr
    · rename_i b hb
      split at hr
      · cases hr
      · rename_i hn
        obtain ⟨r1, h1, h2⟩ := bnd hr
        obtain ⟨m1, k1⟩ := ih1 _ _ _ _ _ h1
        split at h2
        · cases h2
        · rename_i hx
          obtain ⟨h', h3, h4⟩ := bnd h2
          obtain ⟨m3, k3⟩ := ih3 _ _ _ h3
          cases hv : results b r1.fr h' with
          | none => rw [hv] at h4; cases h4
          | some v =>
            rw [hv] at h4
            simp only [Option.bind_some, Option.some.injEq] at h4
            subst h4
            refine ⟨Nat.le_trans m1 m3, ?_⟩
            intro ι B n0 N0 S h0 h hG lock rel hB
            obtain ⟨ha, e1, rel1⟩ := k1 ι B n0 N0 S h0 h hG lock (hE.ok f b hb) rel (Nat.le_trans m3 hB)
            obtain ⟨hd, e3, rel3⟩ := k3 ι B n0 N0 S h0 ha hG lock rel1 hB
            refine ⟨hd, ?_, rel3⟩
            rw [call.eq_def, hE.hook f]
            simp only [hb]
            rw [rens_length, if_neg hn, rens_pad]
            have e1' : ev E b.code (rens ι (pad b.ntmps args)) [] h = some ⟨r1.x, rens ι r1.fr, renD ι r1.d, ha⟩ := e1
            rw [e1']
            simp only [Option.bind_eq_bind, Option.bind_some]
            cases hxx : r1.x with
            | exit i => exact absurd hxx (hx i)
            | normal => simp only [e3, Option.bind_some, results_ren rel3 hv]
            | ret => simp only [e3, Option.bind_some, results_ren rel3 hv]
  · intro ev' defers' ih1 ih3 d hs r hr
    split at hr
    · cases hr
      exact ⟨Nat.le_refl _, fun ι B n0 N0 S h0 h _ _ rel _ => ⟨h, by rw [defers.eq_def]; rfl, rel⟩⟩
    · rename_i x l
      split at hr
      · cases hr
      · rename_i b hb
        split at hr
        · cases hr
        · rename_i hn
          obtain ⟨r1, h1, h2⟩ := bnd hr
          obtain ⟨m1, k1⟩ := ih1 _ _ _ _ _ h1
          split at h2
          · rename_i hc
            obtain ⟨m3, k3⟩ := ih3 _ _ _ h2
            refine ⟨Nat.le_trans m1 m3, ?_⟩
            intro ι B n0 N0 S h0 h hG lock rel hB
            obtain ⟨ha, e1, rel1⟩ := k1 ι B n0 N0 S h0 h hG lock (hE.ok x.f b hb) rel (Nat.le_trans m3 hB)
            obtain ⟨hd, e3, rel3⟩ := k3 ι B n0 N0 S h0 ha hG lock rel1 hB
            refine ⟨hd, ?_, rel3⟩
            simp only [Bool.and_eq_true, List.isEmpty_iff] at hc
            obtain ⟨⟨c1, c2⟩, c3⟩ := hc
            obtain ⟨v, hv⟩ := Option.isSome_iff_exists.1 c3
            rw [defers.eq_def]
            simp only [renD, List.map_cons, hb]
            rw [rens_length, if_neg hn, rens_pad]
            have e1' : ev E b.code (rens ι (pad b.ntmps x.args)) [] h = some ⟨r1.x, rens ι r1.fr, renD ι r1.d, ha⟩ := e1
            rw [e1']
            simp only [Option.bind_eq_bind, Option.bind_some, c1, c2, renD, List.map_nil, List.isEmpty_nil, results_ren rel1 hv, Option.isSome_some, Bool.and_true, if_true]
            exact e3
          · cases h2
end Go.Kx
