/- THE ENGINE, part 18: regions in order, code, calls, deferred calls. -/
import Derived.Defers
import Derived.Orders
import Derived.Test.YtmafgdnlggoljaaGreatDoorE3
namespace Go.Kx
open Go

inductive DR (R : Rl) : List Df → List Deferred → Prop
  | nil : DR R [] []
  | cons (f : FuncId) (args : List AV) (as cap : Array Value) (d : List Df) (ds : List Deferred) (h : VRs R args (as ++ cap).toList) (hs : DR R d ds) : DR R (⟨f, args⟩ :: d) ({ target := .fn (.func f) cap, args := as } :: ds)
theorem DR.ext {n : Nat} {R R' : Rl} (e : Ext n R R') : ∀ {d : List Df} {ds : List Deferred}, DR R d ds → DR R' d ds
  | _, _, .nil => .nil
  | _, _, .cons f args as cap d ds h hs => .cons f args as cap d ds (h.ext e) (hs.ext e)

theorem FRel.ext {n : Nat} {R R' : Rl} (e : Ext n R R') {fr : List AV} {a : Act} (hf : FRel R fr a) : FRel R' fr a := ⟨hf.len, fun t => (hf.get t).ext e⟩

theorem nth_setN : ∀ (l : List AV) (i j : Nat) (x : AV), nth (setN l i x) j = if i = j ∧ j < l.length then x else nth l j
  | [], i, j, x => by simp [setN, nth]
  | a :: l, 0, 0, x => by simp [setN, nth]
  | a :: l, 0, j + 1, x => by simp [setN, nth]
  | a :: l, i + 1, 0, x => by simp [setN, nth]
  | a :: l, i + 1, j + 1, x => by simp [setN, nth, nth_setN l i j x]
theorem setN_len : ∀ (l : List AV) (i : Nat) (x : AV), (setN l i x).length = l.length
  | [], _, _ => rfl
  | _ :: _, 0, _ => rfl
  | _ :: l, i + 1, x => by simp [setN, setN_len l i x]

theorem FRel.put {R : Rl} {fr : List AV} {a : Act} {d : Option Nat} {x : AV} {v : Value} (hf : FRel R fr a) (hv : VR R x v) : FRel R (putD fr d x) (a.put d v) := by
  cases d with
  | none => exact hf
  | some t =>
    refine ⟨by simp [putD, Act.put, setN_len, hf.len], ?_⟩
    intro j
    simp only [putD, Act.put, nth_setN]
    by_cases hj : t = j ∧ j < fr.length
    · rw [if_pos hj]
      obtain ⟨rfl, hlt⟩ := hj
      rw [hf.len] at hlt
      simp [Array.getD_eq_getD_getElem?, hlt, hv]
    · rw [if_neg hj]
      have := hf.get j
      by_cases htj : t = j
      · subst htj
        have hge : ¬ t < a.tmps.size := by rw [← hf.len]; intro hh; exact hj ⟨rfl, hh⟩
        have e : (a.tmps.setIfInBounds t v).getD t undef = a.tmps.getD t undef := by simp [Array.getD_eq_getD_getElem?, hge]
        rw [e]; exact this
      · have e : (a.tmps.setIfInBounds t v).getD j undef = a.tmps.getD j undef := by simp [Array.getD_eq_getD_getElem?, htj]
        rw [e]; exact this
theorem put_defers (a : Act) (d : Option Nat) (v : Value) : (a.put d v).defers = a.defers := by cases d <;> rfl

theorem wanted_sound {P : Program} {R : Rl} {fr : List AV} {a : Act} {ops : Array Oper} {o : Oper} {it : Item} {t : Bool} (hf : FRel R fr a) (hc : itemC P ops o = some it) (hw : wanted fr it.guard = some t) : Region.wanted o (yielded ops a.tmps) = t := by
  unfold itemC at hc
  split at hc
  · cases hc
  · split at hc
    · rename_i hg
      cases hc
      simp only [wanted] at hw; cases hw
      simp [Region.wanted, hg]
    · rename_i j b hg
      split at hc
      · rename_i s hs
        cases hc
        simp only [wanted] at hw
        have hv := hf.get s
        simp only [Region.wanted, hg, yielded, hs, Option.bind_some]
        split at hw
        · rename_i c hn
          cases hw
          rw [hn] at hv
          generalize he : a.tmps.getD s undef = u at hv
          cases hv
          have : a.tmps[s]? = some (.bool c) := by
            rw [Array.getD_eq_getD_getElem?] at he
            cases hq : a.tmps[s]? with
            | none => rw [hq] at he; simp [undef] at he
            | some y => rw [hq] at he; simp at he; rw [he]
          rw [this]
          simp
        · rename_i hn
          cases hw
          rw [hn] at hv
          generalize he : a.tmps.getD s undef = u at hv
          cases hv with
          | tup _ cs hcs =>
            cases hq : a.tmps[s]? with
            | none => simp
            | some y =>
              rw [Array.getD_eq_getD_getElem?, hq] at he
              simp at he
              subst he
              simp
        · cases hw
      · cases hc

theorem item_op {P : Program} {ops : Array Oper} {o : Oper} {it : Item} (hc : itemC P ops o = some it) : opC P o = some it.op ∧ it.dst = o.dst := by
  unfold itemC at hc
  split at hc
  · cases hc
  · rename_i op hop
    split at hc
    · cases hc; exact ⟨hop, rfl⟩
    · split at hc
      · cases hc; exact ⟨hop, rfl⟩
      · cases hc

section
variable {P : Program}

/- what a call comes to, at an operation -/
def CallOK (P : Program) (f : FuncId) (args : List AV) (h : H) (r : AV × H) : Prop :=
  ∀ (R : Rl) (w : World) (vs : Array Value), WR P.globals.size R h w → VRs R args vs.toList → ∀ (o : Oper) (a : Act) (next : Act → World → Prop) (Q : Exit → Act → World → Prop),
    (∀ R' w' v, Go2 P.globals.size R h w R' r.2 w' → VR R' r.1 v → next (a.put o.dst v) w') → o.upon P a next Q ((callFunc f vs).run P w)

theorem opC_call {o : Oper} {f' : Opd} {l : List Opd} (hc : opC P o = some (.call f' l)) : ∃ c : Call, o.op = .call c ∧ ∃ fo, c.callee = .value fo ∧ opdC P fo = some f' ∧ opdsC P c.args.toList = some l := by
  unfold opC at hc
  split at hc
  case h_26 c ho =>
    refine ⟨c, ho, ?_⟩
    unfold callC at hc
    split at hc
    · exfalso
      revert hc
      unfold builtinC appC copyC lenC minC maxC
      (repeat' split) <;> simp
    · rename_i fo hcal
      split at hc
      · rename_i g m hg hm
        cases hc
        exact ⟨fo, hcal, hg, hm⟩
      · cases hc
    · cases hc
  all_goals
    exfalso
    revert hc
    first
      | (simp; done)
      | ((repeat' split) <;> simp; done)
      | (unfold convC; (repeat' split) <;> simp; done)
      | (unfold buildC; (repeat' split) <;> simp; done)
      | (unfold rowC; (repeat' split) <;> simp; done)
      | (unfold makeC; (repeat' split) <;> simp; done)
      | (unfold sliceC; (repeat' split) <;> simp; done)
      | (unfold fieldC; (repeat' split) <;> simp; done)
      | (unfold faddrC; (repeat' split) <;> simp; done)
      | (unfold iaddrC; (repeat' split) <;> simp; done)
      | (unfold indexC; (repeat' split) <;> simp; done)
      | (unfold lookC; (repeat' split) <;> simp; done)
      | (unfold updC; (repeat' split) <;> simp; done)
      | (unfold deferC; (repeat' split) <;> simp; done)
theorem opC_dfr {o : Oper} {f' : Opd} {l : List Opd} (hc : opC P o = some (.dfr f' l)) : ∃ c : Call, o.op = .defer c ∧ ∃ fo, c.callee = .value fo ∧ opdC P fo = some f' ∧ opdsC P c.args.toList = some l := by
  unfold opC at hc
  split at hc
  case h_27 c ho =>
    refine ⟨c, ho, ?_⟩
    unfold deferC at hc
    split at hc
    · rename_i fo hcal
      split at hc
      · rename_i g m hg hm
        cases hc
        exact ⟨fo, hcal, hg, hm⟩
      · cases hc
    · cases hc
  all_goals
    exfalso
    revert hc
    first
      | (simp; done)
      | ((repeat' split) <;> simp; done)
      | (unfold convC; (repeat' split) <;> simp; done)
      | (unfold buildC; (repeat' split) <;> simp; done)
      | (unfold rowC; (repeat' split) <;> simp; done)
      | (unfold makeC; (repeat' split) <;> simp; done)
      | (unfold sliceC; (repeat' split) <;> simp; done)
      | (unfold fieldC; (repeat' split) <;> simp; done)
      | (unfold faddrC; (repeat' split) <;> simp; done)
      | (unfold iaddrC; (repeat' split) <;> simp; done)
      | (unfold indexC; (repeat' split) <;> simp; done)
      | (unfold lookC; (repeat' split) <;> simp; done)
      | (unfold updC; (repeat' split) <;> simp; done)
      | (unfold callC builtinC appC copyC lenC minC maxC; (repeat' split) <;> simp; done)

theorem call_sound {R : Rl} {h : H} {w : World} {o : Oper} {a : Act} {fr : List AV} (hw : WR P.globals.size R h w) (hf : FRel R fr a) {op : AOp} {f : FuncId} {args : List AV} (hc : opC P o = some op) (hs : step op fr h = some (.call f args)) :
    ∃ vs : Array Value, VRs R args vs.toList ∧ (execOp a.eval o).run P w = (callFunc f vs).run P w := by
  have key : ∃ f' l, op = .call f' l := by
    cases op <;> simp only [step] at hs <;> first
      | exact ⟨_, _, rfl⟩
      | (exfalso; revert hs; (repeat' split) <;> simp [Option.map_eq_some_iff]; done)
      | (exfalso; obtain ⟨_, _, e⟩ := map_some' hs; cases e; done)
      | (cases hs; done)
  obtain ⟨f', l, rfl⟩ := key
  simp only [step] at hs
  split at hs
  · rename_i g x y e
    cases hs
    obtain ⟨⟨callee, as, ts⟩, ho, fo, hcal, hfo, hl⟩ := opC_call hc
    simp only at hcal; subst hcal
    exact s_call hw hf ho hfo hl e
  · cases hs

theorem dfr_sound {R : Rl} {h : H} {w : World} {o : Oper} {a : Act} {fr : List AV} (hw : WR P.globals.size R h w) (hf : FRel R fr a) {op : AOp} {f : FuncId} {args : List AV} (hc : opC P o = some op) (hs : step op fr h = some (.dfr f args)) :
    ∃ as cap : Array Value, VRs R args (as ++ cap).toList ∧ (execOp a.eval o).run P w = .ok (.defer { target := .fn (.func f) cap, args := as }) w := by
  have key : ∃ f' l, op = .dfr f' l := by
    cases op <;> simp only [step] at hs <;> first
      | exact ⟨_, _, rfl⟩
      | (exfalso; revert hs; (repeat' split) <;> simp [Option.map_eq_some_iff]; done)
      | (exfalso; obtain ⟨_, _, e⟩ := map_some' hs; cases e; done)
      | (cases hs; done)
  obtain ⟨f', l, rfl⟩ := key
  simp only [step] at hs
  split at hs
  · rename_i g x y e
    cases hs
    obtain ⟨⟨callee, as, ts⟩, ho, fo, hcal, hfo, hl⟩ := opC_dfr hc
    simp only at hcal; subst hcal
    exact s_dfr hw hf ho hfo hl e
  · cases hs

/- the run of a list of items -/
inductive Trace (P : Program) : List ItemC → List AV → List Df → H → Res → Prop
  | nil (fr : List AV) (d : List Df) (h : H) : Trace P [] fr d h ⟨.normal, fr, d, h⟩
  | skip (i : ItemC) (l : List ItemC) (fr : List AV) (d : List Df) (h : H) (r : Res) (hw : wanted fr i.it.guard = some false) (ht : Trace P l (putD fr i.it.dst (.tup [])) d h r) : Trace P (i :: l) fr d h r
  | val (i : ItemC) (l : List ItemC) (fr : List AV) (d : List Df) (h : H) (r : Res) (x : AV) (h' : H) (hw : wanted fr i.it.guard = some true) (hs : step i.it.op fr h = some (.val x h')) (hk : i.chk.all (again h' fr) = true)
      (ht : Trace P l (putD fr i.it.dst x) d h' r) : Trace P (i :: l) fr d h r
  | dfr (i : ItemC) (l : List ItemC) (fr : List AV) (d : List Df) (h : H) (r : Res) (f : FuncId) (args : List AV) (hw : wanted fr i.it.guard = some true) (hs : step i.it.op fr h = some (.dfr f args))
      (ht : Trace P l (putD fr i.it.dst (.tup [])) (⟨f, args⟩ :: d) h r) : Trace P (i :: l) fr d h r
  | call (i : ItemC) (l : List ItemC) (fr : List AV) (d : List Df) (h : H) (r : Res) (f : FuncId) (args : List AV) (c : AV × H) (hw : wanted fr i.it.guard = some true) (hs : step i.it.op fr h = some (.call f args)) (hc : CallOK P f args h c)
      (hk : i.chk.all (again c.2 fr) = true) (ht : Trace P l (putD fr i.it.dst c.1) d c.2 r) : Trace P (i :: l) fr d h r

/- one item, done: what is behind it -/
theorem item_wp {ops : Array Oper} {R : Rl} {h : H} {w : World} {o : Oper} {a : Act} {fr : List AV} {it : Item} (hw : WR P.globals.size R h w) (hf : FRel R fr a) (hi : itemC P ops o = some it) {next : Act → World → Prop} {Q : Exit → Act → World → Prop} {x : AV} {h' : H}
    (hs : step it.op fr h = some (.val x h') ∨ ∃ f args, step it.op fr h = some (.call f args) ∧ CallOK P f args h (x, h'))
    (hn : ∀ R' w' a', Go2 P.globals.size R h w R' h' w' → FRel R' (putD fr it.dst x) a' → a'.defers = a.defers → next a' w') : o.wp P a w next Q := by
  obtain ⟨hop, hdst⟩ := item_op hi
  rw [hdst] at hn
  rcases hs with hs | ⟨f, args, hs, hcall⟩
  · obtain ⟨R', w', hgo, hh⟩ := step_sound hw hf hop hs
    rcases hh with ⟨v, hrun, hv⟩ | ⟨hrun, hv⟩
    · unfold Oper.wp; rw [hrun, Oper.upon_value]
      exact hn R' w' _ hgo ((hf.ext hgo.ext).put hv) (put_defers _ _ _)
    · unfold Oper.wp; rw [hrun, Oper.upon_skip]
      exact hn R' w' _ hgo ((hf.ext hgo.ext).put hv) (put_defers _ _ _)
  · obtain ⟨vs, hvs, hrun⟩ := call_sound hw hf hop hs
    unfold Oper.wp; rw [hrun]
    exact hcall R w vs hw hvs o a next Q (fun R' w' v hgo hv => hn R' w' _ hgo ((hf.ext hgo.ext).put hv) (put_defers _ _ _))

/- a region in order -/
theorem region_wp {ops : Array Oper} {Q : Exit → Act → World → Prop} {cs : List ItemC} {fr : List AV} {d : List Df} {h : H} {r : Res} (ht : Trace P cs fr d h r) : ∀ (l : List Oper) (its : List Item), itemsC P ops l = some its → cs.map (·.it) = its →
    ∀ (R : Rl) (w : World) (a : Act), WR P.globals.size R h w → FRel R fr a → DR R d a.defers →
      (∀ R' w' a', Go2 P.globals.size R h w R' r.h w' → FRel R' r.fr a' → DR R' r.d a'.defers → Q .normal a' w') → wpList P ops Q l a w := by
  induction ht with
  | nil fr d h =>
    intro l its hi hm R w a hw hf hd hq
    cases l with
    | nil => exact wpList_nil (hq R w a (Go2.refl hw) hf hd)
    | cons o l =>
      simp only [itemsC] at hi
      split at hi
      · cases hi; cases hm
      · cases hi
  | skip i cs fr d h r hwn ht ih =>
    intro l its hi hm R w a hw hf hd hq
    cases l with
    | nil => simp only [itemsC] at hi; cases hi; cases hm
    | cons o l =>
      simp only [itemsC] at hi
      split at hi
      · rename_i it its' h1 h2
        cases hi
        simp only [List.map_cons, List.cons.injEq] at hm
        obtain ⟨rfl, hm⟩ := hm
        have hwant := wanted_sound hf h1 hwn
        obtain ⟨hop, hdst⟩ := item_op h1
        unfold wpList
        rw [if_neg (by rw [hwant]; simp)]
        refine ih l its' h2 hm R w _ hw ?_ (by rw [put_defers]; exact hd) hq
        rw [← hdst]
        exact hf.put (.tup [] _ .nil)
      · cases hi
  | val i cs fr d h r x h' hwn hs hk ht ih =>
    intro l its hi hm R w a hw hf hd hq
    cases l with
    | nil => simp only [itemsC] at hi; cases hi; cases hm
    | cons o l =>
      simp only [itemsC] at hi
      split at hi
      · rename_i it its' h1 h2
        cases hi
        simp only [List.map_cons, List.cons.injEq] at hm
        obtain ⟨rfl, hm⟩ := hm
        have hwant := wanted_sound hf h1 hwn
        unfold wpList
        rw [if_pos hwant]
        refine .inl (item_wp hw hf h1 (.inl hs) ?_)
        intro R' w' a' hgo hf' hd'
        refine ih l its' h2 hm R' w' a' hgo.wr hf' (by rw [hd']; exact hd.ext hgo.ext) ?_
        intro R'' w'' a'' hgo' hf'' hd''
        exact hq R'' w'' a'' (hgo.trans hgo') hf'' hd''
      · cases hi
  | dfr i cs fr d h r f args hwn hs ht ih =>
    intro l its hi hm R w a hw hf hd hq
    cases l with
    | nil => simp only [itemsC] at hi; cases hi; cases hm
    | cons o l =>
      simp only [itemsC] at hi
      split at hi
      · rename_i it its' h1 h2
        cases hi
        simp only [List.map_cons, List.cons.injEq] at hm
        obtain ⟨rfl, hm⟩ := hm
        have hwant := wanted_sound hf h1 hwn
        obtain ⟨hop, hdst⟩ := item_op h1
        obtain ⟨as, cap, hv, hrun⟩ := dfr_sound hw hf hop hs
        unfold wpList
        rw [if_pos hwant]
        refine .inl ?_
        unfold Oper.wp
        rw [hrun, Oper.upon_defer]
        refine ih l its' h2 hm R w _ hw ?_ ?_ hq
        · rw [← hdst]
          have hf2 : FRel R fr { a with defers := { target := .fn (.func f) cap, args := as } :: a.defers } := ⟨hf.len, hf.get⟩
          exact hf2.put (.tup [] _ .nil)
        · rw [put_defers]
          exact .cons _ _ _ _ _ _ hv hd
      · cases hi
  | call i cs fr d h r f args c hwn hs hcall hk ht ih =>
    intro l its hi hm R w a hw hf hd hq
    cases l with
    | nil => simp only [itemsC] at hi; cases hi; cases hm
    | cons o l =>
      simp only [itemsC] at hi
      split at hi
      · rename_i it its' h1 h2
        cases hi
        simp only [List.map_cons, List.cons.injEq] at hm
        obtain ⟨rfl, hm⟩ := hm
        have hwant := wanted_sound hf h1 hwn
        unfold wpList
        rw [if_pos hwant]
        refine .inl (item_wp hw hf h1 (x := c.1) (h' := c.2) (.inr ⟨f, args, hs, hcall⟩) ?_)
        intro R' w' a' hgo hf' hd'
        refine ih l its' h2 hm R' w' a' hgo.wr hf' (by rw [hd']; exact hd.ext hgo.ext) ?_
        intro R'' w'' a'' hgo' hf'' hd''
        exact hq R'' w'' a'' (hgo.trans hgo') hf'' hd''
      · cases hi
end
end Go.Kx
/- THE ENGINE, part 19: what a drawn region's order rests on: operations look at their slots alone; what is looked at again; the compiler's checks. -/
namespace Go.Kx
open Go

/- two equal values are one -/
mutual
theorem AV.beq_eq : ∀ {a b : AV}, AV.beq a b = true → a = b
  | .bool a, b, h => by cases b <;> simp [AV.beq] at h; subst h; rfl
  | .int k n, b, h => by cases b <;> simp [AV.beq] at h; obtain ⟨rfl, rfl⟩ := h; rfl
  | .str s, b, h => by cases b <;> simp [AV.beq] at h; subst h; rfl
  | .nil, b, h => by cases b <;> simp [AV.beq] at h; rfl
  | .ptr i v o, b, h => by cases b <;> simp [AV.beq] at h; obtain ⟨⟨rfl, rfl⟩, rfl⟩ := h; rfl
  | .nilS, b, h => by cases b <;> simp [AV.beq] at h; rfl
  | .slice i v o n sz f, b, h => by cases b <;> simp [AV.beq] at h; obtain ⟨⟨⟨⟨⟨rfl, rfl⟩, rfl⟩, rfl⟩, rfl⟩, rfl⟩ := h; rfl
  | .nilM, b, h => by cases b <;> simp [AV.beq] at h; rfl
  | .map i, b, h => by cases b <;> simp [AV.beq] at h; subst h; rfl
  | .nilF, b, h => by cases b <;> simp [AV.beq] at h; rfl
  | .func f x y, b, h => by
    cases b <;> simp [AV.beq] at h
    obtain ⟨⟨rfl, h1⟩, h2⟩ := h
    rw [AV.beqs_eq h1, AV.beqs_eq h2]
  | .nilI, b, h => by cases b <;> simp [AV.beq] at h; rfl
  | .iface t x, b, h => by cases b <;> simp [AV.beq] at h; obtain ⟨rfl, h1⟩ := h; rw [AV.beq_eq h1]
  | .agg l, b, h => by cases b <;> simp [AV.beq] at h; rw [AV.beqs_eq h]
  | .tup l, b, h => by cases b <;> simp [AV.beq] at h; rw [AV.beqs_eq h]
  | .undef, b, h => by cases b <;> simp [AV.beq] at h
theorem AV.beqs_eq : ∀ {a b : List AV}, AV.beqs a b = true → a = b
  | [], [], _ => rfl
  | x :: l, y :: m, h => by simp [AV.beqs] at h; rw [AV.beq_eq h.1, AV.beqs_eq h.2]
  | [], _ :: _, h => by simp [AV.beqs] at h
  | _ :: _, [], h => by simp [AV.beqs] at h
end

/- an operation looks at its slots alone -/
section
variable {fr fr' : List AV} {h : H}
theorem opd_congr {x : Opd} (hh : ∀ t ∈ slotO x, nth fr t = nth fr' t) : opd fr x = opd fr' x := by
  cases x with
  | tmp t => exact hh t (by simp [slotO])
  | lit x => rfl
  | glob g => rfl
  | fn f => rfl
theorem opds_congr : ∀ {l : List Opd}, (∀ t ∈ slotOs l, nth fr t = nth fr' t) → l.map (opd fr) = l.map (opd fr')
  | [], _ => rfl
  | x :: l, hh => by
    simp only [List.map_cons]
    rw [opd_congr (fun t ht => hh t (by simp [slotOs, ht])), opds_congr (fun t ht => hh t (by simp [slotOs, ht]))]
theorem lay_congr : ∀ {ps : List (Nat × Nat × Opd)} {cs : List AV}, (∀ t ∈ slotP ps, nth fr t = nth fr' t) → lay cs fr ps = lay cs fr' ps
  | [], _, _ => rfl
  | (o, n, x) :: ps, cs, hh => by
    simp only [lay]
    rw [opd_congr (fun t ht => hh t (by simp [slotP, ht]))]
    split
    · exact lay_congr (fun t ht => hh t (by simp [slotP, ht]))
    · rfl
theorem optNat_congr {x : Option Opd} {d : Nat} (hh : ∀ t ∈ slotOo x, nth fr t = nth fr' t) : optNat fr x d = optNat fr' x d := by
  cases x with
  | none => rfl
  | some x => simp only [optNat]; rw [opd_congr hh]
theorem maxNat_congr {x : Option Opd} (hh : ∀ t ∈ slotOo x, nth fr t = nth fr' t) : maxNat fr x = maxNat fr' x := by
  cases x with
  | none => rfl
  | some x => simp only [maxNat]; rw [opd_congr hh]

theorem step_congr {op : AOp} (hh : ∀ t ∈ slots op, nth fr t = nth fr' t) : step op fr h = step op fr' h := by
  have o1 : ∀ x, (∀ t ∈ slotO x, t ∈ slots op) → opd fr x = opd fr' x := fun x hx => opd_congr fun t ht => hh t (hx t ht)
  have o2 : ∀ l, (∀ t ∈ slotOs l, t ∈ slots op) → l.map (opd fr) = l.map (opd fr') := fun x hx => opds_congr fun t ht => hh t (hx t ht)
  have o3 : ∀ ps cs, (∀ t ∈ slotP ps, t ∈ slots op) → lay cs fr ps = lay cs fr' ps := fun x cs hx => lay_congr fun t ht => hh t (hx t ht)
  have o4 : ∀ x d, (∀ t ∈ slotOo x, t ∈ slots op) → optNat fr x d = optNat fr' x d := fun x d hx => optNat_congr fun t ht => hh t (hx t ht)
  have o5 : ∀ x, (∀ t ∈ slotOo x, t ∈ slots op) → maxNat fr x = maxNat fr' x := fun x hx => maxNat_congr fun t ht => hh t (hx t ht)
  cases op <;> simp only [slots, List.mem_append] at o1 o2 o3 o4 o5 <;> simp only [step]
  case pick c a b => rw [o1 c (fun t ht => .inl ht), o1 a (fun t ht => .inr (.inl ht)), o1 b (fun t ht => .inr (.inr ht))]
  case build z ps => rw [o3 ps _ (fun t ht => ht)]
  case row n sz z ps => rw [o3 ps _ (fun t ht => ht)]
  case mkfunc f a b => rw [o2 a (fun t ht => .inl ht), o2 b (fun t ht => .inr ht)]
  case sliceS x lo hi => rw [o1 x (fun t ht => .inl ht), o4 lo _ (fun t ht => .inr (.inl ht))]; simp only [o4 hi _ (fun t ht => .inr (.inr ht))]
  case sliceL sz x lo hi mx => rw [o1 x (fun t ht => .inl ht), o4 lo _ (fun t ht => .inr (.inl ht)), o5 mx (fun t ht => .inr (.inr (.inr ht)))]; simp only [o4 hi _ (fun t ht => .inr (.inr (.inl ht)))]
  case upd d m k x => rw [o1 m (fun t ht => .inl ht), o1 k (fun t ht => .inr (.inl ht)), o1 x (fun t ht => .inr (.inr ht))]
  case call f args => rw [o1 f (fun t ht => .inl ht), o2 args (fun t ht => .inr ht)]
  case dfr f args => rw [o1 f (fun t ht => .inl ht), o2 args (fun t ht => .inr ht)]
  case store n a x => rw [o1 a (fun t ht => .inl ht), o1 x (fun t ht => .inr ht)]
  case bin op e a x => rw [o1 a (fun t ht => .inl ht), o1 x (fun t ht => .inr ht)]
  case mksl sz b z a x => rw [o1 a (fun t ht => .inl ht), o1 x (fun t ht => .inr ht)]
  case iaddr sz a x => rw [o1 a (fun t ht => .inl ht), o1 x (fun t ht => .inr ht)]
  case iaddrA n sz a x => rw [o1 a (fun t ht => .inl ht), o1 x (fun t ht => .inr ht)]
  case idxS a x => rw [o1 a (fun t ht => .inl ht), o1 x (fun t ht => .inr ht)]
  case idxA n a x => rw [o1 a (fun t ht => .inl ht), o1 x (fun t ht => .inr ht)]
  case idxAN n sz a x => rw [o1 a (fun t ht => .inl ht), o1 x (fun t ht => .inr ht)]
  case look k z a x ok => rw [o1 a (fun t ht => .inl ht), o1 x (fun t ht => .inr ht)]
  case app sz b a x => rw [o1 a (fun t ht => .inl ht), o1 x (fun t ht => .inr ht)]
  case copy sz a x => rw [o1 a (fun t ht => .inl ht), o1 x (fun t ht => .inr ht)]
  case mn a x => rw [o1 a (fun t ht => .inl ht), o1 x (fun t ht => .inr ht)]
  case mx a x => rw [o1 a (fun t ht => .inl ht), o1 x (fun t ht => .inr ht)]
  case ext x i => rw [o1 x (fun t ht => ht)]
  all_goals first | rfl | (rename_i x; rw [o1 x (fun t ht => ht)])

theorem wanted_congr {it : Item} (hh : ∀ t ∈ namesI it, nth fr t = nth fr' t) : wanted fr it.guard = wanted fr' it.guard := by
  cases hg : it.guard with
  | none => rfl
  | some p =>
    obtain ⟨t, b⟩ := p
    simp only [wanted]
    rw [hh t (by simp [namesI, hg])]
end

/- what doesn't act leaves the heap, or makes one row more -/
theorem noeff_heap {op : AOp} {fr : List AV} {h h' : H} {x : AV} (he : effB op = false) (hn : newB op = false) (hs : step op fr h = some (.val x h')) : h' = h := by
  cases op <;> simp only [effB, newB] at he hn <;> (try (cases he; done)) <;> (try (cases hn; done)) <;> simp only [step] at hs <;> revert hs <;> (repeat' split) <;> simp [Option.map_eq_some_iff] <;> intros <;> simp_all

/- what neither acts nor reads does the same over any heap -/
theorem pure_heap {op : AOp} {fr : List AV} {h h' h2 : H} {x : AV} (he : effB op = false) (hn : newB op = false) (hr : readB op = false) (hs : step op fr h = some (.val x h')) : step op fr h2 = some (.val x h2) := by
  cases op <;> simp only [effB, newB, readB] at he hn hr <;> (try (cases he; done)) <;> (try (cases hn; done)) <;> (try (cases hr; done)) <;> simp only [step] at hs ⊢ <;> revert hs <;> (repeat' split) <;> simp [Option.map_eq_some_iff] <;> intros <;> simp_all
end Go.Kx
/- THE ENGINE, part 20: what the compiler has checked of a drawn region; the canonical run as functions of the place. -/
namespace Go.Kx
open Go

/- the bits of 'before' -/
theorem inner_bits (g : Nat → Nat) (j : Nat) : ∀ (l : List Edge) (s : Nat), (l.foldl (fun s e => if Region.binds .any e then s ||| 2 ^ e.on ||| g e.on else s) s).testBit j = true ↔
    (s.testBit j = true ∨ ∃ e ∈ l, Region.binds .any e = true ∧ (e.on = j ∨ (g e.on).testBit j = true))
  | [], s => by simp
  | e :: l, s => by
    simp only [List.foldl_cons]
    rw [inner_bits g j l]
    by_cases hb : Region.binds .any e = true
    · rw [if_pos hb]
      simp only [Nat.testBit_or, Nat.testBit_two_pow, Bool.or_eq_true, decide_eq_true_eq, List.mem_cons]
      constructor
      · rintro (((h | h) | h) | ⟨e', he', h⟩)
        · exact .inl h
        · exact .inr ⟨e, .inl rfl, hb, .inl h⟩
        · exact .inr ⟨e, .inl rfl, hb, .inr h⟩
        · exact .inr ⟨e', .inr he', h⟩
      · rintro (h | ⟨e', rfl | he', hb', h | h⟩)
        · exact .inl (.inl (.inl h))
        · exact .inl (.inl (.inr h))
        · exact .inl (.inr h)
        · exact .inr ⟨e', he', hb', .inl h⟩
        · exact .inr ⟨e', he', hb', .inr h⟩
    · rw [if_neg hb]
      simp only [List.mem_cons]
      constructor
      · rintro (h | ⟨e', he', h⟩)
        · exact .inl h
        · exact .inr ⟨e', .inr he', h⟩
      · rintro (h | ⟨e', rfl | he', hb', h⟩)
        · exact .inl h
        · exact absurd hb' hb
        · exact .inr ⟨e', he', hb', h⟩

def bfStep (acc : Array Nat) (o : Oper) : Array Nat := acc.push (o.after.foldl (fun s e => if Region.binds .any e then s ||| 2 ^ e.on ||| acc.getD e.on 0 else s) 0)
def BfOK (l : List Oper) (acc : Array Nat) : Prop := acc.size = l.length ∧ ∀ i o, l[i]? = some o → ∀ j, (acc.getD i 0).testBit j = true ↔ ∃ e ∈ o.after.toList, Region.binds .any e = true ∧ (e.on = j ∨ (e.on < i ∧ (acc.getD e.on 0).testBit j = true))
theorem bf_step (l : List Oper) (acc : Array Nat) (o : Oper) (h : BfOK l acc) : BfOK (l ++ [o]) (bfStep acc o) := by
  obtain ⟨hs, hb⟩ := h
  have g1 : ∀ k, k < acc.size → (bfStep acc o).getD k 0 = acc.getD k 0 := by intro k hk; simp [bfStep, Array.getD_eq_getD_getElem?, Array.getElem?_push, Nat.ne_of_lt hk]
  refine ⟨by simp [bfStep, hs], ?_⟩
  intro i o' ho j
  by_cases hi : i < l.length
  · rw [List.getElem?_append_left hi] at ho
    rw [g1 i (by omega), hb i o' ho j]
    constructor
    · rintro ⟨e, he, hbe, h | ⟨h1, h2⟩⟩
      · exact ⟨e, he, hbe, .inl h⟩
      · exact ⟨e, he, hbe, .inr ⟨h1, by rw [g1 _ (by omega)]; exact h2⟩⟩
    · rintro ⟨e, he, hbe, h | ⟨h1, h2⟩⟩
      · exact ⟨e, he, hbe, .inl h⟩
      · exact ⟨e, he, hbe, .inr ⟨h1, by rw [g1 _ (by omega)] at h2; exact h2⟩⟩
  · have hil : i = l.length := by
      have := (List.getElem?_eq_some_iff.1 ho).1; simp at this; omega
    subst hil
    have : o' = o := by rw [List.getElem?_append_right (Nat.le_refl _)] at ho; simpa using ho.symm
    subst this
    have hlast : (bfStep acc o').getD l.length 0 = o'.after.foldl (fun s e => if Region.binds .any e then s ||| 2 ^ e.on ||| acc.getD e.on 0 else s) 0 := by
      simp [bfStep, Array.getD_eq_getD_getElem?, ← hs]
    rw [hlast, ← Array.foldl_toList, inner_bits (fun k => acc.getD k 0)]
    simp only [Nat.zero_testBit, Bool.false_eq_true, false_or]
    constructor
    · rintro ⟨e, he, hbe, h | h⟩
      · exact ⟨e, he, hbe, .inl h⟩
      · by_cases hk : e.on < acc.size
        · exact ⟨e, he, hbe, .inr ⟨by omega, by rw [g1 _ hk]; exact h⟩⟩
        · rw [Array.getD_eq_getD_getElem?, Array.getElem?_eq_none (by omega)] at h; simp at h
    · rintro ⟨e, he, hbe, h | ⟨h1, h2⟩⟩
      · exact ⟨e, he, hbe, .inl h⟩
      · exact ⟨e, he, hbe, .inr (by rw [g1 _ (by omega)] at h2; exact h2)⟩
theorem bf_fold : ∀ (l l0 : List Oper) (acc : Array Nat), BfOK l0 acc → BfOK (l0 ++ l) (l.foldl bfStep acc)
  | [], l0, acc, h => by simpa using h
  | o :: l, l0, acc, h => by
    have := bf_fold l (l0 ++ [o]) _ (bf_step l0 acc o h)
    simpa using this
theorem before_spec (ops : Array Oper) (i : Nat) (o : Oper) (ho : ops[i]? = some o) (j : Nat) : ((Region.before ops).getD i 0).testBit j = true ↔
    ∃ e ∈ o.after, Region.binds .any e = true ∧ (e.on = j ∨ (e.on < i ∧ ((Region.before ops).getD e.on 0).testBit j = true)) := by
  have h := bf_fold ops.toList [] #[] ⟨rfl, fun i o ho => by simp at ho⟩
  have e : ops.toList.foldl bfStep #[] = Region.before ops := by unfold Region.before; rw [← Array.foldl_toList]; rfl
  rw [e] at h
  have := h.2 i o (by simpa using ho) j
  simpa using this

/- the compiler's checks, place by place -/
def pend1 (Pd : List Pl) (p : Pl) : List Pl := if effB p.it.op then Pd.filter fun q => !p.bf.testBit q.ix else Pd
structure ChkAt (n : Nat) (done Pd : List Pl) (p : Pl) (more : Prop) (ic : ItemC) (Pd' : List Pl) : Prop where
  top : ∀ j, j < n → p.bf.testBit j = true → ∃ q ∈ done, q.ix = j
  nd : ∀ q ∈ done, q.ix ≠ p.ix
  cl : ∀ q ∈ done, clash q.it p.it = true → p.bf.testBit q.ix = true
  ef : ∀ q ∈ done, effB q.it.op = true → p.bf.testBit q.ix = true
  it : ic.it = p.it
  lt : p.bf < 2 ^ n
  self : (readB p.it.op = true ∨ newB p.it.op = true) → ∀ t ∈ namesI p.it, writesI p.it t = false
  chk : (effB p.it.op = true ∨ newB p.it.op = true) → ic.chk = (pend1 Pd p).map (·.it)
  sl : more → ∀ q ∈ pend1 Pd p, (∀ t ∈ namesI q.it, writesI p.it t = false) ∧ ∀ d, q.it.dst = some d → writesI p.it d = false
  pd : Pd' = if (readB p.it.op || newB p.it.op) = true then pend1 Pd p ++ [p] else pend1 Pd p

theorem ite_some {α : Type} {c : Prop} [Decidable c] {a : Option α} {L : α} (h : (if c then a else none) = some L) : c ∧ a = some L := by
  by_cases hc : c
  · rw [if_pos hc] at h; exact ⟨hc, h⟩
  · rw [if_neg hc] at h; cases h
theorem match_some {α β : Type} {a : Option α} {g : α → β} {L : β} (h : (match a with | some l => some (g l) | none => none) = some L) : ∃ l, a = some l ∧ L = g l := by
  cases a with
  | none => cases h
  | some l => cases h; exact ⟨l, rfl, rfl⟩
theorem chkI_spec (n : Nat) : ∀ (ps : List Pl) (done pend : List Pl) (L : List ItemC), chkI n done pend ps = some L →
    L.length = ps.length ∧ ∃ Pd : Nat → List Pl, Pd 0 = pend ∧ ∀ k p, ps[k]? = some p → ∃ ic, L[k]? = some ic ∧ ChkAt n (done ++ ps.take k) (Pd k) p (k + 1 < ps.length) ic (Pd (k + 1))
  | [], done, pend, L, h => by
    simp only [chkI] at h; cases h
    exact ⟨rfl, fun _ => pend, rfl, fun k p hk => by simp at hk⟩
  | p :: r, done, pend, L, h => by
    simp only [chkI] at h
    obtain ⟨hc, h⟩ := ite_some h
    simp only [Bool.and_eq_true, List.all_eq_true, List.mem_range, Bool.or_eq_true, Bool.not_eq_true', bne_iff_ne, List.any_eq_true, beq_iff_eq] at hc
    obtain ⟨⟨⟨⟨⟨c1, c2⟩, c3⟩, c4⟩, c5⟩, c6⟩ := hc
    obtain ⟨hs, h⟩ := ite_some h
    have h2 : ∃ l, chkI n (done ++ [p]) (if (readB p.it.op || newB p.it.op) = true then pend1 pend p ++ [p] else pend1 pend p) r = some l ∧
        L = ⟨p.it, if (effB p.it.op || newB p.it.op) = true then (pend1 pend p).map (·.it) else []⟩ :: l := by
      cases hl : chkI n (done ++ [p]) (if (readB p.it.op || newB p.it.op) = true then pend1 pend p ++ [p] else pend1 pend p) r with
      | none => unfold pend1 at hl; rw [hl] at h; cases h
      | some l => unfold pend1 at hl; rw [hl] at h; cases h; exact ⟨l, rfl, rfl⟩
    clear h
    obtain ⟨l, hl, h⟩ := h2
    cases h
    obtain ⟨hlen, Pd, h0, hP⟩ := chkI_spec n r (done ++ [p]) _ l hl
    refine ⟨by simp [hlen], fun k => match k with | 0 => pend | k + 1 => Pd k, rfl, ?_⟩
    intro k q hk
    cases k with
    | zero =>
      simp only [List.getElem?_cons_zero, Option.some.injEq] at hk
      subst hk
      refine ⟨_, rfl, ?_⟩
      refine ⟨?_, ?_, ?_, ?_, rfl, by simpa [Nat.blt_eq] using c5, ?_, ?_, ?_, ?_⟩
      · intro j hj hb
        rcases c1 j hj with h | ⟨q, hq, e⟩
        · rw [hb] at h; cases h
        · exact ⟨q, by simpa using hq, e⟩
      · intro q hq; exact c2 q (by simpa using hq)
      · intro q hq hcl
        rcases c3 q (by simpa using hq) with h | h
        · rw [hcl] at h; cases h
        · exact h
      · intro q hq hcl
        rcases c4 q (by simpa using hq) with h | h
        · rw [hcl] at h; cases h
        · exact h
      · intro he t ht
        rcases c6 with h | h
        · rcases he with h' | h' <;> simp [h'] at h
        · rw [List.any_eq_false] at h; simpa using h t ht
      · intro he
        have : (effB p.it.op || newB p.it.op) = true := by rcases he with h | h <;> simp [h]
        simp only [this, if_true, pend1]
      · intro hm q hq
        rw [List.all_eq_true] at hs
        have hq2 := hs q hq
        have hr : r.isEmpty = false := by
          cases r with
          | nil => simp at hm
          | cons => rfl
        simp only [hr, Bool.false_or, Bool.not_eq_true', Bool.or_eq_false_iff] at hq2
        obtain ⟨g1, g2⟩ := hq2
        refine ⟨?_, ?_⟩
        · intro t ht
          rw [List.any_eq_false] at g1
          simpa using g1 t ht
        · intro d hd
          rw [hd] at g2; exact g2
      · exact h0
    | succ k =>
      simp only [List.getElem?_cons_succ] at hk
      obtain ⟨ic, hic, hat⟩ := hP k q hk
      refine ⟨ic, by simpa using hic, ?_⟩
      have e : done ++ (p :: r).take (k + 1) = done ++ [p] ++ r.take k := by simp
      rw [e]
      refine ⟨hat.top, hat.nd, hat.cl, hat.ef, hat.it, hat.lt, hat.self, hat.chk, fun hm => hat.sl (by simp at hm; omega), hat.pd⟩

/- the canonical run, place by place -/
inductive StepAt (P : Program) (i : ItemC) (fr : List AV) (d : List Df) (h : H) (x : AV) (d' : List Df) (h' : H) : Prop
  | skip (hw : wanted fr i.it.guard = some false) (hx : x = .tup []) (hd : d' = d) (hh : h' = h) : StepAt P i fr d h x d' h'
  | val (hw : wanted fr i.it.guard = some true) (hs : step i.it.op fr h = some (.val x h')) (hk : i.chk.all (again h' fr) = true) (hd : d' = d) : StepAt P i fr d h x d' h'
  | dfr (f : FuncId) (args : List AV) (hw : wanted fr i.it.guard = some true) (hs : step i.it.op fr h = some (.dfr f args)) (hx : x = .tup []) (hd : d' = ⟨f, args⟩ :: d) (hh : h' = h) : StepAt P i fr d h x d' h'
  | call (f : FuncId) (args : List AV) (hw : wanted fr i.it.guard = some true) (hs : step i.it.op fr h = some (.call f args)) (hc : CallOK P f args h (x, h')) (hk : i.chk.all (again h' fr) = true) (hd : d' = d) : StepAt P i fr d h x d' h'

structure Run (P : Program) (L : List ItemC) (F : Nat → List AV) (D : Nat → List Df) (Hh : Nat → H) (X : Nat → AV) : Prop where
  st : ∀ m i, L[m]? = some i → StepAt P i (F m) (D m) (Hh m) (X m) (D (m + 1)) (Hh (m + 1))
  fr : ∀ m i, L[m]? = some i → F (m + 1) = putD (F m) i.it.dst (X m)

def sh {α : Type} (a : α) (f : Nat → α) : Nat → α
  | 0 => a
  | m + 1 => f m

theorem trace_run {P : Program} {L : List ItemC} {fr : List AV} {d : List Df} {h : H} {r : Res} (ht : Trace P L fr d h r) :
    ∃ F D Hh X, Run P L F D Hh X ∧ F 0 = fr ∧ D 0 = d ∧ Hh 0 = h ∧ r = ⟨.normal, F L.length, D L.length, Hh L.length⟩ := by
  have cons : ∀ (i : ItemC) (l : List ItemC) (fr : List AV) (d : List Df) (h : H) (x : AV) (d' : List Df) (h' : H) (r : Res), StepAt P i fr d h x d' h' →
      (∃ F D Hh X, Run P l F D Hh X ∧ F 0 = putD fr i.it.dst x ∧ D 0 = d' ∧ Hh 0 = h' ∧ r = ⟨.normal, F l.length, D l.length, Hh l.length⟩) →
      ∃ F D Hh X, Run P (i :: l) F D Hh X ∧ F 0 = fr ∧ D 0 = d ∧ Hh 0 = h ∧ r = ⟨.normal, F (i :: l).length, D (i :: l).length, Hh (i :: l).length⟩ := by
    rintro i l fr d h x d' h' r hs ⟨F, D, Hh, X, hr, rfl', rfl, rfl, rfl⟩
    refine ⟨sh fr F, sh d D, sh h Hh, sh x X, ⟨?_, ?_⟩, rfl, rfl, rfl, rfl⟩
    · intro m j hm
      cases m with
      | zero => simp only [List.getElem?_cons_zero, Option.some.injEq] at hm; subst hm; exact hs
      | succ m => exact hr.st m j (by simpa using hm)
    · intro m j hm
      cases m with
      | zero => simp only [List.getElem?_cons_zero, Option.some.injEq] at hm; subst hm; exact rfl'
      | succ m => exact hr.fr m j (by simpa using hm)
  induction ht with
  | nil fr d h => exact ⟨fun _ => fr, fun _ => d, fun _ => h, fun _ => .undef, ⟨fun m i hm => by simp at hm, fun m i hm => by simp at hm⟩, rfl, rfl, rfl, rfl⟩
  | skip i l fr d h r hw ht ih => exact cons i l fr d h _ _ _ r (.skip hw rfl rfl rfl) ih
  | val i l fr d h r x h' hw hs hk ht ih => exact cons i l fr d h _ _ _ r (.val hw hs hk rfl) ih
  | dfr i l fr d h r f args hw hs ht ih => exact cons i l fr d h _ _ _ r (.dfr f args hw hs rfl rfl rfl) ih
  | call i l fr d h r f args c hw hs hc hk ht ih => exact cons i l fr d h _ _ _ r (.call f args hw hs hc hk rfl) ih
end Go.Kx
/- THE ENGINE, part 21: what makes memory may be run late. -/
namespace Go.Kx
open Go

def news (op : AOp) (fr : List AV) : Option ((Nat → AV) × List AV) := match op with
  | .new z => some (fun i => .ptr i 0 0, z)
  | .box n x => if (opd fr x).cells.length = n ∧ (opd fr x).cells.all AV.one then some (fun i => .ptr i 0 0, (opd fr x).cells) else none
  | .row n sz z ps => (lay (repl n z) fr ps).map fun l => (fun i => .slice i 0 0 n sz true, l)
  | _ => none

theorem step_news {op : AOp} {fr : List AV} {h h' : H} {x : AV} (hn : newB op = true) (hs : step op fr h = some (.val x h')) : ∃ X l, news op fr = some (X, l) ∧ x = X h.nx ∧ h' = h.new l := by
  cases op <;> simp only [newB] at hn <;> (try (cases hn; done)) <;> simp only [step] at hs
  case new z => cases hs; exact ⟨_, _, rfl, rfl, rfl⟩
  case box n y =>
    simp only [news]
    split at hs
    · rename_i hh; cases hs; exact ⟨_, _, if_pos hh, rfl, rfl⟩
    · cases hs
  case row n sz z ps =>
    obtain ⟨l, hl, e⟩ := map_some' hs
    cases e
    exact ⟨fun i => .slice i 0 0 n sz true, l, by simp only [news, hl, Option.map_some], rfl, rfl⟩

theorem news_congr {op : AOp} {fr fr' : List AV} (hh : ∀ t ∈ slots op, nth fr t = nth fr' t) : news op fr = news op fr' := by
  cases op <;> simp only [news] <;> simp only [slots] at hh
  case box n x => rw [opd_congr hh]
  case row n sz z ps => rw [lay_congr hh]

theorem again_news {it : Item} {fr : List AV} {h : H} {X : Nat → AV} {l : List AV} {i : Nat} {d : Nat} (hn : news it.op fr = some (X, l)) (hw : wanted fr it.guard = some true) (hd : it.dst = some d) (hx : nth fr d = X i)
    (ha : again h fr it = true) : h.get i = some ⟨0, 0, false, l⟩ := by
  unfold again at ha
  rw [hw] at ha
  simp only at ha
  have fin : ∀ (ob : Obj) (m : List AV), (ob.lo == 0 && ob.hi == 0 && !ob.ro && AV.beqs ob.l m) = true → ob = ⟨0, 0, false, m⟩ := by
    intro ob m hh
    simp only [Bool.and_eq_true, beq_iff_eq, Bool.not_eq_true'] at hh
    obtain ⟨⟨⟨a, b⟩, c⟩, d⟩ := hh
    have := AV.beqs_eq d
    cases ob; simp_all
  cases hop : it.op <;> rw [hop] at hn ha <;> simp only [news] at hn <;> (try (cases hn; done))
  case new z =>
    cases hn
    simp only [hd, hx] at ha
    split at ha
    · rename_i ob ho; rw [ho, fin _ _ ha]
    · cases ha
  case box n x =>
    split at hn
    · cases hn
      simp only [hd, hx] at ha
      split at ha
      · rename_i ob ho; rw [ho, fin _ _ ha]
      · cases ha
    · cases hn
  case row n sz z ps =>
    obtain ⟨m, hm, e⟩ := map_some' hn
    cases e
    simp only [hd, hx] at ha
    split at ha
    · rename_i ob m' ho hm'
      rw [hm] at hm'; cases hm'
      rw [ho, fin _ _ ha]
    · cases ha

section
variable {P : Program} {R : Rl} {h : H} {w : World} {o : Oper} {a : Act} {fr : List AV}
/- what it makes in the world -/
def NewOK (P : Program) (o : Oper) (a : Act) (R : Rl) (w : World) (X : Nat → AV) (l : List AV) : Prop :=
  ∃ (arr : Array Value) (T : TypeId) (fz : Nat × Nat) (v : Value), (execOp a.eval o).run P w = .ok (.value v) (World.mk1 w (.cells arr T fz)) ∧ (∀ j < arr.size, ¬ (fz.1 ≤ j ∧ j < fz.2)) ∧ l.length ≤ arr.size ∧ l.all AV.one = true ∧
    (∀ (j : Nat) (x : AV), l[j]? = some x → ∃ c, arr[j]? = some c ∧ VR R x c) ∧ ∀ (i : Nat) (R' : Rl), R'.c i 0 = some (w.heap.size, 0, arr.size, l.length) → VR R' (X i) v

theorem n_new {t : TypeId} {z : AV} (ho : o.op = .alloc t) (hz : zeroT P t = some z) (h1 : z.cells.all AV.one = true) :
    NewOK P o a R w (fun i => .ptr i 0 0) z.cells := by
  obtain ⟨v, hrun, hvr, hcs⟩ := zeroT_run (R := R) hz
  refine ⟨v.cells, t, (0, 0), .pointer (some ⟨w.heap.size, 0, none⟩), ?_, fun j _ => by simp, by rw [hcs.length]; simp, h1, fun j x hx => by simpa using hcs.get j x hx, ?_⟩
  · simp [execOp, ho, Instr.alloc, hrun, newVar, newRow, World.mk1]
  · intro i R' hR
    simpa using VR.ptr i 0 0 w.heap.size 0 _ _ hR
theorem n_box (hw : WR P.globals.size R h w) (hf : FRel R fr a) {t : TypeId} {x : Operand} {x' : Opd} (ho : o.op = .box t x) (hc : opdC P x = some x') (h1 : (opd fr x').cells.all AV.one = true) :
    NewOK P o a R w (fun i => .ptr i 0 0) (opd fr x').cells := by
  have hv := opd_sound hw hf hc
  have hcs := hv.cells (cells_ne h1)
  refine ⟨(a.eval x).cells, t, (0, 0), .pointer (some ⟨w.heap.size, 0, none⟩), ?_, fun j _ => by simp, by rw [hcs.length]; simp, h1, fun j y hx => by simpa using hcs.get j y hx, ?_⟩
  · simp [execOp, ho, Instr.box, newVar, newRow, World.mk1]
  · intro i R' hR
    simpa using VR.ptr i 0 0 w.heap.size 0 _ _ hR
theorem n_row (hw : WR P.globals.size R h w) (hf : FRel R fr a) {t e : TypeId} {n sz : Nat} {ps : Array (Nat × Operand)} {z : AV} {l : List AV} {qs : List (Nat × Nat × Opd)} (ho : o.op = .buildSlice t n ps)
    (hu : P.underlying t = some (.slice e)) (hs : szT P e = some sz) (hz : zeroT P e = some z) (hzl : z.cells.length = sz) (hone : z.cells.all AV.one = true) (hbig : n * sz ≤ 16777216) (h0 : 0 < sz)
    (hq : partsA P sz ps.toList = some qs) (hl : lay (repl n z.cells) fr qs = some l) : NewOK P o a R w (fun i => .slice i 0 0 n sz true) l := by
  obtain ⟨v, hrun, hvr, hcs⟩ := zeroT_run (R := R) hz
  obtain ⟨hlall, hll⟩ := lay_all qs _ _ hl (repl_all _ hone n)
  rw [repl_len, hzl] at hll
  have hvs : v.cells.size = sz := by have := hcs.length; rw [hzl] at this; simpa using this.symm
  have hbase : VRs R (repl n z.cells) ((Array.range (n * sz)).map ((if n * sz = 0 then #[] else v.cells)[· % (if n * sz = 0 then #[] else v.cells).size]!)).toList := by
    by_cases hn : n * sz = 0
    · have : n = 0 := by cases n with | zero => rfl | succ n => rw [Nat.succ_mul] at hn; omega
      subst this
      simp [repl]; exact .nil
    · rw [if_neg hn]
      have := repl_vr (R := R) (z := z.cells) (by omega) hcs n
      rw [hzl] at this
      exact this
  obtain ⟨out, hout, hvo⟩ := fill_sound (fun x y hc => opd_sound hw hf hc) _ ps.toList qs _ l _ (partsA_ok sz ps.toList qs hq) hl hbase
  have hol : out.size = n * sz := by have := hvo.length; rw [hll] at this; simpa using this.symm
  refine ⟨out, e, (0, 0), .slice (some ⟨w.heap.size, 0, none⟩) n n, ?_, fun j _ => by simp, by omega, hlall, fun j x hx => by simpa using hvo.get j x hx, ?_⟩
  · have hout' : Instr.fill (fun i => some (i * sz, sz)) ((Array.range (n * sz)).map ((if n * sz = 0 then #[] else v.cells)[· % (if n * sz = 0 then #[] else v.cells).size]!)) ((ps.map fun (i, x) => (i, a.eval x)).toList) = some out := by
      rw [Array.toList_map]; exact hout
    simp only [execOp, ho, Instr.buildSlice, Sem.run_bind, run_underlying hu, Result.andThen_ok, szT_run hs, Sem.run_ite]
    rw [if_neg (by omega)]
    by_cases hn : n * sz = 0
    · rw [if_pos hn] at hout'
      simp only [hn, if_true, Sem.run_pure, Result.andThen_ok]
      rw [hn] at hout'
      simp only [hout']
      simp [newRow, World.mk1]
    · rw [if_neg hn] at hout'
      simp only [hn, if_false, hrun, Sem.run_pure, Result.andThen_ok]
      simp only [hout']
      simp [newRow, World.mk1]
  · intro i R' hR
    have := VR.slice (R := R') i 0 0 n sz w.heap.size 0 out.size l.length n true hR (by omega) (Nat.le_refl _) (by omega) (fun _ => rfl) h0
    simpa using this

theorem news_ones {op : AOp} (hc : opC P o = some op) {X : Nat → AV} {l : List AV} (hn : news op fr = some (X, l)) : l.all AV.one = true := by
  cases op <;> simp only [news] at hn <;> (try (cases hn; done))
  case box n y =>
    split at hn
    · rename_i hh; cases hn; exact hh.2
    · cases hn
  case new z =>
    cases hn
    unfold opC at hc
    split at hc
    case h_4 t ho =>
      split at hc
      · split at hc
        · rename_i hh; cases hc; exact hh.2
        · cases hc
      · cases hc
    all_goals
      exfalso
      revert hc
      first
        | (simp; done)
        | ((repeat' split) <;> simp; done)
        | (unfold convC; (repeat' split) <;> simp; done)
        | (unfold buildC; (repeat' split) <;> simp; done)
        | (unfold rowC; (repeat' split) <;> simp; done)
        | (unfold makeC; (repeat' split) <;> simp; done)
        | (unfold sliceC; (repeat' split) <;> simp; done)
        | (unfold fieldC; (repeat' split) <;> simp; done)
        | (unfold faddrC; (repeat' split) <;> simp; done)
        | (unfold iaddrC; (repeat' split) <;> simp; done)
        | (unfold indexC; (repeat' split) <;> simp; done)
        | (unfold lookC; (repeat' split) <;> simp; done)
        | (unfold updC; (repeat' split) <;> simp; done)
        | (unfold deferC; (repeat' split) <;> simp; done)
        | (unfold callC builtinC appC copyC lenC minC maxC; (repeat' split) <;> simp; done)
  case row n sz z ps =>
    obtain ⟨m, hm, e⟩ := map_some' hn
    cases e
    unfold opC at hc
    split at hc
    case h_7 t n' ps' ho =>
      unfold rowC at hc
      split at hc
      · split at hc
        · split at hc
          · rename_i hh
            obtain ⟨qs, hq, e⟩ := map_some' hc
            cases e
            exact (lay_all _ _ _ hm (repl_all _ hh.2.1 _)).1
          · cases hc
        · cases hc
      · cases hc
    all_goals
      exfalso
      revert hc
      first
        | (simp; done)
        | ((repeat' split) <;> simp; done)
        | (unfold convC; (repeat' split) <;> simp; done)
        | (unfold buildC; (repeat' split) <;> simp; done)
        | (unfold makeC; (repeat' split) <;> simp; done)
        | (unfold sliceC; (repeat' split) <;> simp; done)
        | (unfold fieldC; (repeat' split) <;> simp; done)
        | (unfold faddrC; (repeat' split) <;> simp; done)
        | (unfold iaddrC; (repeat' split) <;> simp; done)
        | (unfold indexC; (repeat' split) <;> simp; done)
        | (unfold lookC; (repeat' split) <;> simp; done)
        | (unfold updC; (repeat' split) <;> simp; done)
        | (unfold deferC; (repeat' split) <;> simp; done)
        | (unfold callC builtinC appC copyC lenC minC maxC; (repeat' split) <;> simp; done)

theorem news_sound (hw : WR P.globals.size R h w) (hf : FRel R fr a) {op : AOp} (hc : opC P o = some op) {X : Nat → AV} {l : List AV} (hn : news op fr = some (X, l)) : NewOK P o a R w X l := by
  unfold opC at hc
  split at hc
  case h_4 t ho =>
    split at hc
    · rename_i z n hz hn'
      split at hc
      · rename_i hh
        cases hc
        simp only [news] at hn; cases hn
        exact n_new ho hz hh.2
      · cases hc
    · cases hc
  case h_5 t y ho =>
    split at hc
    · rename_i n y' hn' hy
      cases hc
      simp only [news] at hn
      split at hn
      · rename_i hh; cases hn; exact n_box hw hf ho hy hh.2
      · cases hn
    · cases hc
  case h_7 t n ps ho =>
    unfold rowC at hc
    split at hc
    · rename_i e hu
      split at hc
      · rename_i sz z hsz hz
        split at hc
        · rename_i hh
          obtain ⟨qs, hq, rfl⟩ := map_some' hc
          simp only [news] at hn
          obtain ⟨l', hl, e⟩ := map_some' hn
          cases e
          exact n_row hw hf ho hu hsz hz hh.1 hh.2.1 hh.2.2.1 hh.2.2.2 hq hl
        · cases hc
      · cases hc
    · cases hc
  all_goals
    exfalso
    revert hn
    have key : news op fr = none := by
      revert hc
      first
        | (intro hc; cases hc; done)
        | (intro hc; obtain ⟨_, _, e⟩ := map_some' hc; cases e; rfl)
        | ((repeat' split) <;> intro hc <;> first | (cases hc; done) | (cases hc; rfl))
        | (unfold convC; (repeat' split) <;> intro hc <;> first | (cases hc; done) | (cases hc; rfl) | (obtain ⟨_, _, e⟩ := map_some' hc; cases e; rfl))
        | (unfold buildC; (repeat' split) <;> intro hc <;> first | (cases hc; done) | (cases hc; rfl) | (obtain ⟨_, _, e⟩ := map_some' hc; cases e; rfl))
        | (unfold makeC; (repeat' split) <;> intro hc <;> first | (cases hc; done) | (cases hc; rfl) | (obtain ⟨_, _, e⟩ := map_some' hc; cases e; rfl))
        | (unfold sliceC; (repeat' split) <;> intro hc <;> first | (cases hc; done) | (cases hc; rfl) | (obtain ⟨_, _, e⟩ := map_some' hc; cases e; rfl))
        | (unfold fieldC; (repeat' split) <;> intro hc <;> first | (cases hc; done) | (cases hc; rfl) | (obtain ⟨_, _, e⟩ := map_some' hc; cases e; rfl))
        | (unfold faddrC; (repeat' split) <;> intro hc <;> first | (cases hc; done) | (cases hc; rfl) | (obtain ⟨_, _, e⟩ := map_some' hc; cases e; rfl))
        | (unfold iaddrC; (repeat' split) <;> intro hc <;> first | (cases hc; done) | (cases hc; rfl) | (obtain ⟨_, _, e⟩ := map_some' hc; cases e; rfl))
        | (unfold indexC; (repeat' split) <;> intro hc <;> first | (cases hc; done) | (cases hc; rfl) | (obtain ⟨_, _, e⟩ := map_some' hc; cases e; rfl))
        | (unfold lookC; (repeat' split) <;> intro hc <;> first | (cases hc; done) | (cases hc; rfl) | (obtain ⟨_, _, e⟩ := map_some' hc; cases e; rfl))
        | (unfold updC; (repeat' split) <;> intro hc <;> first | (cases hc; done) | (cases hc; rfl) | (obtain ⟨_, _, e⟩ := map_some' hc; cases e; rfl))
        | (unfold deferC; (repeat' split) <;> intro hc <;> first | (cases hc; done) | (cases hc; rfl) | (obtain ⟨_, _, e⟩ := map_some' hc; cases e; rfl))
        | (unfold callC builtinC appC copyC lenC minC maxC; (repeat' split) <;> intro hc <;> first | (cases hc; done) | (cases hc; rfl) | (obtain ⟨_, _, e⟩ := map_some' hc; cases e; rfl))
    rw [key]
    intro hh; cases hh
end

/- ONE ROW MORE IN THE WORLD FOR AN OBJECT THAT STOOD IN THE HEAP ALREADY -/
theorem new_late {G : Nat} {R0 R : Rl} {h0 h : H} {w0 w : World} (hg : Go2 G R0 h0 w0 R h w) {n : Nat} {l : List AV} (hn0 : h0.nx ≤ n) (hn : n < h.nx) (hnone : ∀ v, R.c n v = none) (ho : h.get n = some ⟨0, 0, false, l⟩)
    (arr : Array Value) (T : TypeId) (fz : Nat × Nat) (hfz : ∀ j < arr.size, ¬ (fz.1 ≤ j ∧ j < fz.2))
    (hlen : l.length ≤ arr.size) (hv : ∀ (j : Nat) (x : AV), l[j]? = some x → ∃ c, arr[j]? = some c ∧ VR R x c) :
    Go2 G R0 h0 w0 (R.add n 0 w.heap.size 0 arr.size l.length) h (World.mk1 w (.cells arr T fz)) := by
  have hw := hg.wr
  have ec : ∀ i v x, R.c i v = some x → (R.add n 0 w.heap.size 0 arr.size l.length).c i v = some x := by
    intro i v x hx
    have : i ≠ n := fun e => by rw [e, hnone] at hx; cases hx
    rw [add_c_ne (fun hh => this hh.1)]; exact hx
  have em : ∀ i b, R.m i = some b → (R.add n 0 w.heap.size 0 arr.size l.length).m i = some b := fun _ _ hh => hh
  have old : ∀ {i v x}, i ≠ n → (R.add n 0 w.heap.size 0 arr.size l.length).c i v = some x → R.c i v = some x := by
    intro i v x hi hx; rw [add_c_ne (fun hh => hi hh.1)] at hx; exact hx
  have new : ∀ {v x}, (R.add n 0 w.heap.size 0 arr.size l.length).c n v = some x → v = 0 ∧ x = (w.heap.size, 0, arr.size, l.length) := by
    intro v x hx
    by_cases hv0 : v = 0
    · subst hv0; rw [add_c_self] at hx; cases hx; exact ⟨rfl, rfl⟩
    · rw [add_c_ne (fun hh => hv0 hh.2), hnone] at hx; cases hx
  refine ⟨⟨fun i v x hx => ec _ _ _ (hg.ext.c _ _ _ hx), fun i b hh => hg.ext.m _ _ hh, ?_, fun i b hh => hg.ext.mn _ _ hh⟩, ?_, hg.nx, ?_, ?_, ?_, hg.os, hg.out, hg.tape⟩
  · intro i v x hx
    by_cases hi : i = n
    · exact .inr (by omega)
    · exact hg.ext.cn _ _ _ (old hi hx)
  · refine ⟨?_, ?_, ?_, ?_, hw.mone, ?_, hw.ltm, fun i b hh => by simp only [World.mk1, Array.size_push]; exact Nat.lt_succ_of_lt (hw.mlt i b hh), hw.lohi, hw.ones, ?_⟩
    · intro i v b sh ps L ob h1 h2 h3
      by_cases hi : i = n
      · subst hi
        rw [ho] at h2; cases h2
        obtain ⟨rfl, e⟩ := new h1
        cases e
        refine ⟨arr, T, fz, push_eq _ _, rfl, by omega, Nat.le_refl _, fun _ => rfl, fun _ => hfz, ?_⟩
        intro j x hj hx
        obtain ⟨c, hc, hr⟩ := hv j x hx
        exact ⟨c, by simpa using hc, hr.mono ec em⟩
      · have h1 := old hi h1
        exact (hw.cell _ _ _ _ _ _ _ h1 h2 h3).ext ec em (push_lt _ _ _ (hw.blk_lt h1 ⟨ob, h2, h3⟩))
    · intro i v x ob h1 h2
      by_cases hi : i = n
      · subst hi
        obtain ⟨rfl, e⟩ := new h1
        omega
      · exact hw.ver _ _ _ _ (old hi h1) h2
    · intro i v i' v' b sh sh' ps ps' L L' h1 h2 a1 a2
      by_cases hi : i = n <;> by_cases hi' : i' = n
      · subst hi; subst hi'
        obtain ⟨_, e1⟩ := new h1
        obtain ⟨_, e2⟩ := new h2
        cases e1; cases e2; exact ⟨rfl, rfl⟩
      · subst hi
        obtain ⟨_, e1⟩ := new h1
        cases e1
        exact absurd (hw.blk_lt (old hi' h2) a2) (Nat.lt_irrefl _)
      · subst hi'
        obtain ⟨_, e1⟩ := new h2
        cases e1
        exact absurd (hw.blk_lt (old hi h1) a1) (Nat.lt_irrefl _)
      · exact hw.sep _ _ _ _ _ _ _ _ _ _ _ (old hi h1) (old hi' h2) a1 a2
    · intro i b es h1 h2
      obtain ⟨mes, clk, g, hr⟩ := hw.map i b es h1 h2
      exact ⟨mes, clk, by rw [show (World.mk1 w (.cells arr T fz)).heap = w.heap.push _ from rfl, push_lt _ _ _ (hw.map_lt h1 h2)]; exact g, hr.mono ec em⟩
    · intro i v x h1
      by_cases hi : i = n
      · omega
      · exact hw.ltc _ _ _ (old hi h1)
    · intro g hg'
      obtain ⟨ps, L, hh⟩ := hw.glob g hg'
      exact ⟨ps, L, ec _ _ _ hh⟩
  · have := hg.size; simp [World.mk1]; omega
  · intro b hb hb2
    rw [show (World.mk1 w (.cells arr T fz)).heap = w.heap.push _ from rfl, push_lt _ _ _ (Nat.lt_of_lt_of_le hb hg.size)]
    exact hg.same b hb hb2
  · intro b hb hwr
    apply hg.wrt b hb
    rcases hwr with ⟨i, v, sh, ps, L, ob, h1, h2, h3, h4⟩ | ⟨i, es, h1, h2⟩
    · by_cases hi : i = n
      · subst hi
        obtain ⟨_, e⟩ := new h1
        cases e
        exact absurd (Nat.lt_of_lt_of_le hb hg.size) (Nat.lt_irrefl _)
      · exact .inl ⟨i, v, sh, ps, L, ob, old hi h1, h2, h3, h4⟩
    · exact .inr ⟨i, es, h1, h2⟩

/- AND A NEW OBJECT FOR WHICH NOTHING STANDS YET -/
theorem new_unmapped {G : Nat} {R0 R : Rl} {h0 h : H} {w0 w : World} (hg : Go2 G R0 h0 w0 R h w) {l : List AV} (h1 : l.all AV.one = true) : Go2 G R0 h0 w0 R (h.new l) w := by
  have hw := hg.wr
  have hn := hw.none_nx
  have ne : ∀ {i v x}, R.c i v = some x → i ≠ h.nx := fun hx e => by rw [e, hn] at hx; cases hx
  have al : ∀ {i v x}, R.c i v = some x → aliveC (h.new l) i v → aliveC h i v := by
    intro i v x hx ha
    unfold aliveC at *
    rw [H.get_new_ne _ _ _ (ne hx)] at ha; exact ha
  refine ⟨hg.ext, ?_, by have := hg.nx; rw [H.nx_new]; omega, hg.size, hg.same, ?_, hg.os, hg.out, hg.tape⟩
  · refine ⟨?_, ?_, ?_, ?_, hw.mone, ?_, ?_, hw.mlt, ?_, ?_, hw.glob⟩
    · intro i v b sh ps L ob a1 a2 a3
      rw [H.get_new_ne _ _ _ (ne a1)] at a2
      exact hw.cell _ _ _ _ _ _ _ a1 a2 a3
    · intro i v x ob a1 a2
      rw [H.get_new_ne _ _ _ (ne a1)] at a2
      exact hw.ver _ _ _ _ a1 a2
    · intro i v i' v' b sh sh' ps ps' L L' a1 a2 b1 b2
      exact hw.sep _ _ _ _ _ _ _ _ _ _ _ a1 a2 (al a1 b1) (al a2 b2)
    · intro i b es a1 a2
      exact hw.map i b es a1 a2
    · intro i v x a1
      have := hw.ltc _ _ _ a1; rw [H.nx_new]; omega
    · intro i b a1
      have := hw.ltm _ _ a1; rw [H.nx_new]; omega
    · intro i ob a1
      by_cases hi : i = h.nx
      · subst hi; rw [H.get_new_self] at a1; cases a1; exact Nat.le_refl _
      · rw [H.get_new_ne _ _ _ hi] at a1; exact hw.lohi _ _ a1
    · intro i ob a1
      by_cases hi : i = h.nx
      · subst hi; rw [H.get_new_self] at a1; cases a1; exact h1
      · rw [H.get_new_ne _ _ _ hi] at a1; exact hw.ones _ _ a1
  · intro b hb hwr
    apply hg.wrt b hb
    rcases hwr with ⟨i, v, sh, ps, L, ob, a1, a2, a3, a4⟩ | ⟨i, es, a1, a2⟩
    · rw [H.get_new_ne _ _ _ (ne a1)] at a2
      exact .inl ⟨i, v, sh, ps, L, ob, a1, a2, a3, a4⟩
    · exact .inr ⟨i, es, a1, a2⟩
end Go.Kx
/- THE ENGINE, part 22: a drawn region: whichever order is drawn, it comes to what the canonical order comes to. -/
namespace Go.Kx
open Go

/- frames -/
theorem nth_putD (fr : List AV) (d : Option Nat) (x : AV) (t : Nat) : nth (putD fr d x) t = if d = some t ∧ t < fr.length then x else nth fr t := by
  cases d with
  | none => simp [putD]
  | some u => simp only [putD, nth_setN]; by_cases h : u = t <;> simp [h]
theorem putD_len (fr : List AV) (d : Option Nat) (x : AV) : (putD fr d x).length = fr.length := by
  cases d <;> simp [putD, setN_len]
theorem nth_ge : ∀ (l : List AV) (t : Nat), l.length ≤ t → nth l t = .undef
  | [], _, _ => rfl
  | _ :: l, 0, h => by simp at h
  | _ :: l, t + 1, h => by simp only [nth]; exact nth_ge l t (by simpa using h)

def FSx (dst : Nat → Option Nat) (X : Nat → AV) (f0 : List AV) (e : Nat → Bool) : Nat → List AV
  | 0 => f0
  | k + 1 => if e k then putD (FSx dst X f0 e k) (dst k) (X k) else FSx dst X f0 e k

section
variable {dst : Nat → Option Nat} {X : Nat → AV} {f0 : List AV}
theorem FSx_len (e : Nat → Bool) : ∀ k, (FSx dst X f0 e k).length = f0.length
  | 0 => rfl
  | k + 1 => by
    simp only [FSx]
    split
    · rw [putD_len, FSx_len e k]
    · exact FSx_len e k
theorem FSx_same {e e' : Nat → Bool} {t : Nat} : ∀ k, (∀ p, p < k → dst p = some t → e p = e' p) → nth (FSx dst X f0 e k) t = nth (FSx dst X f0 e' k) t
  | 0, _ => rfl
  | k + 1, h => by
    have ih := FSx_same (e := e) (e' := e') (t := t) k fun p hp => h p (by omega)
    simp only [FSx]
    by_cases hd : dst k = some t
    · rw [← h k (by omega) hd]
      split
      · simp only [nth_putD, FSx_len, ih]
      · exact ih
    · have a : ∀ e'' : Nat → Bool, nth (if e'' k = true then putD (FSx dst X f0 e'' k) (dst k) (X k) else FSx dst X f0 e'' k) t = nth (FSx dst X f0 e'' k) t := by
        intro e''
        split
        · rw [nth_putD, if_neg (fun hh => hd hh.1)]
        · rfl
      rw [a, a, ih]
theorem FSx_upto {e : Nat → Bool} {t q : Nat} : ∀ k, q ≤ k → (∀ p, p < k → q ≤ p → dst p = some t → e p = false) → nth (FSx dst X f0 e k) t = nth (FSx dst X f0 e q) t
  | 0, h, _ => by cases Nat.le_zero.1 h; rfl
  | k + 1, h, hh => by
    by_cases hq : q = k + 1
    · subst hq; rfl
    · have ih := FSx_upto (e := e) (t := t) (q := q) k (by omega) fun p hp => hh p (by omega)
      simp only [FSx]
      split
      · rename_i he
        rw [nth_putD, if_neg, ih]
        rintro ⟨hd, _⟩
        rw [hh k (by omega) (by omega) hd] at he; cases he
      · exact ih
theorem FSx_put {e e' : Nat → Bool} {q t : Nat} (h0 : e q = false) (h1 : e' q = true) (ho : ∀ p, p ≠ q → e' p = e p) : ∀ k, q < k → (∀ p, p < k → q < p → e p = true → ∀ d, dst p = some d → dst q ≠ some d) →
    nth (FSx dst X f0 e' k) t = nth (putD (FSx dst X f0 e k) (dst q) (X q)) t
  | 0, h, _ => by omega
  | k + 1, h, hh => by
    by_cases hq : q = k
    · subst hq
      simp only [FSx, h1, h0, if_true, Bool.false_eq_true, if_false]
      have e1 : ∀ t, nth (FSx dst X f0 e' q) t = nth (FSx dst X f0 e q) t := fun t => FSx_same q fun p hp _ => ho p (by omega)
      simp only [nth_putD, FSx_len, e1]
    · have ih := FSx_put (e := e) (e' := e') (q := q) (t := t) h0 h1 ho k (by omega) fun p hp => hh p (by omega)
      simp only [FSx, ho k (Ne.symm hq)]
      split
      · rename_i he
        have := hh k (by omega) (by omega) he
        simp only [nth_putD, FSx_len, putD_len] at ih ⊢
        by_cases hd : dst k = some t
        · rw [if_neg (c := dst q = some t ∧ t < f0.length) (fun hc => this t hd hc.1)]
          by_cases ht : t < f0.length
          · rw [if_pos ⟨hd, ht⟩, if_pos ⟨hd, ht⟩]
          · rw [if_neg (fun hc => ht hc.2), if_neg (fun hc => ht hc.2), ih, if_neg (fun hc => ht hc.2)]
        · rw [if_neg (fun hc => hd hc.1), if_neg (c := dst k = some t ∧ t < f0.length) (fun hc => hd hc.1), ih]
      · exact ih
end

theorem FRel.congr {R : Rl} {fr fr' : List AV} {a : Act} (h : FRel R fr a) (hl : fr'.length = fr.length) (hn : ∀ t, nth fr' t = nth fr t) : FRel R fr' a := ⟨by rw [hl]; exact h.len, fun t => by rw [hn]; exact h.get t⟩

/- counting what isn't listed yet -/
theorem filter_lt {α : Type} {f g : α → Bool} {i : α} (hi : f i = true) (hg : g i = false) (hle : ∀ x, g x = true → f x = true) : ∀ l : List α, i ∈ l → (l.filter g).length < (l.filter f).length := by
  have le : ∀ l : List α, (l.filter g).length ≤ (l.filter f).length := by
    intro l
    induction l with
    | nil => simp
    | cons x l ih =>
      simp only [List.filter_cons]
      by_cases hx : g x = true
      · rw [if_pos hx, if_pos (hle x hx)]; simpa using ih
      · rw [if_neg hx]; split <;> (try simp only [List.length_cons]) <;> omega
  intro l
  induction l with
  | nil => intro h; cases h
  | cons x l ih =>
    intro h
    simp only [List.filter_cons]
    rcases List.mem_cons.1 h with rfl | h
    · rw [if_pos hi, hg]
      have := le l
      simp; omega
    · have := ih h
      by_cases hx : g x = true
      · rw [if_pos hx, if_pos (hle x hx)]; simpa using this
      · rw [if_neg hx]; split <;> (try simp only [List.length_cons]) <;> omega

def cntU (n : Nat) (listed : Array Bool) : Nat := ((List.range n).filter fun i => !listed.getD i true).length

/- the items of a region -/
theorem itemsC_get {P : Program} {ops : Array Oper} : ∀ {l : List Oper} {its : List Item}, itemsC P ops l = some its → its.length = l.length ∧ ∀ (i : Nat) (it : Item), its[i]? = some it → ∃ o : Oper, l[i]? = some o ∧ itemC P ops o = some it
  | [], its, h => by simp only [itemsC] at h; cases h; exact ⟨rfl, fun i it hi => by simp at hi⟩
  | o :: l, its, h => by
    simp only [itemsC] at h
    split at h
    · rename_i x r h1 h2
      cases h
      obtain ⟨g1, g2⟩ := itemsC_get h2
      refine ⟨by simp [g1], ?_⟩
      intro i it hi
      cases i with
      | zero => simp at hi; subst hi; exact ⟨o, rfl, h1⟩
      | succ i => simp at hi; obtain ⟨o', a, b⟩ := g2 i it hi; exact ⟨o', by simpa using a, b⟩
    · cases h
theorem places_get {its : Array Item} {bf : Array Nat} : ∀ {l : List Nat} {ps : List Pl}, places its bf l = some ps → ∀ (p : Nat) (pl : Pl), ps[p]? = some pl → its[pl.ix]? = some pl.it ∧ pl.bf = bf.getD pl.ix 0
  | [], ps, h, p, pl, hp => by simp only [places] at h; cases h; simp at hp
  | i :: l, ps, h, p, pl, hp => by
    simp only [places] at h
    split at h
    · rename_i it r h1 h2
      cases h
      cases p with
      | zero => simp only [List.getElem?_cons_zero, Option.some.injEq] at hp; subst hp; exact ⟨h1, rfl⟩
      | succ p => simp at hp; exact places_get h2 p pl hp
    · cases h

structure Dr (P : Program) (ops : Array Oper) (ps : List Pl) (L : List ItemC) (Pd : Nat → List Pl) : Prop where
  llen : L.length = ps.length
  at_ : ∀ (p : Nat) (pl : Pl), ps[p]? = some pl → ∃ o : Oper, ops[pl.ix]? = some o ∧ itemC P ops o = some pl.it ∧ pl.bf = (Region.before ops).getD pl.ix 0
  cov : ∀ i, i < ops.size → ∃ (p : Nat) (pl : Pl), ps[p]? = some pl ∧ pl.ix = i
  chk : ∀ (p : Nat) (pl : Pl), ps[p]? = some pl → ∃ ic : ItemC, L[p]? = some ic ∧ ChkAt ops.size (ps.take p) (Pd p) pl (p + 1 < ps.length) ic (Pd (p + 1))

theorem drawC_spec {P : Program} {ops : Array Oper} {L : List ItemC} (h : drawC P ops = some L) : ∃ ps Pd, Dr P ops ps L Pd := by
  unfold drawC at h
  split at h
  · cases h
  · rename_i l hl
    simp only at h
    split at h
    · rename_i ps hps
      obtain ⟨hall, h⟩ := ite_some h
      obtain ⟨hlen, Pd, hPd, hc⟩ := chkI_spec _ _ _ _ _ h
      obtain ⟨gl, gi⟩ := itemsC_get hl
      have hsz : l.toArray.size = ops.size := by simp [gl]
      refine ⟨ps, Pd, hlen, ?_, ?_, ?_⟩
      · intro p pl hp
        obtain ⟨a, b⟩ := places_get hps p pl hp
        obtain ⟨o, ho, hi⟩ := gi pl.ix pl.it (by simpa using a)
        exact ⟨o, by simpa using ho, hi, b⟩
      · intro i hi
        rw [List.all_eq_true] at hall
        have := hall i (by rw [List.mem_range, hsz]; exact hi)
        rw [List.any_eq_true] at this
        obtain ⟨pl, hm, he⟩ := this
        obtain ⟨p, hp⟩ := List.getElem?_of_mem hm
        exact ⟨p, pl, hp, by simpa using he⟩
      · intro p pl hp
        obtain ⟨ic, h1, h2⟩ := hc p pl hp
        rw [hsz] at h2
        exact ⟨ic, h1, by simpa using h2⟩
    · cases h

theorem call_eff {op : AOp} {fr : List AV} {h : H} {f : FuncId} {args : List AV} (hs : step op fr h = some (.call f args)) : effB op = true := by
  cases op <;> simp only [step] at hs <;> first
    | rfl
    | (exfalso; revert hs; (repeat' split) <;> simp [Option.map_eq_some_iff]; done)
    | (exfalso; obtain ⟨_, _, e⟩ := map_some' hs; cases e; done)
    | (cases hs; done)
theorem dfr_eff {op : AOp} {fr : List AV} {h : H} {f : FuncId} {args : List AV} (hs : step op fr h = some (.dfr f args)) : effB op = true := by
  cases op <;> simp only [step] at hs <;> first
    | rfl
    | (exfalso; revert hs; (repeat' split) <;> simp [Option.map_eq_some_iff]; done)
    | (exfalso; obtain ⟨_, _, e⟩ := map_some' hs; cases e; done)
    | (cases hs; done)
theorem read_new {op : AOp} (hr : readB op = true) : newB op = false := by cases op <;> simp [readB, newB] at hr ⊢
theorem beq_undef {x : AV} (h : AV.beq x .undef = true) : False := by cases x <;> simp [AV.beq] at h
theorem again_read {it : Item} {fr : List AV} {h : H} (hr : readB it.op = true) (hw : wanted fr it.guard = some true) (ha : again h fr it = true) : ∃ d x h2, it.dst = some d ∧ step it.op fr h = some (.val x h2) ∧ x = nth fr d ∧ nth fr d ≠ .undef := by
  unfold again at ha
  rw [hw] at ha
  simp only at ha
  have fin : (match step it.op fr h with | some (.val x _) => (match it.dst with | some t => AV.beq x (nth fr t) | none => false) | _ => false) = true → ∃ d x h2, it.dst = some d ∧ step it.op fr h = some (.val x h2) ∧ x = nth fr d ∧ nth fr d ≠ .undef := by
    intro ha
    split at ha
    · rename_i x h2 hs
      split at ha
      · rename_i t ht
        exact ⟨t, x, h2, ht, hs, AV.beq_eq ha, fun hu => by rw [hu] at ha; exact beq_undef ha⟩
      · cases ha
    · cases ha
  cases hop : it.op <;> rw [hop] at hr <;> simp only [readB] at hr <;> (try (cases hr; done)) <;> (rw [hop] at ha fin; exact fin ha)
theorem again_news' {it : Item} {fr : List AV} {h : H} {X : Nat → AV} {l : List AV} {i : Nat} (hn : news it.op fr = some (X, l)) (hw : wanted fr it.guard = some true) (hx : ∀ d, it.dst = some d → nth fr d = X i ∨ nth fr d = .undef)
    (ha : again h fr it = true) : h.get i = some ⟨0, 0, false, l⟩ := by
  cases hd : it.dst with
  | none =>
    exfalso
    unfold again at ha
    rw [hw] at ha
    simp only [hd] at ha
    cases hop : it.op <;> rw [hop] at hn ha <;> simp only [news] at hn <;> (try (cases hn; done)) <;> cases ha
  | some d =>
    rcases hx d hd with hx | hx
    · exact again_news hn hw hd hx ha
    · exfalso
      unfold again at ha
      rw [hw] at ha
      simp only [hd, hx] at ha
      cases hop : it.op <;> rw [hop] at hn ha <;> simp only [news] at hn <;> (try (cases hn; done)) <;> cases ha
end Go.Kx
/- THE ENGINE, part 23: the drawn region's law. -/
namespace Go.Kx
open Go

def eAt (ps : List Pl) (listed : Array Bool) (p : Nat) : Bool := match ps[p]? with
  | some pl => listed.getD pl.ix false
  | none => false
def dstAt (ps : List Pl) (p : Nat) : Option Nat := match ps[p]? with
  | some pl => pl.it.dst
  | none => none

theorem eAt_eq {ps : List Pl} {p : Nat} {pl : Pl} (h : ps[p]? = some pl) (listed : Array Bool) : eAt ps listed p = listed.getD pl.ix false := by simp only [eAt, h]
theorem dstAt_eq {ps : List Pl} {p : Nat} {pl : Pl} (h : ps[p]? = some pl) : dstAt ps p = pl.it.dst := by simp only [dstAt, h]

def Down (ops : Array Oper) (listed : Array Bool) : Prop := ∀ (i : Nat) (o : Oper), ops[i]? = some o → listed.getD i false = true → ∀ e ∈ o.after, Region.binds .any e = true → listed.getD e.on false = true

theorem down_bits {ops : Array Oper} {listed : Array Bool} (hd : Down ops listed) (hs : listed.size = ops.size) : ∀ (i : Nat), listed.getD i false = true → ∀ j, ((Region.before ops).getD i 0).testBit j = true → listed.getD j false = true := by
  intro i
  induction i using Nat.strongRecOn with
  | _ i ih =>
    intro hi j hj
    have hlt : i < ops.size := by
      rw [← hs]
      rcases Nat.lt_or_ge i listed.size with h | h
      · exact h
      · rw [Array.getD_eq_getD_getElem?, Array.getElem?_eq_none h] at hi; cases hi
    have ho : ops[i]? = some ops[i] := Array.getElem?_eq_getElem hlt
    obtain ⟨e, he, hb, h | ⟨h1, h2⟩⟩ := (before_spec ops i _ ho j).1 hj
    · rw [← h]; exact hd i _ ho hi e he hb
    · exact ih e.on h1 (hd i _ ho hi e he hb) j h2

theorem ready_bits {ops : Array Oper} {listed : Array Bool} (hd : Down ops listed) (hs : listed.size = ops.size) {i : Nat} (hr : i ∈ Region.ready .any ops listed) : ∀ j, ((Region.before ops).getD i 0).testBit j = true → listed.getD j false = true := by
  intro j hj
  obtain ⟨_, o, ho, hall⟩ := mem_ready.1 hr
  obtain ⟨e, he, hb, h | ⟨h1, h2⟩⟩ := (before_spec ops i _ ho j).1 hj
  · rw [← h]; exact hall e he hb
  · exact down_bits hd hs e.on (hall e he hb) j h2

structure PInv (P : Program) (ops : Array Oper) (ps : List Pl) (F : Nat → List AV) (D : Nat → List Df) (Hh : Nat → H) (X : Nat → AV) (R0 : Rl) (w0 : World) (listed : Array Bool) (a : Act) (w : World) (R : Rl) (c : Nat) : Prop where
  size : listed.size = ops.size
  cN : c ≤ ps.length
  down : Down ops listed
  lt : ∀ (p : Nat) (pl : Pl), ps[p]? = some pl → listed.getD pl.ix false = true → p < c
  eff : ∀ (p : Nat) (pl : Pl), ps[p]? = some pl → p < c → effB pl.it.op = true → listed.getD pl.ix false = true
  go : Go2 P.globals.size R0 (Hh 0) w0 R (Hh c) w
  mono : ∀ p q, p ≤ q → q ≤ c → (Hh p).nx ≤ (Hh q).nx
  un : ∀ (p : Nat) (pl : Pl), ps[p]? = some pl → p < c → listed.getD pl.ix false = false → newB pl.it.op = true → wanted (F p) pl.it.guard = some true → ∀ v, R.c (Hh p).nx v = none
  fr : FRel R (FSx (dstAt ps) X (F 0) (eAt ps listed) ps.length) a
  df : DR R (D c) a.defers

section
variable {P : Program} {ops : Array Oper} {ps : List Pl} {L : List ItemC} {Pd : Nat → List Pl} {F : Nat → List AV} {D : Nat → List Df} {Hh : Nat → H} {X : Nat → AV} {R0 R : Rl} {w0 w : World} {listed : Array Bool} {a : Act} {c : Nat}

theorem Dr.run (dr : Dr P ops ps L Pd) (hr : Run P L F D Hh X) {p : Nat} {pl : Pl} (hp : ps[p]? = some pl) : ∃ i : ItemC, i.it = pl.it ∧ ChkAt ops.size (ps.take p) (Pd p) pl (p + 1 < ps.length) i (Pd (p + 1)) ∧ StepAt P i (F p) (D p) (Hh p) (X p) (D (p + 1)) (Hh (p + 1)) ∧ F (p + 1) = putD (F p) pl.it.dst (X p) := by
  obtain ⟨ic, h1, h2⟩ := dr.chk p pl hp
  refine ⟨ic, h2.it, h2, hr.st p ic h1, ?_⟩
  rw [hr.fr p ic h1, h2.it]

theorem Dr.canon (dr : Dr P ops ps L Pd) (hr : Run P L F D Hh X) (e : Nat → Bool) (t : Nat) : ∀ k, k ≤ ps.length → (∀ p, p < k → dstAt ps p = some t → e p = true) → nth (FSx (dstAt ps) X (F 0) e k) t = nth (F k) t
  | 0, _, _ => rfl
  | k + 1, hk, h => by
    have ih := dr.canon hr e t k (by omega) fun p hp => h p (by omega)
    have hp : ps[k]? = some ps[k] := List.getElem?_eq_getElem (by omega)
    obtain ⟨i, _, _, _, hF⟩ := dr.run hr hp
    have hlen : ∀ k, k ≤ ps.length → (F k).length = (F 0).length := by
      intro k
      induction k with
      | zero => intro _; rfl
      | succ k ihk =>
        intro hk
        obtain ⟨i, _, _, _, hF⟩ := dr.run hr (List.getElem?_eq_getElem (show k < ps.length by omega))
        rw [hF, putD_len, ihk (by omega)]
    have hd := dstAt_eq hp
    rw [hF, nth_putD, ← hd]
    simp only [FSx]
    by_cases hdt : dstAt ps k = some t
    · rw [h k (by omega) hdt, if_pos rfl, nth_putD, FSx_len, hlen k (by omega), ih]
    · rw [if_neg (c := dstAt ps k = some t ∧ t < (F k).length) (fun hh => hdt hh.1)]
      split
      · rw [nth_putD, if_neg (fun hh => hdt hh.1), ih]
      · exact ih

theorem take_mem {p q : Nat} {pl : Pl} (hp : ps[p]? = some pl) (hq : p < q) : pl ∈ ps.take q := by
  have : (ps.take q)[p]? = some pl := by rw [List.getElem?_take, if_pos hq]; exact hp
  exact List.mem_of_getElem? this
theorem mem_take' {q : Nat} {pl : Pl} (h : pl ∈ ps.take q) : ∃ p, p < q ∧ ps[p]? = some pl := by
  obtain ⟨p, hp⟩ := List.getElem?_of_mem h
  rw [List.getElem?_take] at hp
  split at hp
  · exact ⟨p, by assumption, hp⟩
  · cases hp

theorem Dr.inj (dr : Dr P ops ps L Pd) {p q : Nat} {pl ql : Pl} (hp : ps[p]? = some pl) (hq : ps[q]? = some ql) (he : pl.ix = ql.ix) : p = q := by
  rcases Nat.lt_trichotomy p q with h | h | h
  · obtain ⟨ic, _, hc⟩ := dr.chk q ql hq
    exact absurd he (hc.nd pl (take_mem hp h))
  · exact h
  · obtain ⟨ic, _, hc⟩ := dr.chk p pl hp
    exact absurd he.symm (hc.nd ql (take_mem hq h))

/- a place that is ready -/
structure Rd (ps : List Pl) (listed : Array Bool) (q : Nat) (ql : Pl) : Prop where
  hq : ps[q]? = some ql
  no : listed.getD ql.ix false = false
  bits : ∀ j, ql.bf.testBit j = true → listed.getD j false = true

theorem Dr.before (dr : Dr P ops ps L Pd) (hv : PInv P ops ps F D Hh X R0 w0 listed a w R c) {q : Nat} {ql : Pl} (hr : Rd ps listed q ql) {p : Nat} {pl : Pl} (hp : ps[p]? = some pl) (hlt : p < q) (hc : clash pl.it ql.it = true) : listed.getD pl.ix false = true := by
  obtain ⟨ic, _, hk⟩ := dr.chk q ql hr.hq
  exact hr.bits _ (hk.cl pl (take_mem hp hlt) hc)
theorem Dr.bits (dr : Dr P ops ps L Pd) (hv : PInv P ops ps F D Hh X R0 w0 listed a w R c) {p : Nat} {pl : Pl} (hp : ps[p]? = some pl) (hl : listed.getD pl.ix false = true) {j : Nat} (hb : pl.bf.testBit j = true) : listed.getD j false = true := by
  obtain ⟨o, _, _, hbf⟩ := dr.at_ p pl hp
  rw [hbf] at hb
  exact down_bits hv.down hv.size _ hl j hb
theorem Dr.behind (dr : Dr P ops ps L Pd) (hv : PInv P ops ps F D Hh X R0 w0 listed a w R c) {q : Nat} {ql : Pl} (hr : Rd ps listed q ql) {p : Nat} {pl : Pl} (hp : ps[p]? = some pl) (hlt : q < p) (hc : clash ql.it pl.it = true) : listed.getD pl.ix false = false := by
  cases hl : listed.getD pl.ix false
  · rfl
  · exfalso
    obtain ⟨ic, _, hk⟩ := dr.chk p pl hp
    have := dr.bits hv hp hl (hk.cl ql (take_mem hr.hq hlt) hc)
    rw [hr.no] at this; cases this
theorem writes_dst {it : Item} {t : Nat} (h : it.dst = some t) : writesI it t = true := by simp [writesI, h]
theorem clash_w {x y : Item} {t : Nat} (hx : x.dst = some t) (hy : t ∈ namesI y) : clash x y = true := by
  unfold clash
  have : (namesI y).any (writesI x) = true := List.any_eq_true.2 ⟨t, hy, writes_dst hx⟩
  simp [this]
theorem clash_r {x y : Item} {t : Nat} (hx : t ∈ namesI x) (hy : y.dst = some t) : clash x y = true := by
  unfold clash
  have : (namesI x).any (writesI y) = true := List.any_eq_true.2 ⟨t, hx, writes_dst hy⟩
  simp [this]
theorem clash_d {x y : Item} {t : Nat} (hx : x.dst = some t) (hy : y.dst = some t) : clash x y = true := by
  unfold clash; simp [hx, hy]

theorem Dr.leC (dr : Dr P ops ps L Pd) (hv : PInv P ops ps F D Hh X R0 w0 listed a w R c) (hat : ∀ pl : Pl, ps[c]? = some pl → effB pl.it.op = true) {q : Nat} {ql : Pl} (hr : Rd ps listed q ql) : q ≤ c := by
  apply Nat.le_of_not_lt
  intro hlt
  have hlen : q < ps.length := (List.getElem?_eq_some_iff.1 hr.hq).1
  have hp : ps[c]? = some ps[c] := List.getElem?_eq_getElem (by omega)
  obtain ⟨ic, _, hk⟩ := dr.chk q ql hr.hq
  have := hr.bits _ (hk.ef _ (take_mem hp hlt) (hat _ hp))
  have := hv.lt _ _ hp this
  omega

/- the slots of what is ready -/
theorem Dr.slots (dr : Dr P ops ps L Pd) (hrun : Run P L F D Hh X) (hv : PInv P ops ps F D Hh X R0 w0 listed a w R c) {q : Nat} {ql : Pl} (hr : Rd ps listed q ql) :
    ∀ t ∈ namesI ql.it, nth (FSx (dstAt ps) X (F 0) (eAt ps listed) ps.length) t = nth (F q) t := by
  intro t ht
  have hlen : q < ps.length := (List.getElem?_eq_some_iff.1 hr.hq).1
  rw [FSx_upto (q := q) ps.length (by omega)]
  · apply dr.canon hrun _ _ _ (by omega)
    intro p hp hd
    have hpp : ps[p]? = some ps[p] := List.getElem?_eq_getElem (by omega)
    rw [dstAt_eq hpp] at hd
    rw [eAt_eq hpp]
    exact dr.before hv hr hpp hp (clash_w hd ht)
  · intro p hp hqp hd
    have hpp : ps[p]? = some ps[p] := List.getElem?_eq_getElem (by omega)
    rw [dstAt_eq hpp] at hd
    rw [eAt_eq hpp]
    by_cases hpq : p = q
    · subst hpq
      have : ps[p] = ql := by have := hr.hq; rw [hpp] at this; cases this; rfl
      rw [this]; exact hr.no
    · exact dr.behind hv hr hpp (by omega) (clash_r ht hd)

/- marking it -/
theorem Dr.frame (dr : Dr P ops ps L Pd) (hv : PInv P ops ps F D Hh X R0 w0 listed a w R c) {q : Nat} {ql : Pl} (hr : Rd ps listed q ql) {R' : Rl} {a' : Act}
    (hf : FRel R' (putD (FSx (dstAt ps) X (F 0) (eAt ps listed) ps.length) ql.it.dst (X q)) a') : FRel R' (FSx (dstAt ps) X (F 0) (eAt ps (listed.setIfInBounds ql.ix true)) ps.length) a' := by
  have hlen : q < ps.length := (List.getElem?_eq_some_iff.1 hr.hq).1
  obtain ⟨o, ho, _, _⟩ := dr.at_ q ql hr.hq
  have hix : ql.ix < listed.size := by rw [hv.size]; exact (Array.getElem?_eq_some_iff.1 ho).1
  refine hf.congr (by rw [FSx_len, putD_len, FSx_len]) ?_
  intro t
  rw [← dstAt_eq hr.hq]
  refine FSx_put (e := eAt ps listed) (q := q) ?_ ?_ ?_ _ hlen ?_
  · rw [eAt_eq hr.hq]; exact hr.no
  · rw [eAt_eq hr.hq]; simp [Array.getD_eq_getD_getElem?, hix]
  · intro p hp
    unfold eAt
    cases hpp : ps[p]? with
    | none => rfl
    | some pl =>
      simp only
      exact getD_set_ne false fun he => hp (dr.inj hpp hr.hq he.symm)
  · intro p hp hqp he d hd hd2
    have hpp : ps[p]? = some ps[p] := List.getElem?_eq_getElem (by omega)
    rw [dstAt_eq hpp] at hd
    rw [dstAt_eq hr.hq] at hd2
    rw [eAt_eq hpp, dr.behind hv hr hpp hqp (clash_d hd2 hd)] at he
    cases he

theorem Dr.mark (dr : Dr P ops ps L Pd) (hv : PInv P ops ps F D Hh X R0 w0 listed a w R c) {q : Nat} {ql : Pl} (hr : Rd ps listed q ql) (hrd : ql.ix ∈ Region.ready .any ops listed) {R' : Rl} {a' : Act} {w' : World} {c' : Nat}
    (hc : (q < c ∧ c' = c) ∨ (q = c ∧ c' = c + 1)) (hgo : Go2 P.globals.size R0 (Hh 0) w0 R' (Hh c') w') (hm : (Hh c).nx ≤ (Hh c').nx)
    (hun : ∀ (p : Nat) (pl : Pl), ps[p]? = some pl → p < c → p ≠ q → listed.getD pl.ix false = false → newB pl.it.op = true → wanted (F p) pl.it.guard = some true → ∀ v, R'.c (Hh p).nx v = none)
    (hf : FRel R' (putD (FSx (dstAt ps) X (F 0) (eAt ps listed) ps.length) ql.it.dst (X q)) a') (hd : DR R' (D c') a'.defers) :
    PInv P ops ps F D Hh X R0 w0 (listed.setIfInBounds ql.ix true) a' w' R' c' := by
  have hlen : q < ps.length := (List.getElem?_eq_some_iff.1 hr.hq).1
  have hix : ql.ix < listed.size := by
    rw [hv.size]
    obtain ⟨o, ho, _, _⟩ := dr.at_ q ql hr.hq
    exact (Array.getElem?_eq_some_iff.1 ho).1
  have other : ∀ {p : Nat} {pl : Pl}, ps[p]? = some pl → p ≠ q → (listed.setIfInBounds ql.ix true).getD pl.ix false = listed.getD pl.ix false := by
    intro p pl hp hne
    exact getD_set_ne false fun he => hne (dr.inj hp hr.hq he.symm)
  have self : (listed.setIfInBounds ql.ix true).getD ql.ix false = true := by simp [Array.getD_eq_getD_getElem?, hix]
  refine ⟨by simp [hv.size], ?_, ?_, ?_, ?_, hgo, ?_, ?_, dr.frame hv hr hf, hd⟩
  · rcases hc with ⟨h1, h2⟩ | ⟨h1, h2⟩
    · rw [h2]; exact hv.cN
    · omega
  · intro i o ho hi e he hb
    by_cases hiq : i = ql.ix
    · subst hiq
      obtain ⟨_, o', ho', hall⟩ := mem_ready.1 hrd
      rw [ho] at ho'; cases ho'
      exact getD_set_true (hall e he hb)
    · rw [getD_set_ne false (Ne.symm hiq)] at hi
      exact getD_set_true (hv.down i o ho hi e he hb)
  · intro p pl hp hl
    by_cases hpq : p = q
    · rcases hc with ⟨h1, h2⟩ | ⟨h1, h2⟩ <;> omega
    · rw [other hp hpq] at hl
      have := hv.lt p pl hp hl
      rcases hc with ⟨h1, h2⟩ | ⟨h1, h2⟩ <;> omega
  · intro p pl hp hlt he
    by_cases hpq : p = q
    · subst hpq
      have : pl = ql := by have := hr.hq; rw [hp] at this; cases this; rfl
      rw [this]; exact self
    · rw [other hp hpq]
      refine hv.eff p pl hp ?_ he
      rcases hc with ⟨h1, h2⟩ | ⟨h1, h2⟩ <;> omega
  · intro p p' h1 h2
    by_cases hp' : p' ≤ c
    · exact hv.mono p p' h1 hp'
    · have : p' = c' := by rcases hc with ⟨h1, h2⟩ | ⟨h1, h2⟩ <;> omega
      by_cases hpc : p ≤ c
      · subst this; exact Nat.le_trans (hv.mono p c hpc (Nat.le_refl _)) hm
      · have : p = p' := by rcases hc with ⟨h1, h2⟩ | ⟨h1, h2⟩ <;> omega
        rw [this]; exact Nat.le_refl _
  · intro p pl hp hlt hl hn hw
    by_cases hpq : p = q
    · subst hpq
      have : pl = ql := by have := hr.hq; rw [hp] at this; cases this; rfl
      rw [this, self] at hl; cases hl
    · rw [other hp hpq] at hl
      exact hun p pl hp (by rcases hc with ⟨h1, h2⟩ | ⟨h1, h2⟩ <;> omega) hpq hl hn hw
end
end Go.Kx
/- THE ENGINE, part 24: the drawn region's law (end). -/
namespace Go.Kx
open Go

section
variable {P : Program} {ops : Array Oper} {ps : List Pl} {L : List ItemC} {Pd : Nat → List Pl} {F : Nat → List AV} {D : Nat → List Df} {Hh : Nat → H} {X : Nat → AV} {R0 R : Rl} {w0 w : World} {listed : Array Bool} {a : Act} {c : Nat}

structure Held (F : Nat → List AV) (Hh : Nat → H) (X : Nat → AV) (n q : Nat) (ql : Pl) (Pdk : List Pl) (k : Nat) : Prop where
  mem : ql ∈ Pdk
  nm : k < n → ∀ t ∈ namesI ql.it, nth (F k) t = nth (F q) t
  ds : k < n → ∀ d, ql.it.dst = some d → nth (F k) d = nth (F (q + 1)) d
  rd : readB ql.it.op = true → step ql.it.op (F q) (Hh k) = some (.val (X q) (Hh k))
  nw : ∀ X' l, news ql.it.op (F q) = some (X', l) → (Hh k).get (Hh q).nx = some ⟨0, 0, false, l⟩

theorem eff_not {op : AOp} (h : readB op = true ∨ newB op = true) : effB op = false := by cases op <;> simp [readB, newB, effB] at h ⊢

theorem Dr.held (dr : Dr P ops ps L Pd) (hrun : Run P L F D Hh X) (hv : PInv P ops ps F D Hh X R0 w0 listed a w R c) {q : Nat} {ql : Pl} (hq : ps[q]? = some ql) (hno : listed.getD ql.ix false = false)
    (hrn : readB ql.it.op = true ∨ newB ql.it.op = true) (hw : wanted (F q) ql.it.guard = some true) (hs : step ql.it.op (F q) (Hh q) = some (.val (X q) (Hh (q + 1)))) :
    ∀ k, q < k → k ≤ c → Held F Hh X ps.length q ql (Pd k) k := by
  obtain ⟨iq, _, hkq, _, hFq⟩ := dr.run hrun hq
  have hself := hkq.self hrn
  have hrn' : (readB ql.it.op || newB ql.it.op) = true := by rcases hrn with h | h <;> simp [h]
  intro k
  induction k with
  | zero => intro h; omega
  | succ k ih =>
    intro hk hkc
    by_cases hkq' : k = q
    · subst hkq'
      refine ⟨?_, ?_, fun _ _ _ => rfl, ?_, ?_⟩
      · rw [hkq.pd, if_pos hrn']; simp
      · intro _ t ht
        rw [hFq, nth_putD, if_neg]
        rintro ⟨hd, _⟩
        have := hself t ht
        rw [writes_dst hd] at this; cases this
      · intro hr
        have := noeff_heap (eff_not hrn) (read_new hr) hs
        rw [this] at hs ⊢; exact hs
      · intro X' l hn
        have hnew : newB ql.it.op = true := by
          cases hop : ql.it.op <;> rw [hop] at hn <;> simp only [news] at hn <;> first | rfl | (cases hn; done)
        obtain ⟨X2, l2, h1, _, h3⟩ := step_news hnew hs
        rw [hn] at h1; cases h1
        rw [h3]; exact H.get_new_self _ _
    · have IH := ih (by omega) (by omega)
      have hkn : k < ps.length := by have := hv.cN; omega
      have hp : ps[k]? = some ps[k] := List.getElem?_eq_getElem hkn
      obtain ⟨i, hit, hkk, hst, hFk⟩ := dr.run hrun hp
      have hmem1 : ql ∈ pend1 (Pd k) ps[k] := by
        unfold pend1
        split
        · rename_i he
          rw [List.mem_filter]
          refine ⟨IH.mem, ?_⟩
          have hl := hv.eff k _ hp (by omega) he
          cases hb : ps[k].bf.testBit ql.ix
          · rfl
          · have := dr.bits hv hp hl hb
            rw [hno] at this; cases this
        · exact IH.mem
      have nmk := IH.nm hkn
      have dsk := IH.ds hkn
      have hopk : ∀ t ∈ Kx.slots ql.it.op, nth (F k) t = nth (F q) t := fun t ht => nmk t (by simp [namesI, ht])
      have hwk : wanted (F k) ql.it.guard = some true := by rw [wanted_congr nmk]; exact hw
      have same : Hh (k + 1) = Hh k → (readB ql.it.op = true → step ql.it.op (F q) (Hh (k + 1)) = some (.val (X q) (Hh (k + 1)))) ∧ (∀ X' l, news ql.it.op (F q) = some (X', l) → (Hh (k + 1)).get (Hh q).nx = some ⟨0, 0, false, l⟩) := by
        intro e; rw [e]; exact ⟨IH.rd, IH.nw⟩
      have chkd : (effB ps[k].it.op = true ∨ newB ps[k].it.op = true) → i.chk.all (again (Hh (k + 1)) (F k)) = true → (readB ql.it.op = true → step ql.it.op (F q) (Hh (k + 1)) = some (.val (X q) (Hh (k + 1)))) ∧ (∀ X' l, news ql.it.op (F q) = some (X', l) → (Hh (k + 1)).get (Hh q).nx = some ⟨0, 0, false, l⟩) := by
        intro he hall
        have ha : again (Hh (k + 1)) (F k) ql.it = true := by
          rw [hkk.chk he] at hall
          exact List.all_eq_true.1 hall _ (List.mem_map.2 ⟨ql, hmem1, rfl⟩)
        have hdX : ∀ d, ql.it.dst = some d → nth (F k) d = X q ∨ nth (F k) d = .undef := by
          intro d hd
          rw [dsk d hd, hFq, nth_putD, hd]
          by_cases hlt : d < (F q).length
          · left; rw [if_pos ⟨rfl, hlt⟩]
          · right; rw [if_neg (fun hh => hlt hh.2)]; exact nth_ge _ _ (by omega)
        refine ⟨?_, ?_⟩
        · intro hr
          obtain ⟨d, x, h2, hd, hs2, hx, hne⟩ := again_read hr hwk ha
          have hxq : x = X q := by
            rcases hdX d hd with e | e
            · rw [hx, e]
            · exact absurd e hne
          rw [step_congr hopk] at hs2
          have := noeff_heap (eff_not (.inl hr)) (read_new hr) hs2
          rw [hs2, hxq, this]
        · intro X' l hn
          have hnew : newB ql.it.op = true := by
            cases hop : ql.it.op <;> rw [hop] at hn <;> simp only [news] at hn <;> first | rfl | (cases hn; done)
          obtain ⟨X2, l2, h1, hx2, _⟩ := step_news hnew hs
          rw [hn] at h1; cases h1
          refine again_news' (X := X') (fr := F k) (by rw [news_congr hopk]; exact hn) hwk ?_ ha
          intro d hd
          rw [← hx2]; exact hdX d hd
      have both : (readB ql.it.op = true → step ql.it.op (F q) (Hh (k + 1)) = some (.val (X q) (Hh (k + 1)))) ∧ (∀ X' l, news ql.it.op (F q) = some (X', l) → (Hh (k + 1)).get (Hh q).nx = some ⟨0, 0, false, l⟩) := by
        cases hst with
        | skip hw hx hd hh => exact same hh
        | val hw hs hk hd =>
          by_cases he : effB ps[k].it.op = true
          · exact chkd (.inl he) hk
          · by_cases hn : newB ps[k].it.op = true
            · exact chkd (.inr hn) hk
            · rw [hit] at hs
              exact same (noeff_heap (by simpa using he) (by simpa using hn) hs)
        | dfr f args hw hs hx hd hh => exact same hh
        | call f args hw hs hc hk hd =>
          rw [hit] at hs
          exact chkd (.inl (call_eff hs)) hk
      have slk : k + 1 < ps.length → (∀ t ∈ namesI ql.it, writesI ps[k].it t = false) ∧ ∀ d, ql.it.dst = some d → writesI ps[k].it d = false := fun hm => hkk.sl hm ql hmem1
      refine ⟨?_, ?_, ?_, both.1, both.2⟩
      · rw [hkk.pd]; split
        · exact List.mem_append_left _ hmem1
        · exact hmem1
      · intro hm t ht
        rw [hFk, nth_putD, if_neg, nmk t ht]
        rintro ⟨hd, _⟩
        have := (slk hm).1 t ht
        rw [writes_dst hd] at this; cases this
      · intro hm d hd
        rw [hFk, nth_putD, if_neg, dsk d hd]
        rintro ⟨hd2, _⟩
        have := (slk hm).2 d hd
        rw [writes_dst hd2] at this; cases this

/- the acting place next in turn -/
theorem Dr.advance (dr : Dr P ops ps L Pd) (hrun : Run P L F D Hh X) : ∀ (m c : Nat), ps.length - c = m → PInv P ops ps F D Hh X R0 w0 listed a w R c → ∃ c', PInv P ops ps F D Hh X R0 w0 listed a w R c' ∧ ∀ pl : Pl, ps[c']? = some pl → effB pl.it.op = true
  | m, c, hm, hv => by
    cases hp : ps[c]? with
    | none => exact ⟨c, hv, fun pl h => by rw [hp] at h; cases h⟩
    | some pl =>
      by_cases he : effB pl.it.op = true
      · exact ⟨c, hv, fun pl' h => by rw [hp] at h; cases h; exact he⟩
      · have hlt : c < ps.length := (List.getElem?_eq_some_iff.1 hp).1
        have he' : effB pl.it.op = false := by simpa using he
        cases m with
        | zero => omega
        | succ m =>
          refine dr.advance hrun m (c + 1) (by omega) ?_
          obtain ⟨i, hit, hkk, hst, hFk⟩ := dr.run hrun hp
          have key : Go2 P.globals.size R0 (Hh 0) w0 R (Hh (c + 1)) w ∧ (Hh c).nx ≤ (Hh (c + 1)).nx ∧ D (c + 1) = D c := by
            have same : Hh (c + 1) = Hh c → Go2 P.globals.size R0 (Hh 0) w0 R (Hh (c + 1)) w ∧ (Hh c).nx ≤ (Hh (c + 1)).nx := by
              intro e; rw [e]; exact ⟨hv.go, Nat.le_refl _⟩
            cases hst with
            | skip hw hx hd hh => exact ⟨(same hh).1, (same hh).2, hd⟩
            | val hw hs hk hd =>
              rw [hit] at hs
              by_cases hn : newB pl.it.op = true
              · obtain ⟨X2, l2, h1, _, h3⟩ := step_news hn hs
                obtain ⟨o, _, hi, _⟩ := dr.at_ c pl hp
                rw [h3]
                exact ⟨new_unmapped hv.go (news_ones (item_op hi).1 h1), by rw [H.nx_new]; omega, hd⟩
              · have e := noeff_heap he' (by simpa using hn) hs
                exact ⟨(same e).1, (same e).2, hd⟩
            | dfr f args hw hs hx hd hh => rw [hit] at hs; rw [dfr_eff hs] at he'; cases he'
            | call f args hw hs hc hk hd => rw [hit] at hs; rw [call_eff hs] at he'; cases he'
          obtain ⟨k1, k2, k3⟩ := key
          refine ⟨hv.size, by omega, hv.down, fun p pl' h1 h2 => Nat.lt_succ_of_lt (hv.lt p pl' h1 h2), ?_, k1, ?_, ?_, hv.fr, by rw [k3]; exact hv.df⟩
          · intro p pl' h1 h2 h3
            by_cases hpc : p = c
            · subst hpc; rw [hp] at h1; cases h1; rw [he'] at h3; cases h3
            · exact hv.eff p pl' h1 (by omega) h3
          · intro p p' h1 h2
            by_cases hp' : p' ≤ c
            · exact hv.mono p p' h1 hp'
            · have : p' = c + 1 := by omega
              subst this
              by_cases hpc : p ≤ c
              · exact Nat.le_trans (hv.mono p c hpc (Nat.le_refl _)) k2
              · have : p = c + 1 := by omega
                rw [this]; exact Nat.le_refl _
          · intro p pl' h1 h2 h3 h4 h5 v
            by_cases hpc : p = c
            · subst hpc; exact hv.go.wr.none_nx v
            · exact hv.un p pl' h1 (by omega) h3 h4 h5 v

theorem Dr.new_lt (dr : Dr P ops ps L Pd) (hrun : Run P L F D Hh X) (hv : PInv P ops ps F D Hh X R0 w0 listed a w R c) {p : Nat} {pl : Pl} (hp : ps[p]? = some pl) (hn : newB pl.it.op = true) (hw : wanted (F p) pl.it.guard = some true) : (Hh (p + 1)).nx = (Hh p).nx + 1 := by
  obtain ⟨i, hit, hkk, hst, hFk⟩ := dr.run hrun hp
  cases hst with
  | skip hw' hx hd hh => rw [hit, hw] at hw'; cases hw'
  | val hw' hs hk hd =>
    rw [hit] at hs
    obtain ⟨X2, l2, h1, _, h3⟩ := step_news hn hs
    rw [h3, H.nx_new]
  | dfr f args hw' hs hx hd hh => rw [hit] at hs; have := dfr_eff hs; rw [eff_not (.inr hn)] at this; cases this
  | call f args hw' hs hc hk hd => rw [hit] at hs; have := call_eff hs; rw [eff_not (.inr hn)] at this; cases this

theorem Dr.un_ext (dr : Dr P ops ps L Pd) (hrun : Run P L F D Hh X) (hv : PInv P ops ps F D Hh X R0 w0 listed a w R c) {R' : Rl} (hx : Ext (Hh c).nx R R') {p : Nat} {pl : Pl} (hp : ps[p]? = some pl) (hlt : p < c) (hl : listed.getD pl.ix false = false) (hn : newB pl.it.op = true) (hw : wanted (F p) pl.it.guard = some true) (v : Nat) : R'.c (Hh p).nx v = none := by
  cases h : R'.c (Hh p).nx v with
  | none => rfl
  | some x =>
    exfalso
    rcases hx.cn _ _ _ h with ⟨u, y, hy⟩ | hge
    · rw [hv.un p pl hp hlt hl hn hw u] at hy; cases hy
    · have h1 := dr.new_lt hrun hv hp hn hw
      have h2 := hv.mono (p + 1) c (by omega) (Nat.le_refl _)
      omega
end
end Go.Kx
/- THE ENGINE, part 25: the drawn region, joined. -/
namespace Go.Kx
open Go

section
variable {P : Program} {ops : Array Oper} {ps : List Pl} {L : List ItemC} {Pd : Nat → List Pl} {F : Nat → List AV} {D : Nat → List Df} {Hh : Nat → H} {X : Nat → AV} {R0 : Rl} {w0 : World}

theorem Dr.done {R : Rl} {w : World} {listed : Array Bool} {a : Act} {c : Nat} (dr : Dr P ops ps L Pd) (hrun : Run P L F D Hh X) (hv : PInv P ops ps F D Hh X R0 w0 listed a w R c) (hr : Region.ready .any ops listed = []) :
    c = ps.length ∧ FRel R (F ps.length) a := by
  have all : ∀ p : Nat, ∀ pl : Pl, ps[p]? = some pl → listed.getD pl.ix false = true := by
    intro p
    induction p using Nat.strongRecOn with
    | _ p ih =>
      intro pl hp
      cases hl : listed.getD pl.ix false
      · exfalso
        obtain ⟨o, ho, _, hbf⟩ := dr.at_ p pl hp
        obtain ⟨ic, _, hk⟩ := dr.chk p pl hp
        have hsz : pl.ix < listed.size := by rw [hv.size]; exact (Array.getElem?_eq_some_iff.1 ho).1
        have : pl.ix ∈ Region.ready .any ops listed := by
          rw [mem_ready]
          refine ⟨by rw [Array.getD_eq_getD_getElem?] at hl ⊢; rw [Array.getElem?_eq_getElem hsz] at hl ⊢; exact hl, o, ho, ?_⟩
          intro e he hb
          have hbit : pl.bf.testBit e.on = true := by rw [hbf]; exact (before_spec ops _ o ho e.on).2 ⟨e, he, hb, .inl rfl⟩
          have hlt : e.on < ops.size := by
            apply Nat.lt_of_not_le
            intro hge
            have := Nat.testBit_lt_two_pow (x := pl.bf) (i := e.on) (Nat.lt_of_lt_of_le hk.lt (Nat.pow_le_pow_right (by omega) hge))
            rw [hbit] at this; cases this
          obtain ⟨q, hq, hqe⟩ := hk.top e.on hlt hbit
          obtain ⟨k, hk1, hk2⟩ := mem_take' hq
          rw [← hqe]
          exact ih k hk1 q hk2
        rw [hr] at this; cases this
      · rfl
  have hc : c = ps.length := by
    apply Nat.le_antisymm hv.cN
    apply Nat.le_of_not_lt
    intro hlt
    have := hv.lt c _ (List.getElem?_eq_getElem hlt) (all c _ (List.getElem?_eq_getElem hlt))
    omega
  have hlen : ∀ k, k ≤ ps.length → (F k).length = (F 0).length := by
    intro k
    induction k with
    | zero => intro _; rfl
    | succ k ihk =>
      intro hk
      obtain ⟨i, _, _, _, hF⟩ := dr.run hrun (List.getElem?_eq_getElem (show k < ps.length by omega))
      rw [hF, putD_len, ihk (by omega)]
  refine ⟨hc, hv.fr.congr (by rw [FSx_len, hlen _ (Nat.le_refl _)]) ?_⟩
  intro t
  refine (dr.canon hrun _ t ps.length (Nat.le_refl _) ?_).symm
  intro p hp _
  rw [eAt_eq (List.getElem?_eq_getElem hp)]
  exact all p _ (List.getElem?_eq_getElem hp)

theorem Dr.wp (dr : Dr P ops ps L Pd) (hrun : Run P L F D Hh X) {Q : Exit → Act → World → Prop}
    (hq : ∀ R' w' a', Go2 P.globals.size R0 (Hh 0) w0 R' (Hh ps.length) w' → FRel R' (F ps.length) a' → DR R' (D ps.length) a'.defers → Q .normal a' w') :
    ∀ (fuel : Nat) (listed : Array Bool) (a : Act) (w : World) (R : Rl) (c : Nat), PInv P ops ps F D Hh X R0 w0 listed a w R c → (∀ pl : Pl, ps[c]? = some pl → effB pl.it.op = true) → cntU ops.size listed ≤ fuel →
      wpAny P .any ops Q fuel listed a w := by
  intro fuel
  induction fuel with
  | zero =>
    intro listed a w R c hv hat hcn
    have hr : Region.ready .any ops listed = [] := by
      cases hh : Region.ready .any ops listed with
      | nil => rfl
      | cons i l =>
        exfalso
        have hi : i ∈ Region.ready .any ops listed := by rw [hh]; simp
        obtain ⟨h1, o, ho, _⟩ := mem_ready.1 hi
        have : i ∈ (List.range ops.size).filter fun i => !listed.getD i true := by
          rw [List.mem_filter, List.mem_range]
          exact ⟨(Array.getElem?_eq_some_iff.1 ho).1, by rw [h1]; rfl⟩
        have := List.length_pos_of_mem this
        unfold cntU at hcn; omega
    refine ⟨hr, ?_⟩
    obtain ⟨hc, hf⟩ := dr.done hrun hv hr
    exact hq R w a (by rw [← hc]; exact hv.go) hf (by rw [← hc]; exact hv.df)
  | succ fuel ih =>
    intro listed a w R c hv hat hcn
    refine ⟨?_, ?_⟩
    · intro hr
      obtain ⟨hc, hf⟩ := dr.done hrun hv hr
      exact hq R w a (by rw [← hc]; exact hv.go) hf (by rw [← hc]; exact hv.df)
    · intro i hi
      obtain ⟨hun, o, ho, hall⟩ := mem_ready.1 hi
      have hisz : i < ops.size := (Array.getElem?_eq_some_iff.1 ho).1
      obtain ⟨q, ql, hq', hix⟩ := dr.cov i hisz
      subst hix
      obtain ⟨o', ho', hit, hbf⟩ := dr.at_ q ql hq'
      rw [ho] at ho'; cases ho'
      have hsz : ql.ix < listed.size := by rw [hv.size]; exact hisz
      have hno : listed.getD ql.ix false = false := by
        rw [Array.getD_eq_getD_getElem?] at hun ⊢; rw [Array.getElem?_eq_getElem hsz] at hun ⊢; exact hun
      have hrd : Rd ps listed q ql := ⟨hq', hno, fun j hj => ready_bits hv.down hv.size hi j (by rw [← hbf]; exact hj)⟩
      have hle := dr.leC hv hat hrd
      have hslots := dr.slots hrun hv hrd
      have hops : ∀ t ∈ Kx.slots ql.it.op, nth (FSx (dstAt ps) X (F 0) (eAt ps listed) ps.length) t = nth (F q) t := fun t ht => hslots t (by simp [namesI, ht])
      have hwc := wanted_congr hslots
      have hscong : ∀ h, step ql.it.op (FSx (dstAt ps) X (F 0) (eAt ps listed) ps.length) h = step ql.it.op (F q) h := fun h => step_congr hops
      obtain ⟨iq, hiq, hkq, hst, hFq⟩ := dr.run hrun hq'
      obtain ⟨hop, hdst⟩ := item_op hit
      -- what is behind it
      have fin : ∀ (R' : Rl) (a' : Act) (w' : World) (c' : Nat), PInv P ops ps F D Hh X R0 w0 (listed.setIfInBounds ql.ix true) a' w' R' c' → wpAny P .any ops Q fuel (listed.setIfInBounds ql.ix true) a' w' := by
        intro R' a' w' c' hv'
        obtain ⟨c2, hv2, hat2⟩ := dr.advance hrun _ c' rfl hv'
        refine ih _ a' w' R' c2 hv2 hat2 ?_
        have : cntU ops.size (listed.setIfInBounds ql.ix true) < cntU ops.size listed := by
          unfold cntU
          refine filter_lt (i := ql.ix) (by rw [hun]; rfl) (by simp [Array.getD_eq_getD_getElem?, hsz]) ?_ _ (by rw [List.mem_range]; exact hisz)
          intro x hx
          by_cases hxq : x = ql.ix
          · subst hxq; rw [hun]; rfl
          · rw [getD_set_ne true (Ne.symm hxq)] at hx; exact hx
        omega
      have ceq : ∀ (hqc : q = c), Go2 P.globals.size R0 (Hh 0) w0 R (Hh q) w ∧ DR R (D q) a.defers := fun hqc => by rw [hqc]; exact ⟨hv.go, hv.df⟩
      unfold wpOp
      rw [ho]
      simp only
      by_cases hqc : q = c
      · -- the acting one, in turn
        obtain ⟨hgo, hdf⟩ := ceq hqc
        have mk : ∀ (R' : Rl) (a' : Act) (w' : World), Go2 P.globals.size R (Hh q) w R' (Hh (q + 1)) w' → FRel R' (putD (FSx (dstAt ps) X (F 0) (eAt ps listed) ps.length) ql.it.dst (X q)) a' → DR R' (D (q + 1)) a'.defers →
            wpAny P .any ops Q fuel (listed.setIfInBounds ql.ix true) a' w' := by
          intro R' a' w' h1 h2 h3
          refine fin R' a' w' (c + 1) (dr.mark hv hrd hi (.inr ⟨hqc, rfl⟩) (by rw [← hqc]; exact hgo.trans h1) (by rw [← hqc]; exact h1.nx) ?_ h2 (by rw [← hqc]; exact h3))
          intro p pl hp hlt hpq hl hn hw v
          exact dr.un_ext hrun hv (by rw [← hqc]; exact h1.ext) hp hlt hl hn hw v
        cases hst with
        | skip hw hx hd hh =>
          rw [hiq, ← hwc] at hw
          have hwant := wanted_sound hv.fr hit hw
          rw [if_neg (by rw [hwant]; simp)]
          refine mk R _ w (by rw [hh]; exact Go2.refl hgo.wr) ?_ (by rw [put_defers, hd]; exact hdf)
          rw [hx, hdst]
          exact hv.fr.put (.tup [] _ .nil)
        | val hw hs hk hd =>
          rw [hiq, ← hwc] at hw
          have hwant := wanted_sound hv.fr hit hw
          rw [if_pos hwant]
          refine .inl (item_wp hgo.wr hv.fr hit (.inl (by rw [hscong]; rw [hiq] at hs; exact hs)) ?_)
          intro R' w' a' g1 g2 g3
          exact mk R' a' w' g1 g2 (by rw [g3, hd]; exact hdf.ext g1.ext)
        | dfr f args hw hs hx hd hh =>
          rw [hiq, ← hwc] at hw
          have hwant := wanted_sound hv.fr hit hw
          rw [if_pos hwant]
          refine .inl ?_
          obtain ⟨as, cap, hvv, hrun'⟩ := dfr_sound hgo.wr hv.fr hop (by rw [hscong]; rw [hiq] at hs; exact hs)
          unfold Oper.wp
          rw [hrun', Oper.upon_defer]
          refine mk R _ w (by rw [hh]; exact Go2.refl hgo.wr) ?_ ?_
          · rw [hx, hdst]
            have hf2 : FRel R (FSx (dstAt ps) X (F 0) (eAt ps listed) ps.length) { a with defers := { target := .fn (.func f) cap, args := as } :: a.defers } := ⟨hv.fr.len, hv.fr.get⟩
            exact hf2.put (.tup [] _ .nil)
          · rw [put_defers, hd]
            exact .cons _ _ _ _ _ _ hvv hdf
        | call f args hw hs hc hk hd =>
          rw [hiq, ← hwc] at hw
          have hwant := wanted_sound hv.fr hit hw
          rw [if_pos hwant]
          refine .inl (item_wp hgo.wr hv.fr hit (.inr ⟨f, args, by rw [hscong]; rw [hiq] at hs; exact hs, hc⟩) ?_)
          intro R' w' a' g1 g2 g3
          exact mk R' a' w' g1 g2 (by rw [g3, hd]; exact hdf.ext g1.ext)
      · -- one that doesn't act, late
        have hlt : q < c := by omega
        have hne : effB ql.it.op = false := by
          cases he : effB ql.it.op
          · rfl
          · have := hv.eff q ql hq' hlt he
            rw [hno] at this; cases this
        have mk : ∀ (R' : Rl) (a' : Act) (w' : World), Go2 P.globals.size R0 (Hh 0) w0 R' (Hh c) w' → (∀ (p : Nat) (pl : Pl), ps[p]? = some pl → p < c → p ≠ q → listed.getD pl.ix false = false → newB pl.it.op = true → wanted (F p) pl.it.guard = some true → ∀ v, R'.c (Hh p).nx v = none) →
            FRel R' (putD (FSx (dstAt ps) X (F 0) (eAt ps listed) ps.length) ql.it.dst (X q)) a' → DR R' (D c) a'.defers →
            wpAny P .any ops Q fuel (listed.setIfInBounds ql.ix true) a' w' := by
          intro R' a' w' h1 h2 h3 h4
          exact fin R' a' w' c (dr.mark hv hrd hi (.inl ⟨hlt, rfl⟩) h1 (Nat.le_refl _) h2 h3 h4)
        have plain : step ql.it.op (F q) (Hh c) = some (.val (X q) (Hh c)) → wanted (F q) ql.it.guard = some true → (if Region.wanted o (yielded ops a.tmps) = true then o.wp P a w (wpAny P .any ops Q fuel (listed.setIfInBounds ql.ix true)) Q ∨ o.asks P a w ∧ LetsOut Q else wpAny P .any ops Q fuel (listed.setIfInBounds ql.ix true) (a.put o.dst undef) w) := by
          intro hs hw
          rw [← hwc] at hw
          have hwant := wanted_sound hv.fr hit hw
          rw [if_pos hwant]
          refine .inl (item_wp hv.go.wr hv.fr hit (.inl (by rw [hscong]; exact hs)) ?_)
          intro R' w' a' g1 g2 g3
          exact mk R' a' w' (hv.go.trans g1) (fun p pl hp hl _ hno' hn hw v => dr.un_ext hrun hv g1.ext hp hl hno' hn hw v) g2 (by rw [g3]; exact hv.df.ext g1.ext)
        cases hst with
        | skip hw hx hd hh =>
          rw [hiq, ← hwc] at hw
          have hwant := wanted_sound hv.fr hit hw
          rw [if_neg (by rw [hwant]; simp)]
          refine mk R _ w hv.go (fun p pl hp hl _ hno' hn hw v => hv.un p pl hp hl hno' hn hw v) ?_ (by rw [put_defers]; exact hv.df)
          rw [hx, hdst]
          exact hv.fr.put (.tup [] _ .nil)
        | val hw hs hk hd =>
          rw [hiq] at hw hs
          by_cases hn : newB ql.it.op = true
          · obtain ⟨X2, l2, hnews, hx2, hh2⟩ := step_news hn hs
            have hheld := dr.held hrun hv hq' hno (.inr hn) hw hs c hlt (Nat.le_refl _)
            have hobj := hheld.nw X2 l2 hnews
            have hnews' : news ql.it.op (FSx (dstAt ps) X (F 0) (eAt ps listed) ps.length) = some (X2, l2) := by rw [news_congr hops]; exact hnews
            obtain ⟨arr, T, fz, v, hrunv, hfz, hlen, hones, hvals, hval⟩ := news_sound hv.go.wr hv.fr hop hnews'
            have hw' := hw
            rw [← hwc] at hw'
            have hwant := wanted_sound hv.fr hit hw'
            rw [if_pos hwant]
            refine .inl ?_
            unfold Oper.wp
            rw [hrunv, Oper.upon_value]
            have hnx := dr.new_lt hrun hv hq' hn hw
            have hnx2 := hv.mono (q + 1) c (by omega) (Nat.le_refl _)
            have hg' := new_late hv.go (n := (Hh q).nx) (hv.mono 0 q (by omega) (by omega)) (by omega) (hv.un q ql hq' hlt hno hn hw) hobj arr T fz hfz hlen hvals
            have hun' := hv.un q ql hq' hlt hno hn hw
            have ec : ∀ i v x, R.c i v = some x → (R.add (Hh q).nx 0 w.heap.size 0 arr.size l2.length).c i v = some x := by
              intro i v x hx
              have : i ≠ (Hh q).nx := fun e => by rw [e, hun'] at hx; cases hx
              rw [add_c_ne (fun hh => this hh.1)]; exact hx
            have he : Ext 0 R (R.add (Hh q).nx 0 w.heap.size 0 arr.size l2.length) := ⟨ec, fun _ _ hh => hh, fun _ _ _ _ => .inr (Nat.zero_le _), fun _ _ _ => .inr (Nat.zero_le _)⟩
            refine mk _ _ _ hg' ?_ ?_ ?_
            · intro p pl hp hl hpq hno' hn' hw'' v'
              have hne2 : (Hh p).nx ≠ (Hh q).nx := by
                rcases Nat.lt_or_gt_of_ne hpq with h | h
                · have h1 := dr.new_lt hrun hv hp hn' hw''
                  have h2 := hv.mono (p + 1) q (by omega) (by omega)
                  omega
                · have h2 := hv.mono (q + 1) p (by omega) (by omega)
                  omega
              rw [add_c_ne (fun hh => hne2 hh.1)]
              exact hv.un p pl hp hl hno' hn' hw'' v'
            · rw [hdst]
              refine (hv.fr.ext he).put ?_
              rw [hx2]
              exact hval _ _ add_c_self
            · rw [put_defers]; exact hv.df.ext he
          · have hn' : newB ql.it.op = false := by simpa using hn
            by_cases hr : readB ql.it.op = true
            · have hheld := dr.held hrun hv hq' hno (.inl hr) hw hs c hlt (Nat.le_refl _)
              exact plain (hheld.rd hr) hw
            · exact plain (pure_heap hne hn' (by simpa using hr) hs) hw
        | dfr f args hw hs hx hd hh => rw [hiq] at hs; rw [dfr_eff hs] at hne; cases hne
        | call f args hw hs hc hk hd => rw [hiq] at hs; rw [call_eff hs] at hne; cases hne
end

/- A DRAWN REGION -/
theorem draw_wp {P : Program} (hm : P.follows .mixedOrders = true) {ops : Array Oper} {L : List ItemC} (hc : drawC P ops = some L) {fr : List AV} {d : List Df} {h : H} {r : Res} (ht : Trace P L fr d h r) {id : Nat} {R : Rl} {w : World} {a : Act} {Q : Exit → Act → World → Prop}
    (hw : WR P.globals.size R h w) (hf : FRel R fr a) (hd : DR R d a.defers) (hq : ∀ R' w' a', Go2 P.globals.size R h w R' r.h w' → FRel R' r.fr a' → DR R' r.d a'.defers → Q .normal a' w') : (Code.region id ops true).wp P Q a w := by
  obtain ⟨ps, Pd, dr⟩ := drawC_spec hc
  obtain ⟨F, D, Hh, X, hrun, hF, hD, hH, hr⟩ := trace_run ht
  subst hF; subst hD; subst hH
  apply wp_region_any hm
  have hgd := Go2.drawn hw (w.drawn + 1)
  have hnl : ∀ i, (Array.replicate ops.size false).getD i false = false := by
    intro i
    rw [Array.getD_eq_getD_getElem?]
    cases hh : (Array.replicate ops.size false)[i]? with
    | none => rfl
    | some b =>
      have := Array.getElem?_replicate (n := ops.size) (v := false) (i := i)
      rw [hh] at this
      split at this
      · cases this; rfl
      · cases this
  have hv : PInv P ops ps F D Hh X R w (Array.replicate ops.size false) a { w with drawn := w.drawn + 1 } R 0 := by
    refine ⟨by simp, Nat.zero_le _, ?_, ?_, ?_, hgd, ?_, ?_, ?_, hd⟩
    · intro i o ho hi
      rw [hnl] at hi; cases hi
    · intro p pl hp hl
      rw [hnl] at hl; cases hl
    · intro p pl hp hlt; omega
    · intro p q h1 h2
      have : p = q := by omega
      rw [this]; exact Nat.le_refl _
    · intro p pl hp hlt; omega
    · refine hf.congr (FSx_len _ _) ?_
      intro t
      refine FSx_upto (q := 0) _ (Nat.zero_le _) ?_
      intro p hp _ _
      rw [eAt_eq (List.getElem?_eq_getElem hp)]
      exact hnl _
  obtain ⟨c, hv2, hat⟩ := dr.advance hrun _ 0 rfl hv
  refine dr.wp hrun ?_ ops.size _ a _ R c hv2 hat ?_
  · intro R' w' a' g1 g2 g3
    rw [dr.llen] at hr
    rw [hr] at hq
    exact hq R' w' a' g1 g2 g3
  · unfold cntU
    exact Nat.le_trans (List.length_filter_le _ _) (by simp)
end Go.Kx
