/- THE ENGINE, part 10: equality. -/
import Derived.Test.YtmafgdnlggoljaaGreatDoorE2
namespace Go.Kx
open Go
section
variable {R : Rl} {P : Program}

theorem eqKs_len : ∀ {ks : List Kd} {a b : List AV} {c : Bool}, eqKs ks a b = some c → a.length = ks.length ∧ b.length = ks.length
  | [], [], [], _, _ => ⟨rfl, rfl⟩
  | k :: ks, x :: l, y :: m, c, hh => by
    simp only [eqKs] at hh
    split at hh
    · rename_i p q h1 h2; obtain ⟨g1, g2⟩ := eqKs_len h2; simp [g1, g2]
    · cases hh
  | [], [], _ :: _, _, hh => by simp [eqKs] at hh
  | [], _ :: _, _, _, hh => by simp [eqKs] at hh
  | _ :: _, [], _, _, hh => by simp [eqKs] at hh
  | _ :: _, _ :: _, [], _, hh => by simp [eqKs] at hh

theorem eqKs_split : ∀ (ks js : List Kd) {a b : List AV} {c : Bool}, eqKs (ks ++ js) a b = some c →
    ∃ c1 c2, eqKs ks (a.take ks.length) (b.take ks.length) = some c1 ∧ eqKs js (a.drop ks.length) (b.drop ks.length) = some c2 ∧ c = (c1 && c2)
  | [], js, a, b, c, hh => ⟨true, c, by simp [eqKs], by simpa using hh, by simp⟩
  | k :: ks, js, x :: l, y :: m, c, hh => by
    simp only [List.cons_append, eqKs] at hh
    split at hh
    · rename_i p q h1 h2
      cases hh
      obtain ⟨c1, c2, e1, e2, rfl⟩ := eqKs_split ks js h2
      exact ⟨p && c1, c2, by simp [eqKs, h1, e1], by simpa using e2, by rw [Bool.and_assoc]⟩
    · cases hh
  | k :: ks, js, [], _, c, hh => by simp [eqKs] at hh
  | k :: ks, js, _ :: _, [], c, hh => by simp [eqKs] at hh

theorem leaf_size {d : Nat} {t : TypeId} {k : Kd} (hh : flatT P d t = .leaf k) : aggT P t = some false := by
  cases d with
  | zero => simp [flatT] at hh
  | succ d =>
    simp only [flatT] at hh
    unfold aggT
    cases hu : P.underlying t with
    | none => rw [hu] at hh; simp at hh
    | some q =>
      rw [hu] at hh
      cases q <;> simp at hh ⊢
      split at hh
      · cases hh
      · split at hh
        · split at hh <;> cases hh
        · cases hh
theorem flat_size {d : Nat} {t : TypeId} {ks : List Kd} (hh : flatT P d t = .flat ks) : aggT P t = some true ∧ szT P t = some ks.length := by
  cases d with
  | zero => simp [flatT] at hh
  | succ d =>
    simp only [flatT] at hh
    unfold aggT
    cases hu : P.underlying t with
    | none => rw [hu] at hh; simp at hh
    | some q =>
      rw [hu] at hh
      cases q <;> simp at hh ⊢
      · split at hh
        · split at hh <;> cases hh
        · cases hh
      · split at hh
        · cases hh
        · split at hh
          · split at hh
            · cases hh; assumption
            · cases hh
          · cases hh

theorem run_eqFields (d D : Nat) (hd : ∀ (t : TypeId) (x y : AV) (u v : Value) (b : Bool) (w : World), VR R x u → VR R y v → eqV (flatT P d t) x y = some b → (Op.equalIn D t u v).run P w = .ok b w)
    (xs ys : Array Value) (l m : List AV) (hl : VRs R l xs.toList) (hm : VRs R m ys.toList) :
    ∀ (fs : List Field) (o : Nat) (ks : List Kd) (c : Bool) (w : World), flatF (flatT P d) o fs = some ks → eqKs ks (l.drop o) (m.drop o) = some c → (Op.eqFields D xs ys fs).run P w = .ok c w
  | [], o, ks, c, w, hf, he => by
    simp only [flatF] at hf; cases hf
    obtain ⟨h1, h2⟩ := eqKs_len he
    rw [List.eq_nil_of_length_eq_zero h1, List.eq_nil_of_length_eq_zero h2] at he
    simp [eqKs] at he; subst he
    simp [Op.eqFields]
  | f :: fs, o, ks, c, w, hf, he => by
    simp only [flatF] at hf
    split at hf
    · rename_i hh
      obtain ⟨hoff, hname⟩ := hh
      have fin : ∀ (a b : Value) (c1 c2 : Bool), (part f.type xs f.offset).run P w = .ok a w → (part f.type ys f.offset).run P w = .ok b w → (Op.equalIn D f.type a b).run P w = .ok c1 w →
          (Op.eqFields D xs ys fs).run P w = .ok c2 w → (Op.eqFields D xs ys (f :: fs)).run P w = .ok (c1 && c2) w := by
        intro a b c1 c2 h1 h2 h3 h4
        simp only [Op.eqFields, Sem.run_bind, Sem.run_ite]
        rw [if_pos hname, h1]
        simp only [Result.andThen_ok]
        rw [h2]
        simp only [Result.andThen_ok]
        rw [h3]
        simp only [Result.andThen_ok]
        cases c1
        · simp
        · simpa using h4
      split at hf
      · rename_i k hk
        cases hr : flatF (flatT P d) (o + 1) fs with
        | none => rw [hr] at hf; cases hf
        | some js =>
          rw [hr] at hf; cases hf
          have hlen := eqKs_len he
          have hol : o < l.length := by have := hlen.1; simp at this; omega
          have hom : o < m.length := by have := hlen.2; simp at this; omega
          rw [List.drop_eq_getElem_cons hol, List.drop_eq_getElem_cons hom] at he
          simp only [eqKs] at he
          split at he
          · rename_i p q g1 g2
            cases he
            obtain ⟨u, hu, hvu⟩ := hl.get o l[o] (List.getElem?_eq_getElem hol)
            obtain ⟨v, hv, hvv⟩ := hm.get o m[o] (List.getElem?_eq_getElem hom)
            have hu' : xs[o]? = some u := by simpa using hu
            have hv' : ys[o]? = some v := by simpa using hv
            have ha := leaf_size hk
            refine fin u v p q (by simp [part, aggT_run ha, hoff, hu']) (by simp [part, aggT_run ha, hoff, hv']) ?_ (run_eqFields d D hd xs ys l m hl hm fs (o + 1) js q w hr g2)
            exact hd f.type _ _ u v p w hvu hvv (by rw [hk]; exact g1)
          · cases he
      · rename_i is hk
        cases hr : flatF (flatT P d) (o + is.length) fs with
        | none => rw [hr] at hf; cases hf
        | some js =>
          rw [hr] at hf; cases hf
          obtain ⟨c1, c2, e1, e2, rfl⟩ := eqKs_split is js he
          rw [List.drop_drop, List.drop_drop] at e2
          obtain ⟨ha, hsz⟩ := flat_size hk
          have hx1 : VRs R ((l.drop o).take is.length) (xs.extract o (o + is.length)).toList := by
            have := (hl.drop o).take is.length
            simpa using this
          have hy1 : VRs R ((m.drop o).take is.length) (ys.extract o (o + is.length)).toList := by
            have := (hm.drop o).take is.length
            simpa using this
          refine fin (.agg (xs.extract o (o + is.length))) (.agg (ys.extract o (o + is.length))) c1 c2 (by simp [part, aggT_run ha, szT_run hsz, hoff]) (by simp [part, aggT_run ha, szT_run hsz, hoff]) ?_
            (run_eqFields d D hd xs ys l m hl hm fs (o + is.length) js c2 w hr e2)
          exact hd f.type (.agg _) (.agg _) _ _ c1 w (.agg _ _ hx1) (.agg _ _ hy1) (by rw [hk]; exact e1)
      · cases hf
    · cases hf

theorem run_flat : ∀ (d D : Nat), d ≤ D → ∀ (t : TypeId) (x y : AV) (u v : Value) (b : Bool) (w : World), VR R x u → VR R y v → eqV (flatT P d t) x y = some b →
      (Op.equalIn D t u v).run P w = .ok b w
  | 0, _, _, t, _, _, _, _, _, _, _, _, hh => by simp [flatT, eqV] at hh
  | d + 1, 0, hle, _, _, _, _, _, _, _, _, _, _ => by omega
  | d + 1, D + 1, hle, t, x, y, u, v, b, w, hx, hy, he => by
    simp only [flatT] at he
    cases hu : P.underlying t with
    | none => rw [hu] at he; simp [eqV] at he
    | some q =>
      rw [hu] at he
      cases q <;> simp only at he <;> try (simp [eqV] at he; done)
      · -- bool
        cases hx <;> cases hy <;> simp [eqV, eqK] at he
        subst he; simp [Op.equalIn, run_underlying hu]
      · cases hx <;> cases hy <;> simp [eqV, eqK] at he
        obtain ⟨rfl, rfl⟩ := he; simp [Op.equalIn, run_underlying hu]
      · cases hx <;> cases hy <;> simp [eqV, eqK] at he
        rename_i l1 s1 e1 l2 s2 e2
        subst he
        simp only [Op.equalIn, Sem.run_bind, run_underlying hu, Result.andThen_ok, Sem.run_pure, beq_bytes, e1, e2]
      · -- pointer
        rename_i el
        split at he
        · rename_i n hn
          split at he
          · rename_i hn0
            cases hx <;> cases hy <;> simp [eqV, eqK] at he
            · subst he; simp [Op.equalIn, run_underlying hu]
            · subst he; simp [Op.equalIn, run_underlying hu]
            · subst he; simp [Op.equalIn, run_underlying hu]
            · rename_i i1 v1 o1 b1 sh1 ps1 L1 c1 i2 v2 o2 b2 sh2 ps2 L2 c2
              obtain ⟨⟨rfl, rfl⟩, he⟩ := he
              rw [c1] at c2; cases c2
              subst he
              simp [Op.equalIn, run_underlying hu, szT_run hn, hn0, sameAddr]
              rw [Bool.eq_iff_iff]; simp
          · simp [eqV] at he
        · simp [eqV] at he
      · -- struct
        rename_i fs
        split at he
        · simp [eqV] at he
        · rename_i hst
          split at he
          · rename_i ks hks
            split at he
            · rename_i hsz
              cases hx <;> cases hy <;> simp only [eqV] at he <;> try (cases he; done)
              rename_i l xs hxs m ys hys
              have hfo : P.fieldsOf t = fs := by simp [Program.fieldsOf, hu]
              rw [run_equalIn_struct w D t xs ys (by rw [hfo]; exact hu) (by simpa using hst), hfo]
              exact run_eqFields d D (run_flat d D (by omega)) xs ys l m hxs hys fs.toList 0 ks b w hks (by simpa using he)
            · simp [eqV] at he
          · simp [eqV] at he

theorem run_nilT (D : Nat) {t : TypeId} {q : TypeDesc} (hu : P.underlying t = some q) {k : Kd} (hk : (match q with | .slice _ => k = .sl | .map .. => k = .mp | .func .. => k = .fn | _ => False))
    {x y : AV} {u v : Value} {b : Bool} (w : World) (hx : VR R x u) (hy : VR R y v) (he : eqK k x y = some b) : (Op.equalIn (D + 1) t u v).run P w = .ok b w := by
  cases q <;> simp only at hk
  all_goals
    subst hk
    cases hx <;> cases hy <;> simp only [eqK] at he <;> (try (cases he; done)) <;> cases he <;> simp only [Op.equalIn, Sem.run_bind, run_underlying hu, Result.andThen_ok] <;> rfl

theorem max_eq : Op.maxDepth = 9999 + 1 := rfl

theorem run_eqT {t : TypeId} {x y : AV} {u v : Value} {b : Bool} (w : World) (hx : VR R x u) (hy : VR R y v) (he : eqV (eqT P t) x y = some b) : (Op.equal t u v).run P w = .ok b w := by
  unfold eqT at he
  unfold Op.equal
  have h8 : 8 ≤ Op.maxDepth := by rw [max_eq]; omega
  cases hu : P.underlying t with
  | none =>
    rw [hu] at he
    simp only at he
    split at he
    · simp [eqV] at he
    · exact run_flat 8 _ h8 t x y u v b w hx hy he
  | some q =>
    rw [hu] at he
    cases q <;> simp only at he
    case slice => rw [max_eq]; exact run_nilT 9999 hu (k := .sl) rfl w hx hy he
    case map => rw [max_eq]; exact run_nilT 9999 hu (k := .mp) rfl w hx hy he
    case func => rw [max_eq]; exact run_nilT 9999 hu (k := .fn) rfl w hx hy he
    all_goals
      split at he
      · simp [eqV] at he
      · exact run_flat 8 _ h8 t x y u v b w hx hy he

theorem run_eqGuardT {t : TypeId} {x y : AV} {u v : Value} {b : Bool} (op : BinOp) (p q : Operand) (w : World) (hx : VR R x u) (hy : VR R y v) (he : eqV (eqT P t) x y = some b) : (eqGuard op t p q u v).run P w = .ok () w := by
  have nil : ¬ (u = .nilIface ∧ v = .nilIface) := by
    rintro ⟨rfl, rfl⟩
    cases hx <;> cases hy <;> simp [eqV, eqK] at he <;> (cases hq : eqT P t <;> rw [hq] at he <;> simp [eqV, eqK] at he)
  have agg : ∀ xs ys, u = .agg xs → v = .agg ys → P.eqGuardType P.depth t = false := by
    rintro xs ys rfl rfl
    cases hg : P.eqGuardType P.depth t with
    | false => rfl
    | true =>
      exfalso
      unfold eqT at he
      cases hu : P.underlying t with
      | none => rw [hu, hg] at he; simp [eqV] at he
      | some q =>
        rw [hu, hg] at he
        cases q <;> simp only [if_true] at he <;> (cases hx <;> cases hy <;> simp [eqV, eqK] at he)
  unfold eqGuard
  cases u <;> cases v <;> first
    | (exact absurd ⟨rfl, rfl⟩ nil)
    | (rename_i xs ys; have := agg xs ys rfl rfl; cases op <;> simp [this])
    | (cases op <;> simp)
end
end Go.Kx
/- THE ENGINE, part 11: the single operations, one by one (first half). -/
namespace Go.Kx
open Go

structure FRel (R : Rl) (fr : List AV) (a : Act) : Prop where
  len : fr.length = a.tmps.size
  get : ∀ t, VR R (nth fr t) (a.tmps.getD t undef)

def StepsTo (P : Program) (o : Oper) (a : Act) (R : Rl) (h : H) (w : World) (x : AV) (h' : H) : Prop :=
  ∃ R' w', Go2 P.globals.size R h w R' h' w' ∧ ((∃ v, (execOp a.eval o).run P w = .ok (.value v) w' ∧ VR R' x v) ∨ ((execOp a.eval o).run P w = .ok .skip w' ∧ VR R' x undef))

section
variable {R : Rl} {h h' : H} {w : World} {P : Program} {o : Oper} {a : Act} {fr : List AV}

theorem opd_sound (hw : WR P.globals.size R h w) (hf : FRel R fr a) {x : Operand} {y : Opd} (hc : opdC P x = some y) : VR R (opd fr y) (a.eval x) := by
  cases x with
  | tmp t => simp only [opdC] at hc; cases hc; exact hf.get t
  | const v =>
    simp only [opdC] at hc
    cases hv : valC v with
    | none => rw [hv] at hc; cases hc
    | some y => rw [hv] at hc; cases hc; exact valC_sound hv
  | global g =>
    simp only [opdC] at hc
    split at hc
    · rename_i hg
      cases hc
      obtain ⟨ps, L, hh⟩ := hw.glob g hg
      exact VR.ptr g 0 0 g 0 ps L hh
    · cases hc
  | func f => simp only [opdC] at hc; cases hc; exact .func f [] [] #[] #[] .nil .nil

theorem opds_sound (hw : WR P.globals.size R h w) (hf : FRel R fr a) : ∀ {l : List Operand} {m : List Opd}, opdsC P l = some m → VRs R (m.map (opd fr)) (l.map a.eval)
  | [], m, hc => by simp only [opdsC] at hc; cases hc; exact .nil
  | x :: l, m, hc => by
    simp only [opdsC] at hc
    split at hc
    · rename_i y r h1 h2
      cases hc
      exact .cons _ _ _ _ (opd_sound hw hf h1) (opds_sound hw hf h2)
    · cases hc

theorem st_val (hw : WR P.globals.size R h w) {x : AV} {v : Value} (hr : (execOp a.eval o).run P w = .ok (.value v) w) (hv : VR R x v) : StepsTo P o a R h w x h :=
  ⟨R, w, Go2.refl hw, .inl ⟨v, hr, hv⟩⟩

theorem s_mv (hw : WR P.globals.size R h w) (hf : FRel R fr a) {x : Operand} {y : Opd} (ho : o.op = .move x ∨ o.op = .assign x) (hc : opdC P x = some y) : StepsTo P o a R h w (opd fr y) h :=
  st_val hw (by rcases ho with ho | ho <;> simp [execOp, ho]) (opd_sound hw hf hc)

theorem s_pick (hw : WR P.globals.size R h w) (hf : FRel R fr a) {c x y : Operand} {c' x' y' : Opd} {t : Bool} (ho : o.op = .pick c x y) (h1 : opdC P c = some c') (h2 : opdC P x = some x') (h3 : opdC P y = some y')
    (ht : opd fr c' = .bool t) : StepsTo P o a R h w (if t then opd fr x' else opd fr y') h := by
  have hb := opd_sound hw hf h1
  rw [ht] at hb
  generalize he : a.eval c = u at hb
  cases hb
  refine st_val hw (v := if t then a.eval x else a.eval y) ?_ ?_
  · simp [execOp, ho, he, asBool]
  · cases t
    · exact opd_sound hw hf h3
    · exact opd_sound hw hf h2

theorem s_new (hw : WR P.globals.size R h w) {t : TypeId} {z : AV} {n : Nat} (ho : o.op = .alloc t) (hz : zeroT P t = some z) (_hn : z.cells.length = n) (h1 : z.cells.all AV.one = true) :
    StepsTo P o a R h w (.ptr h.nx 0 0) (h.new z.cells) := by
  obtain ⟨v, hrun, hvr, hcs⟩ := zeroT_run (R := R) hz
  refine ⟨_, _, new_cells hw z.cells v.cells t (0, 0) (fun j _ => by simp) (by rw [hcs.length]; simp) h1 (fun j x hx => by simpa using hcs.get j x hx), .inl ⟨.pointer (some ⟨w.heap.size, 0, none⟩), ?_, ?_⟩⟩
  · simp [execOp, ho, Instr.alloc, hrun, newVar, newRow, World.mk1]
  · simpa using VR.ptr h.nx 0 0 w.heap.size 0 _ _ add_c_self

theorem s_box (hw : WR P.globals.size R h w) (hf : FRel R fr a) {t : TypeId} {x : Operand} {x' : Opd} (ho : o.op = .box t x) (hc : opdC P x = some x') (h1 : (opd fr x').cells.all AV.one = true) :
    StepsTo P o a R h w (.ptr h.nx 0 0) (h.new (opd fr x').cells) := by
  have hv := opd_sound hw hf hc
  have hcs := hv.cells (cells_ne h1)
  refine ⟨_, _, new_cells hw _ (a.eval x).cells t (0, 0) (fun j _ => by simp) (by rw [hcs.length]; simp) h1 (fun j y hx => by simpa using hcs.get j y hx), .inl ⟨.pointer (some ⟨w.heap.size, 0, none⟩), ?_, ?_⟩⟩
  · simp [execOp, ho, Instr.box, newVar, newRow, World.mk1]
  · simpa using VR.ptr h.nx 0 0 w.heap.size 0 _ _ add_c_self

theorem s_build (hw : WR P.globals.size R h w) (hf : FRel R fr a) {t : TypeId} {ps : Array (Nat × Operand)} {z l : List AV} {fs : Array Field} {qs : List (Nat × Nat × Opd)} (ho : o.op = .build t ps)
    (hz : zeroT P t = some (.agg z)) (hu : P.underlying t = some (.struct fs)) (hall : fs.all (fun f => (szT P f.type).isSome) = true) (hq : partsF P fs ps.toList = some qs) (hl : lay z fr qs = some l) : StepsTo P o a R h w (.agg l) h := by
  obtain ⟨v, hrun, hvr, hcs⟩ := zeroT_run (R := R) hz
  have hpl : (fs.mapM (fun f => do pure (f.offset, ← sizeOf f.type)) : Sem _).run P w = .ok (fs.map fun f => (f.offset, P.cellsOf f.type)) w := by
    refine run_mapM_array _ _ w fs ?_
    intro f hfm
    have hs : (szT P f.type).isSome = true := by
      rw [Array.all_eq_true_iff_forall_mem] at hall
      exact hall f (by simpa using hfm)
    cases hk : szT P f.type with
    | none => rw [hk] at hs; cases hs
    | some k =>
      simp only [Sem.run_bind, szT_run hk, Result.andThen_ok, Sem.run_pure]
      unfold szT at hk
      simp [Program.cellsOf, hk]
  obtain ⟨out, hout, hvo⟩ := fill_sound (fun x y hc => opd_sound hw hf hc) _ ps.toList qs z l v.cells (partsF_ok fs ps.toList qs hq) hl hcs
  refine st_val hw (v := .agg out) ?_ (.agg _ _ hvo)
  have hout' : Instr.fill (fun x => (fs.map fun f => (f.offset, P.cellsOf f.type))[x]?) v.cells ((ps.map fun (i, x) => (i, a.eval x)).toList) = some out := by
    rw [Array.toList_map]; exact hout
  simp only [execOp, ho, Instr.build, Sem.run_bind, hrun, run_underlying hu, Result.andThen_ok, hpl]
  simp only [hout']
  rfl

theorem s_buildA (hw : WR P.globals.size R h w) (hf : FRel R fr a) {t e : TypeId} {n sz : Nat} {ps : Array (Nat × Operand)} {z l : List AV} {qs : List (Nat × Nat × Opd)} (ho : o.op = .build t ps)
    (hz : zeroT P t = some (.agg z)) (hu : P.underlying t = some (.array n e)) (hs : szT P e = some sz) (hq : partsA P sz ps.toList = some qs) (hl : lay z fr qs = some l) : StepsTo P o a R h w (.agg l) h := by
  obtain ⟨v, hrun, hvr, hcs⟩ := zeroT_run (R := R) hz
  obtain ⟨out, hout, hvo⟩ := fill_sound (fun x y hc => opd_sound hw hf hc) _ ps.toList qs z l v.cells (partsA_ok sz ps.toList qs hq) hl hcs
  refine st_val hw (v := .agg out) ?_ (.agg _ _ hvo)
  have hout' : Instr.fill (fun i => some (i * sz, sz)) v.cells ((ps.map fun (i, x) => (i, a.eval x)).toList) = some out := by
    rw [Array.toList_map]; exact hout
  simp only [execOp, ho, Instr.build, Sem.run_bind, hrun, run_underlying hu, Result.andThen_ok, szT_run hs]
  simp only [hout']
  rfl

theorem repl_get (z : List AV) (hz : 0 < z.length) : ∀ (n j : Nat), j < n * z.length → (repl n z)[j]? = z[j % z.length]?
  | 0, j, hj => by simp at hj
  | n + 1, j, hj => by
    simp only [repl]
    by_cases h1 : j < z.length
    · rw [List.getElem?_append_left h1, Nat.mod_eq_of_lt h1]
    · rw [List.getElem?_append_right (by omega), repl_get z hz n (j - z.length) (by rw [Nat.succ_mul] at hj; omega)]
      rw [Nat.mod_eq_sub_mod (show z.length ≤ j by omega)]
theorem repl_len (z : List AV) : ∀ n, (repl n z).length = n * z.length
  | 0 => by simp [repl]
  | n + 1 => by simp [repl, repl_len z n, Nat.succ_mul, Nat.add_comm]
theorem repl_all (z : List AV) (hz : z.all AV.one = true) : ∀ n, (repl n z).all AV.one = true
  | 0 => rfl
  | n + 1 => by simp only [repl, List.all_append, hz, repl_all z hz n]; rfl

theorem repl_vr {z : List AV} {zc : Array Value} (hz : 0 < z.length) (hv : VRs R z zc.toList) (n : Nat) : VRs R (repl n z) ((Array.range (n * z.length)).map (zc[· % zc.size]!)).toList := by
  have hl := hv.length
  refine VRs.of_get (by simp [repl_len]) ?_
  intro j x y hx hy
  have hj : j < n * z.length := by rw [← repl_len]; exact (List.getElem?_eq_some_iff.1 hx).1
  rw [repl_get z hz n j hj] at hx
  obtain ⟨c, hc, hvr⟩ := hv.get _ _ hx
  have hzs : zc.size = z.length := by rw [hl]; simp
  simp [hj] at hy
  have hm : j % zc.size < zc.size := Nat.mod_lt _ (by omega)
  rw [Array.getElem?_toList, ← hzs] at hc
  rw [← hy]
  rw [getElem!_pos zc (j % zc.size) hm]
  rw [Array.getElem?_eq_getElem hm] at hc
  cases hc; exact hvr

theorem lay_all : ∀ (qs : List (Nat × Nat × Opd)) (z l : List AV), lay z fr qs = some l → z.all AV.one = true → l.all AV.one = true ∧ l.length = z.length
  | [], z, l, hl, h1 => by simp only [lay] at hl; cases hl; exact ⟨h1, rfl⟩
  | (o, n, y) :: qs, z, l, hl, h1 => by
    simp only [lay] at hl
    split at hl
    · rename_i hh
      obtain ⟨g1, g2⟩ := lay_all qs _ _ hl (splice_all _ _ _ h1 hh.2.2)
      exact ⟨g1, by rw [g2, splice_len _ _ _ (by omega)]⟩
    · cases hl

theorem s_row (hw : WR P.globals.size R h w) (hf : FRel R fr a) {t e : TypeId} {n sz : Nat} {ps : Array (Nat × Operand)} {z : AV} {l : List AV} {qs : List (Nat × Nat × Opd)} (ho : o.op = .buildSlice t n ps)
    (hu : P.underlying t = some (.slice e)) (hs : szT P e = some sz) (hz : zeroT P e = some z) (hzl : z.cells.length = sz) (hone : z.cells.all AV.one = true) (hbig : n * sz ≤ 16777216) (h0 : 0 < sz)
    (hq : partsA P sz ps.toList = some qs) (hl : lay (repl n z.cells) fr qs = some l) : StepsTo P o a R h w (.slice h.nx 0 0 n sz true) (h.new l) := by
  obtain ⟨v, hrun, hvr, hcs⟩ := zeroT_run (R := R) hz
  obtain ⟨hlall, hll⟩ := lay_all qs _ _ hl (repl_all _ hone n)
  rw [repl_len, hzl] at hll
  have hvs : v.cells.size = sz := by have := hcs.length; rw [hzl] at this; simpa using this.symm
  have hbase : VRs R (repl n z.cells) ((Array.range (n * sz)).map ((if n * sz = 0 then #[] else v.cells)[· % (if n * sz = 0 then #[] else v.cells).size]!)).toList := by
    by_cases hn : n * sz = 0
    · have : n = 0 := by cases n with | zero => rfl | succ n => rw [Nat.succ_mul] at hn; omega
      subst this
      simp [repl]; exact .nil
    · rw [if_neg hn]
      have := repl_vr (R := R) (z := z.cells) (by omega) hcs n
      rw [hzl] at this
      exact this
  obtain ⟨out, hout, hvo⟩ := fill_sound (fun x y hc => opd_sound hw hf hc) _ ps.toList qs _ l _ (partsA_ok sz ps.toList qs hq) hl hbase
  have hol : out.size = n * sz := by have := hvo.length; rw [hll] at this; simpa using this.symm
  refine ⟨_, _, new_cells hw l out e (0, 0) (fun j _ => by simp) (by omega) hlall (fun j x hx => by simpa using hvo.get j x hx), .inl ⟨.slice (some ⟨w.heap.size, 0, none⟩) n n, ?_, ?_⟩⟩
  · have hout' : Instr.fill (fun i => some (i * sz, sz)) ((Array.range (n * sz)).map ((if n * sz = 0 then #[] else v.cells)[· % (if n * sz = 0 then #[] else v.cells).size]!)) ((ps.map fun (i, x) => (i, a.eval x)).toList) = some out := by
      rw [Array.toList_map]; exact hout
    simp only [execOp, ho, Instr.buildSlice, Sem.run_bind, run_underlying hu, Result.andThen_ok, szT_run hs, Sem.run_ite]
    rw [if_neg (by omega)]
    by_cases hn : n * sz = 0
    · rw [if_pos hn] at hout'
      simp only [hn, if_true, Sem.run_pure, Result.andThen_ok]
      rw [hn] at hout'
      simp only [hout']
      simp [newRow, World.mk1]
    · rw [if_neg hn] at hout'
      simp only [hn, if_false, hrun, Sem.run_pure, Result.andThen_ok]
      simp only [hout']
      simp [newRow, World.mk1]
  · have := VR.slice (R := R.add h.nx 0 w.heap.size 0 out.size l.length) h.nx 0 0 n sz w.heap.size 0 out.size l.length n true add_c_self (by omega) (Nat.le_refl _) (by omega) (fun _ => rfl) h0
    simpa using this

theorem s_load (hw : WR P.globals.size R h w) (hf : FRel R fr a) {t : TypeId} {x : Operand} {x' : Opd} {y : AV} (ho : o.op = .load t x) (hc : opdC P x = some x') (ha : aggT P t = some false) (hr : rd h (opd fr x') = some y) : StepsTo P o a R h w y h := by
  obtain ⟨b, of, v, hp, hcell, hvr⟩ := rd_sound hw hr (opd_sound hw hf hc)
  refine st_val hw (v := v) ?_ hvr
  simp [execOp, ho, hp, Instr.loadAt, Instr.sureAddr, loadVar, aggT_run ha, hcell]

theorem s_loadN (hw : WR P.globals.size R h w) (hf : FRel R fr a) {t : TypeId} {x : Operand} {x' : Opd} {n : Nat} {y : List AV} (ho : o.op = .load t x) (hc : opdC P x = some x') (ha : aggT P t = some true) (hn : szT P t = some n)
    (hr : rdN h (opd fr x') n = some y) : StepsTo P o a R h w (.agg y) h := by
  obtain ⟨b, of, cs, hp, hl, hcell, hvr⟩ := rdN_sound hw hr (opd_sound hw hf hc)
  have hrun := run_loadCells_list (P := P) w ⟨b, of, none⟩ cs hcell
  rw [hl] at hrun
  refine st_val hw (v := .agg cs.toArray) ?_ (.agg _ _ (by simpa using hvr))
  simp [execOp, ho, hp, Instr.loadAt, Instr.sureAddr, loadVar, aggT_run ha, szT_run hn, hrun]

theorem wr_len {p : AV} {x : List AV} (hr : wr h p x = some h') : x.all AV.one = true := by
  unfold wr at hr
  split at hr
  · split at hr
    · split at hr
      · rename_i hh; exact hh.2.2.2
      · cases hr
    · cases hr
  · cases hr

theorem s_store (hw : WR P.globals.size R h w) (hf : FRel R fr a) {t : TypeId} {x y : Operand} {x' y' : Opd} {n : Nat} (ho : o.op = .store t x y) (hn : szT P t = some n) (hc : opdC P x = some x') (hd : opdC P y = some y')
    (hl : (opd fr y').cells.length = n) (hr : wr h (opd fr x') (opd fr y').cells = some h') : StepsTo P o a R h w (.tup []) h' := by
  have hone := wr_len hr
  have hy := (opd_sound hw hf hd).cells (cells_ne hone)
  obtain ⟨b, of, w', hp, hrun, hgo⟩ := wr_sound P hw hr (opd_sound hw hf hc) hy
  have hcs : (a.eval y).cells.size = n := by rw [← hl, hy.length]; simp
  refine ⟨R, w', hgo, .inr ⟨?_, .tup _ _ .nil⟩⟩
  simp [execOp, ho, hp, Instr.storeAt, Instr.sureAddr, storeVar, szT_run hn, hcs, hrun]

theorem s_nilck (hw : WR P.globals.size R h w) (hf : FRel R fr a) {x : Operand} {x' : Opd} (ho : o.op = .nilCheck x) (hc : opdC P x = some x') (hr : (∃ i v k, opd fr x' = .ptr i v k) ∨ ∃ f l m, opd fr x' = .func f l m) : StepsTo P o a R h w (opd fr x') h := by
  have hv := opd_sound hw hf hc
  refine st_val hw (v := a.eval x) ?_ hv
  rcases hr with ⟨i, v, k, e⟩ | ⟨f, l, m, e⟩
  · rw [e] at hv
    generalize he : a.eval x = u at hv
    cases hv
    simp [execOp, ho, he]
  · rw [e] at hv
    generalize he : a.eval x = u at hv
    cases hv
    simp [execOp, ho, he]
end
end Go.Kx
/- THE ENGINE, part 12: the single operations, one by one (second half). -/
namespace Go.Kx
open Go
section
variable {R : Rl} {h h' : H} {w : World} {P : Program} {o : Oper} {a : Act} {fr : List AV}

inductive EP : AV → AV → Prop
  | bool (a b) : EP (.bool a) (.bool b)
  | int (k j a b) : EP (.int k a) (.int j b)
  | str (a b) : EP (.str a) (.str b)
  | p1 : EP .nil .nil
  | p2 (i v o) : EP .nil (.ptr i v o)
  | p3 (i v o) : EP (.ptr i v o) .nil
  | p4 (i v o j u p) : EP (.ptr i v o) (.ptr j u p)
  | s1 : EP .nilS .nilS
  | s2 (a b c d e f) : EP .nilS (.slice a b c d e f)
  | s3 (a b c d e f) : EP (.slice a b c d e f) .nilS
  | m1 : EP .nilM .nilM
  | m2 (i) : EP .nilM (.map i)
  | m3 (i) : EP (.map i) .nilM
  | f1 : EP .nilF .nilF
  | f2 (f a b) : EP .nilF (.func f a b)
  | f3 (f a b) : EP (.func f a b) .nilF
  | agg (a b) : EP (.agg a) (.agg b)

theorem ep_of {e : EqT} {x y : AV} {b : Bool} (he : eqV e x y = some b) : EP x y := by
  unfold eqV at he
  split at he
  · unfold eqK at he
    split at he <;> first | (cases he; done) | constructor
  · constructor
  · cases he

theorem run_eqlT {t : TypeId} {x y : AV} {u v : Value} {b : Bool} (w : World) (hx : VR R x u) (hy : VR R y v) (he : eqV (eqT P t) x y = some b) (hi : ∀ k i m j, ¬ (x = .int k i ∧ y = .int m j)) (hs : ∀ i j, ¬ (x = .str i ∧ y = .str j)) :
    (binOp .eql t u v).run P w = .ok (.bool b) w ∧ (binOp .neq t u v).run P w = .ok (.bool !b) w := by
  have hrun := run_eqT w hx hy he
  cases ep_of he
  case int => exact absurd ⟨rfl, rfl⟩ (hi _ _ _ _)
  case str => exact absurd ⟨rfl, rfl⟩ (hs _ _)
  all_goals (cases hx <;> cases hy <;> simp [binOp, hrun])

theorem bytes_lt (a b : ByteArray) : Op.bytesLess a.toList b.toList = Op.bytesLess a.data.toList b.data.toList := by rw [ByteArray.toList_eq, ByteArray.toList_eq]

theorem bin_sound {op : BinOp} {t : TypeId} {x y z : AV} {u v : Value} (p q : Operand) (w : World) (hx : VR R x u) (hy : VR R y v)
    (hr : binA op (eqO P op t) x y = some z) : ∃ r, (do eqGuard op t p q u v; binOp op t u v : Sem Value).run P w = .ok r w ∧ VR R z r := by
  unfold binA at hr
  split at hr
  · -- two numbers
    rename_i k i m j
    cases hx; cases hy
    have guard : (eqGuard op t p q (.int k i) (.int m j)).run P w = .ok () w := by cases op <;> simp [eqGuard]
    simp only [Sem.run_bind, guard, Result.andThen_ok]
    cases op <;> simp only at hr <;> split at hr <;> (try (cases hr; done))
    case add.isTrue hh => cases hr; subst hh; exact ⟨_, by simp [binOp, Op.intArith], .int _ _⟩
    case sub.isTrue hh => cases hr; subst hh; exact ⟨_, by simp [binOp, Op.intArith], .int _ _⟩
    case mul.isTrue hh => cases hr; subst hh; exact ⟨_, by simp [binOp, Op.intArith], .int _ _⟩
    case quo.isTrue hh => obtain ⟨rfl, h0⟩ := hh; cases hr; exact ⟨_, by simp [binOp, Op.intDiv, h0], .int _ _⟩
    case rem.isTrue hh => obtain ⟨rfl, h0⟩ := hh; cases hr; exact ⟨_, by simp [binOp, Op.intDiv, h0], .int _ _⟩
    case and.isTrue hh => cases hr; subst hh; exact ⟨_, by simp [binOp, Op.intBits], .int _ _⟩
    case or.isTrue hh => cases hr; subst hh; exact ⟨_, by simp [binOp, Op.intBits], .int _ _⟩
    case xor.isTrue hh => cases hr; subst hh; exact ⟨_, by simp [binOp, Op.intBits], .int _ _⟩
    case andNot.isTrue hh => cases hr; subst hh; exact ⟨_, by simp [binOp, Op.intBits], .int _ _⟩
    case shl.isFalse hh => cases hr; exact ⟨_, by simp [binOp, Op.shift, hh], .int _ _⟩
    case shr.isFalse hh => cases hr; exact ⟨_, by simp [binOp, Op.shift, hh], .int _ _⟩
    case eql.isTrue hh => cases hr; subst hh; exact ⟨_, by simp [binOp, Op.intCmp], .bool _⟩
    case neq.isTrue hh => cases hr; subst hh; exact ⟨_, by simp [binOp, Op.intCmp], .bool _⟩
    case lss.isTrue hh => cases hr; subst hh; exact ⟨_, by simp [binOp, Op.intCmp], .bool _⟩
    case leq.isTrue hh => cases hr; subst hh; exact ⟨_, by simp [binOp, Op.intCmp], .bool _⟩
    case gtr.isTrue hh => cases hr; subst hh; exact ⟨_, by simp [binOp, Op.intCmp], .bool _⟩
    case geq.isTrue hh => cases hr; subst hh; exact ⟨_, by simp [binOp, Op.intCmp], .bool _⟩
  · -- two strings
    rename_i i j
    cases hx with
    | str _ s hs =>
    cases hy with
    | str _ s' hs' =>
    have guard : (eqGuard op t p q (.string s) (.string s')).run P w = .ok () w := by cases op <;> simp [eqGuard]
    simp only [Sem.run_bind, guard, Result.andThen_ok]
    have e1 : s.toList = i := by rw [ByteArray.toList_eq]; exact hs
    have e2 : s'.toList = j := by rw [ByteArray.toList_eq]; exact hs'
    have e3 : s.size = i.length := by rw [← hs]; exact Array.length_toList.symm
    have e4 : s'.size = j.length := by rw [← hs']; exact Array.length_toList.symm
    cases op <;> simp only at hr <;> try (cases hr; done)
    case add =>
      split at hr
      · rename_i hh
        cases hr
        refine ⟨.string (s ++ s'), ?_, .str _ _ (by rw [← hs, ← hs']; simp)⟩
        have : ¬ ((s.size + s'.size : Nat) : Int) > IntKind.i64.max := by
          rw [e3, e4]
          have : IntKind.i64.max = 9223372036854775807 := rfl
          omega
        simp only [binOp, Op.stringOp, Sem.run_ite]
        rw [if_neg this]
        rfl
      · cases hr
    all_goals
      cases hr
      exact ⟨_, by simp [binOp, Op.stringOp, e1, e2], .bool _⟩
  · -- by the type
    rename_i hni hns
    split at hr
    · simp only [eqO] at hr
      cases he : eqV (eqT P t) x y with
      | none => rw [he] at hr; cases hr
      | some b =>
        rw [he] at hr; cases hr
        refine ⟨.bool b, ?_, .bool b⟩
        simp only [Sem.run_bind, run_eqGuardT .eql p q w hx hy he, Result.andThen_ok]
        exact (run_eqlT w hx hy he (fun k i m j hh => hni k i m j hh.1 hh.2) (fun i j hh => hns i j hh.1 hh.2)).1
    · simp only [eqO] at hr
      cases he : eqV (eqT P t) x y with
      | none => rw [he] at hr; cases hr
      | some b =>
        rw [he] at hr; cases hr
        refine ⟨.bool !b, ?_, .bool _⟩
        simp only [Sem.run_bind, run_eqGuardT .neq p q w hx hy he, Result.andThen_ok]
        exact (run_eqlT w hx hy he (fun k i m j hh => hni k i m j hh.1 hh.2) (fun i j hh => hns i j hh.1 hh.2)).2
    · cases hr

theorem s_bin (hw : WR P.globals.size R h w) (hf : FRel R fr a) {op : BinOp} {t yt : TypeId} {x y : Operand} {x' y' : Opd} {z : AV} (ho : o.op = .binOp op t x y yt) (hc : opdC P x = some x') (hd : opdC P y = some y')
    (hr : binA op (eqO P op t) (opd fr x') (opd fr y') = some z) : StepsTo P o a R h w z h := by
  obtain ⟨r, hrun, hv⟩ := bin_sound (P := P) (R := R) x y w (opd_sound hw hf hc) (opd_sound hw hf hd) hr
  refine st_val hw (v := r) ?_ hv
  simp only [execOp, ho]
  rw [Sem.run_bind, hrun]
  rfl

theorem s_un (hw : WR P.globals.size R h w) (hf : FRel R fr a) {op : UnOp} {t : TypeId} {x : Operand} {x' : Opd} {z : AV} (ho : o.op = .unOp op t x) (hc : opdC P x = some x') (hr : unA op (opd fr x') = some z) : StepsTo P o a R h w z h := by
  have hv := opd_sound hw hf hc
  unfold unA at hr
  split at hr
  · rename_i k n hx
    cases hr; rw [hx] at hv
    generalize he : a.eval x = u at hv
    cases hv
    exact st_val hw (v := .int k (k.wrap (0 - n))) (by simp [execOp, ho, he, Op.unary, Op.intArith]) (.int _ _)
  · rename_i k n hx
    cases hr; rw [hx] at hv
    generalize he : a.eval x = u at hv
    cases hv
    exact st_val hw (v := .int k _) (by simp [execOp, ho, he, Op.unary, Op.intBits]) (.int _ _)
  · rename_i b hx
    cases hr; rw [hx] at hv
    generalize he : a.eval x = u at hv
    cases hv
    exact st_val hw (v := .bool !b) (by simp [execOp, ho, he, Op.unary]) (.bool _)
  · cases hr
end
end Go.Kx
/- THE ENGINE, part 13: the single operations, one by one (third part). -/
namespace Go.Kx
open Go
section
variable {R : Rl} {h h' : H} {w : World} {P : Program} {o : Oper} {a : Act} {fr : List AV}

theorem s_convInt (hw : WR P.globals.size R h w) (hf : FRel R fr a) {s d : TypeId} {x : Operand} {x' : Opd} {k k0 j : IntKind} {n : Int} (ho : o.op = .convert s d x) (hc : opdC P x = some x') (hs : P.underlying s = some (.int k0)) (hd : P.underlying d = some (.int k))
    (hx : opd fr x' = .int j n) : StepsTo P o a R h w (.int k (k.wrap n)) h := by
  have hv := opd_sound hw hf hc
  rw [hx] at hv
  generalize he : a.eval x = u at hv
  cases hv
  exact st_val hw (v := .int k (k.wrap n)) (by simp [execOp, ho, he, convert, run_underlying hs, run_underlying hd, Conv.intToInt]) (.int _ _)

theorem s_convId (hw : WR P.globals.size R h w) (hf : FRel R fr a) {s d : TypeId} {x : Operand} {x' : Opd} {l : List UInt8} (ho : o.op = .convert s d x) (hc : opdC P x = some x') (hs : P.underlying s = some .string) (hd : P.underlying d = some .string)
    (hx : opd fr x' = .str l) : StepsTo P o a R h w (.str l) h := by
  have hv := opd_sound hw hf hc
  rw [hx] at hv
  generalize he : a.eval x = u at hv
  cases hv with
  | str _ b hb => exact st_val hw (v := .string b) (by simp [execOp, ho, he, convert, run_underlying hs, run_underlying hd]) (.str _ _ hb)

theorem s_mkfunc (hw : WR P.globals.size R h w) (hf : FRel R fr a) {f : FuncId} {x y : Array Operand} {x' y' : List Opd} (ho : o.op = .makeFunc (.func f) x y) (hc : opdsC P x.toList = some x') (hd : opdsC P y.toList = some y') :
    StepsTo P o a R h w (.func f (x'.map (opd fr)) (y'.map (opd fr))) h :=
  st_val hw (v := .func (.func f) (x.map a.eval) (y.map a.eval)) (by simp [execOp, ho, Instr.makeFunc]) (.func _ _ _ _ _ (by simpa using opds_sound hw hf hc) (by simpa using opds_sound hw hf hd))

theorem s_mkmap (hw : WR P.globals.size R h w) {t : TypeId} (ho : o.op = .makeMap t none) : StepsTo P o a R h w (.map h.nx) h.newm :=
  ⟨_, _, new_map hw, .inl ⟨.map (some w.heap.size), by simp [execOp, ho, Instr.makeMap, World.mk1], .map _ _ (if_pos rfl)⟩⟩

theorem asInt_run {k : IntKind} {n : Int} (w : World) : (asInt (.int k n)).run P w = .ok n w := by simp [asInt, asIntOf]

theorem wrap64_id {n : Nat} (hn : n ≤ 9223372036854775807) : IntKind.i64.wrap (n : Int) = (n : Int) := by
  have h1 : (2 : Int) ^ IntKind.i64.bits = 18446744073709551616 := rfl
  have h2 : (2 : Int) ^ (IntKind.i64.bits - 1) = 9223372036854775808 := rfl
  unfold IntKind.wrap
  simp only [h1, h2]
  have h3 : (n : Int) % 18446744073709551616 = n := Int.emod_eq_of_lt (by omega) (by omega)
  rw [h3]
  have h4 : ¬ ((n : Int) ≥ 9223372036854775808) := by omega
  simp [h4]

theorem s_mksl (hw : WR P.globals.size R h w) (hf : FRel R fr a) {t e : TypeId} {l c : Operand} {l' c' : Opd} {sz b n m : Nat} {z : AV} (ho : o.op = .makeSlice t l c) (hu : P.underlying t = some (.slice e)) (hc : opdC P l = some l') (hd : opdC P c = some c')
    (hs : szT P e = some sz) (hb : byT P e = some b) (hz : zeroT P e = some z) (hzl : z.cells.length = sz) (hone : z.cells.all AV.one = true) (h0 : 0 < sz) (hb0 : 0 < b) (hn : asNat (opd fr l') = some n) (hm : asNat (opd fr c') = some m)
    (hnm : n ≤ m) (hroom : m * b ≤ roomB) : StepsTo P o a R h w (.slice h.nx 0 0 n sz (n == m)) (h.new (repl m z.cells)) := by
  obtain ⟨k1, e1⟩ := asNat_int hn (opd_sound hw hf hc)
  obtain ⟨k2, e2⟩ := asNat_int hm (opd_sound hw hf hd)
  obtain ⟨v, hrun, hvr, hcs⟩ := zeroT_run (R := R) hz
  obtain ⟨i, hi, hib⟩ := byT_run hb
  have hvs : v.cells.size = sz := by have := hcs.length; rw [hzl] at this; simpa using this.symm
  have hm63 : m ≤ 9223372036854775807 := by
    have : m ≤ m * b := Nat.le_mul_of_pos_right _ hb0
    unfold roomB at hroom; omega
  have hbm : (b : Int) * (m : Int) ≤ 281474976710656 := by
    have : ((m * b : Nat) : Int) ≤ 140737488355328 := by unfold roomB at hroom; omega
    rw [Int.natCast_mul, Int.mul_comm] at this; omega
  have hrep := repl_vr (R := R) (z := z.cells) (by omega) hcs m
  rw [hzl] at hrep
  refine ⟨_, _, new_cells hw (repl m z.cells) ((Array.range (m * sz)).map (v.cells[· % v.cells.size]!)) e (0, 0) (fun j _ => by simp) (by simp [repl_len, hzl]) (repl_all _ hone m) (fun j x hx => by obtain ⟨y, h1, h2⟩ := hrep.get j x hx; exact ⟨y, by rw [← Array.getElem?_toList]; exact h1, h2⟩),
    .inl ⟨.slice (some ⟨w.heap.size, 0, none⟩) n m, ?_, ?_⟩⟩
  · have hszr : (sizeOf e).run P w = .ok sz w := szT_run hs w
    have h48 : ¬ ((b : Int) * (m : Int) > 2 ^ 48) := by omega
    have hw1 := wrap64_id (n := n) (by omega)
    have hw2 := wrap64_id hm63
    simp only [execOp, ho, e1, e2, Instr.makeSlice, Sem.run_bind, run_underlying hu, Result.andThen_ok, asInt_run]
    have hinfo : (typeInfo e).run P w = .ok i w := by simp [typeInfo, hi]
    simp only [hinfo, Result.andThen_ok, hw1, hw2, hib]
    have hcond : ((decide ((m : Int) < 0) || decide ((b : Int) * (m : Int) > 2 ^ 48)) || decide ((n : Int) < 0) || decide ((n : Int) > (m : Int))) = false := by
      simp only [Bool.or_eq_false_iff, decide_eq_false_iff_not]
      exact ⟨⟨⟨by omega, h48⟩, by omega⟩, by omega⟩
    rw [if_neg (by rw [hcond]; simp)]
    simp only [Sem.run_bind, run_askRoom, hszr, Result.andThen_ok, Int.toNat_natCast, Sem.run_ite]
    by_cases h00 : m * sz = 0
    · rw [if_pos h00]
      simp [h00, newRow, World.mk1]
      have h0r : Array.range 0 = #[] := by simp [Array.range]
      rw [h0r]; simp
    · rw [if_neg h00]
      simp [hrun, newRow, World.mk1]
  · have := VR.slice (R := R.add h.nx 0 w.heap.size 0 ((Array.range (m * sz)).map (v.cells[· % v.cells.size]!)).size (repl m z.cells).length) h.nx 0 0 n sz w.heap.size 0 _ _ m (n == m) add_c_self
      (by rw [repl_len, hzl, Nat.zero_add]; exact Nat.mul_le_mul_right _ hnm) hnm (by simp) (by intro hh; exact (beq_iff_eq.1 hh).symm) h0
    simpa using this

theorem s_faddr (hw : WR P.globals.size R h w) (hf : FRel R fr a) {t : TypeId} {x : Operand} {x' : Opd} {f : Nat} {fd : Field} {n i v k : Nat} (ho : o.op = .fieldAddr t x f) (hc : opdC P x = some x') (hfd : fieldT P t f = some fd) (hn : szT P fd.type = some n) (hn0 : n ≠ 0)
    (hx : opd fr x' = .ptr i v k) : StepsTo P o a R h w (.ptr i v (k + fd.offset)) h := by
  have hv := opd_sound hw hf hc
  rw [hx] at hv
  generalize he : a.eval x = u at hv
  cases hv with
  | ptr _ _ _ b sh ps L hh =>
  unfold fieldT at hfd
  split at hfd
  · rename_i fs hu
    refine st_val hw (v := .pointer (some ⟨b, sh + (k + fd.offset), none⟩)) ?_ (.ptr _ _ _ _ _ _ _ hh)
    simp [execOp, ho, he, Instr.fieldAt, run_underlying hu, hfd, Instr.sureAddr, fieldPlace, szT_run hn, hn0, add_none, Nat.add_assoc]
  · cases hfd

theorem s_field (hw : WR P.globals.size R h w) (hf : FRel R fr a) {t : TypeId} {x : Operand} {x' : Opd} {f : Nat} {fd : Field} {l : List AV} {y : AV} (ho : o.op = .field t x f) (hc : opdC P x = some x') (hfd : fieldT P t f = some fd) (ha : aggT P fd.type = some false)
    (hx : opd fr x' = .agg l) (hy : l[fd.offset]? = some y) : StepsTo P o a R h w y h := by
  have hv := opd_sound hw hf hc
  rw [hx] at hv
  generalize he : a.eval x = u at hv
  cases hv with
  | agg _ cs hcs =>
  unfold fieldT at hfd
  split at hfd
  · rename_i fs hu
    obtain ⟨v, hv, hvr⟩ := hcs.get _ _ hy
    rw [Array.getElem?_toList] at hv
    exact st_val hw (v := v) (by simp [execOp, ho, he, Instr.field, run_underlying hu, hfd, asAgg, part, aggT_run ha, hv]) hvr
  · cases hfd

theorem s_fieldN (hw : WR P.globals.size R h w) (hf : FRel R fr a) {t : TypeId} {x : Operand} {x' : Opd} {f n : Nat} {fd : Field} {l y : List AV} (ho : o.op = .field t x f) (hc : opdC P x = some x') (hfd : fieldT P t f = some fd) (ha : aggT P fd.type = some true) (hn : szT P fd.type = some n)
    (hx : opd fr x' = .agg l) (hy : cut l fd.offset n = some y) : StepsTo P o a R h w (.agg y) h := by
  have hv := opd_sound hw hf hc
  rw [hx] at hv
  generalize he : a.eval x = u at hv
  cases hv with
  | agg _ cs hcs =>
  unfold fieldT at hfd
  split at hfd
  · rename_i fs hu
    obtain ⟨_, rfl⟩ := cut_eq hy
    refine st_val hw (v := .agg (cs.extract fd.offset (fd.offset + n))) (by simp [execOp, ho, he, Instr.field, run_underlying hu, hfd, asAgg, part, aggT_run ha, szT_run hn]) (.agg _ _ ?_)
    have := (hcs.drop fd.offset).take n
    simpa using this
  · cases hfd

theorem s_iaddr (hw : WR P.globals.size R h w) (hf : FRel R fr a) {t e : TypeId} {x i : Operand} {x' i' : Opd} {sz j v k n m : Nat} {full : Bool} (ho : o.op = .indexAddr t x i) (hu : P.underlying t = some (.slice e)) (hc : opdC P x = some x') (hd : opdC P i = some i') (hs : szT P e = some sz)
    (hx : opd fr x' = .slice j v k n sz full) (hm : asNat (opd fr i') = some m) (hlt : m < n) : StepsTo P o a R h w (.ptr j v (k + m * sz)) h := by
  have hv := opd_sound hw hf hc
  obtain ⟨kk, e1⟩ := asNat_int hm (opd_sound hw hf hd)
  rw [hx] at hv
  generalize he : a.eval x = u at hv
  cases hv with
  | slice _ _ _ _ _ b sh ps L cap _ hh hl hcp hp hff hz =>
    refine st_val hw (v := .pointer (some ⟨b, sh + (k + m * sz), none⟩)) ?_ (.ptr _ _ _ _ _ _ _ hh)
    have h1 : (0 : Int) ≤ (m : Int) ∧ (m : Int) < (n : Int) := by omega
    simp [execOp, ho, he, e1, Instr.indexAt, asIntOf, run_underlying hu, szT_run hs, add_none, hlt, Nat.add_assoc]
  | slice0 _ _ _ _ b sh ps L _ aa hh hl hz => omega

theorem s_iaddrA (hw : WR P.globals.size R h w) (hf : FRel R fr a) {t e : TypeId} {x i : Operand} {x' i' : Opd} {sz j v k n m : Nat} (ho : o.op = .indexAddr t x i) (hu : P.underlying t = some (.array n e)) (hc : opdC P x = some x') (hd : opdC P i = some i') (hs : szT P e = some sz)
    (hx : opd fr x' = .ptr j v k) (hm : asNat (opd fr i') = some m) (hlt : m < n) : StepsTo P o a R h w (.ptr j v (k + m * sz)) h := by
  have hv := opd_sound hw hf hc
  obtain ⟨kk, e1⟩ := asNat_int hm (opd_sound hw hf hd)
  rw [hx] at hv
  generalize he : a.eval x = u at hv
  cases hv with
  | ptr _ _ _ b sh ps L hh =>
    refine st_val hw (v := .pointer (some ⟨b, sh + (k + m * sz), none⟩)) ?_ (.ptr _ _ _ _ _ _ _ hh)
    simp [execOp, ho, he, e1, Instr.indexAt, Instr.sureAddr, asIntOf, run_underlying hu, szT_run hs, add_none, hlt, Nat.add_assoc]

theorem s_idxS (hw : WR P.globals.size R h w) (hf : FRel R fr a) {t : TypeId} {x i : Operand} {x' i' : Opd} {s : List UInt8} {m : Nat} {b : UInt8} (ho : o.op = .index t x i) (hu : P.underlying t = some .string) (hc : opdC P x = some x') (hd : opdC P i = some i')
    (hx : opd fr x' = .str s) (hm : asNat (opd fr i') = some m) (hb : s[m]? = some b) : StepsTo P o a R h w (.int .u8 b.toNat) h := by
  have hv := opd_sound hw hf hc
  obtain ⟨kk, e1⟩ := asNat_int hm (opd_sound hw hf hd)
  rw [hx] at hv
  generalize he : a.eval x = u at hv
  cases hv with
  | str _ c hcs =>
    have hlt : m < c.size := by
      have := (List.getElem?_eq_some_iff.1 hb).1
      rw [← hcs] at this; exact (by simpa using this : m < c.data.size)
    have hcb : c[m]? = some b := by
      rw [getElem?_pos c m hlt]
      have h1 := hb
      rw [← hcs, Array.getElem?_toList, Array.getElem?_eq_getElem hlt] at h1
      exact h1
    exact st_val hw (v := .int .u8 b.toNat) (by simp [execOp, ho, he, e1, Instr.index, asIntOf, run_underlying hu, hcb]) (.int _ _)

theorem s_idxA (hw : WR P.globals.size R h w) (hf : FRel R fr a) {t e : TypeId} {x i : Operand} {x' i' : Opd} {l : List AV} {n m : Nat} {y : AV} (ho : o.op = .index t x i) (hu : P.underlying t = some (.array n e)) (hc : opdC P x = some x') (hd : opdC P i = some i')
    (ha : aggT P e = some false) (hs : szT P e = some 1) (hx : opd fr x' = .agg l) (hm : asNat (opd fr i') = some m) (hlt : m < n) (hy : l[m]? = some y) : StepsTo P o a R h w y h := by
  have hv := opd_sound hw hf hc
  obtain ⟨kk, e1⟩ := asNat_int hm (opd_sound hw hf hd)
  rw [hx] at hv
  generalize he : a.eval x = u at hv
  cases hv with
  | agg _ cs hcs =>
    obtain ⟨v, hv, hvr⟩ := hcs.get _ _ hy
    rw [Array.getElem?_toList] at hv
    exact st_val hw (v := v) (by simp [execOp, ho, he, e1, Instr.index, asIntOf, run_underlying hu, hlt, szT_run hs, part, aggT_run ha, hv]) hvr

theorem s_idxAN (hw : WR P.globals.size R h w) (hf : FRel R fr a) {t e : TypeId} {x i : Operand} {x' i' : Opd} {l y : List AV} {n m sz : Nat} (ho : o.op = .index t x i) (hu : P.underlying t = some (.array n e)) (hc : opdC P x = some x') (hd : opdC P i = some i')
    (ha : aggT P e = some true) (hs : szT P e = some sz) (hx : opd fr x' = .agg l) (hm : asNat (opd fr i') = some m) (hlt : m < n) (hy : cut l (m * sz) sz = some y) : StepsTo P o a R h w (.agg y) h := by
  have hv := opd_sound hw hf hc
  obtain ⟨kk, e1⟩ := asNat_int hm (opd_sound hw hf hd)
  rw [hx] at hv
  generalize he : a.eval x = u at hv
  cases hv with
  | agg _ cs hcs =>
    obtain ⟨_, rfl⟩ := cut_eq hy
    refine st_val hw (v := .agg (cs.extract (m * sz) (m * sz + sz))) (by simp [execOp, ho, he, e1, Instr.index, asIntOf, run_underlying hu, hlt, szT_run hs, part, aggT_run ha]) (.agg _ _ ?_)
    have := (hcs.drop (m * sz)).take sz
    simpa using this

theorem s_ext (hw : WR P.globals.size R h w) (hf : FRel R fr a) {x : Operand} {x' : Opd} {i : Nat} {l : List AV} {y : AV} (ho : o.op = .extract x i) (hc : opdC P x = some x') (hx : opd fr x' = .tup l) (hy : l[i]? = some y) : StepsTo P o a R h w y h := by
  have hv := opd_sound hw hf hc
  rw [hx] at hv
  generalize he : a.eval x = u at hv
  cases hv with
  | tup _ cs hcs =>
    obtain ⟨v, hv, hvr⟩ := hcs.get _ _ hy
    rw [Array.getElem?_toList] at hv
    exact st_val hw (v := v) (by simp [execOp, ho, he, Instr.extract, hv]) hvr
end
end Go.Kx
/- THE ENGINE, part 14: slices of slices, maps, append, copy, len, calls. -/
namespace Go.Kx
open Go
section
variable {R : Rl} {h h' : H} {w : World} {P : Program} {o : Oper} {a : Act} {fr : List AV}

/- slicing -/
theorem run_bnd {v : Value} {k : IntKind} {n y : Nat} (hv : v = .int k (n : Int)) (hle : n ≤ y) (code : BoundsCode) : (Instr.sliceBound v y code).run P w = .ok n w := by
  subst hv
  rw [run_sliceBound w k n y code (by omega) (by omega)]; simp

/- the bounds, as the operands give them -/
structure Bnd (lo hi mx : Option Value) (n : Nat) (l h : Nat) (m : Option Nat) : Prop where
  q1 : (lo = none ∧ l = 0) ∨ ∃ v k, lo = some v ∧ v = Value.int k (l : Int)
  q2 : (hi = none ∧ h = n) ∨ ∃ v k, hi = some v ∧ v = Value.int k (h : Int)
  q3 : (mx = none ∧ m = none) ∨ ∃ (v : Value) (k : IntKind) (j : Nat), mx = some v ∧ v = Value.int k (j : Int) ∧ m = some j ∧ hi ≠ none

theorem run_bounds {lo hi mx : Option Value} {n l h' : Nat} {m : Option Nat} (b : Bnd lo hi mx n l h' m) (isS : Bool) (cap : Nat) (h1 : l ≤ h') (h2 : h' ≤ m.getD cap) (h3 : m.getD cap ≤ cap) :
    (Instr.sliceBounds isS n cap lo hi mx).run P w = .ok (l, h', m.getD cap) w := by
  obtain ⟨hl, hh, hm⟩ := b
  unfold Instr.sliceBounds
  rcases hm with ⟨rfl, rfl⟩ | ⟨vm, km, j, rfl, em, rfl, hne⟩ <;> rcases hh with ⟨rfl, rfl⟩ | ⟨vh, kh, rfl, eh⟩ <;> rcases hl with ⟨rfl, rfl⟩ | ⟨vl, kl, rfl, el⟩ <;> simp only [Option.getD_some, Option.getD_none] at * <;>
    first
      | (exact absurd rfl hne)
      | (simp only [Sem.run_bind, Sem.run_pure, Result.andThen_ok]
         try simp only [run_bnd em h3, Result.andThen_ok]
         try simp only [run_bnd eh h2, Result.andThen_ok]
         try simp only [run_bnd el h1, Result.andThen_ok]
         done)
      | (simp only [Sem.run_bind, Sem.run_pure, Result.andThen_ok]
         try simp only [run_bnd em h3, Result.andThen_ok]
         try simp only [run_bnd eh h2, Result.andThen_ok]
         try simp only [run_bnd el h1, Result.andThen_ok]
         rfl)

theorem optC_none {x : Option Operand} (hx : optC P x = some none) : x = none := by
  cases x with
  | none => rfl
  | some x => simp only [optC] at hx; cases hq : opdC P x <;> rw [hq] at hx <;> cases hx
theorem optC_some {x : Option Operand} {y : Opd} (hx : optC P x = some (some y)) : ∃ z, x = some z ∧ opdC P z = some y := by
  cases x with
  | none => simp [optC] at hx
  | some x => simp only [optC] at hx; cases hq : opdC P x <;> rw [hq] at hx <;> cases hx; exact ⟨x, rfl, hq⟩

theorem bnd_of (hw : WR P.globals.size R h w) (hf : FRel R fr a) {lo hi mx : Option Operand} {lo' hi' mx' : Option Opd} {n l k : Nat} {m : Option Nat} (h1 : optC P lo = some lo') (h2 : optC P hi = some hi') (h3 : optC P mx = some mx')
    (e1 : optNat fr lo' 0 = some l) (e2 : optNat fr hi' n = some k) (e3 : maxNat fr mx' = some m) (hne : mx' ≠ none → hi' ≠ none) :
    Bnd (lo.map a.eval) (hi.map a.eval) (mx.map a.eval) n l k m := by
  refine ⟨?_, ?_, ?_⟩
  · cases lo' with
    | none => have := optC_none h1; subst this; simp only [optNat] at e1; cases e1; exact .inl ⟨rfl, rfl⟩
    | some y =>
      obtain ⟨z, rfl, hz⟩ := optC_some h1
      obtain ⟨kk, e⟩ := asNat_int e1 (opd_sound hw hf hz)
      exact .inr ⟨_, kk, rfl, e⟩
  · cases hi' with
    | none => have := optC_none h2; subst this; simp only [optNat] at e2; cases e2; exact .inl ⟨rfl, rfl⟩
    | some y =>
      obtain ⟨z, rfl, hz⟩ := optC_some h2
      obtain ⟨kk, e⟩ := asNat_int e2 (opd_sound hw hf hz)
      exact .inr ⟨_, kk, rfl, e⟩
  · cases mx' with
    | none => have := optC_none h3; subst this; simp only [maxNat] at e3; cases e3; exact .inl ⟨rfl, rfl⟩
    | some y =>
      obtain ⟨z, rfl, hz⟩ := optC_some h3
      simp only [maxNat] at e3
      cases hq : asNat (opd fr y) with
      | none => rw [hq] at e3; cases e3
      | some j =>
        rw [hq] at e3; cases e3
        obtain ⟨kk, e⟩ := asNat_int hq (opd_sound hw hf hz)
        refine .inr ⟨_, kk, j, rfl, e, rfl, ?_⟩
        cases hi' with
        | none => exact absurd rfl (hne (by simp))
        | some y2 => obtain ⟨z2, rfl, _⟩ := optC_some h2; simp

theorem s_sliceS (hw : WR P.globals.size R h w) (hf : FRel R fr a) {t : TypeId} {x : Operand} {lo hi : Option Operand} {x' : Opd} {l k : Nat} {s : List UInt8} (ho : o.op = .slice t x lo hi none) (hu : P.underlying t = some .string) (hc : opdC P x = some x')
    (hx : opd fr x' = .str s) (hb : Bnd (lo.map a.eval) (hi.map a.eval) none s.length l k none) (h1 : l ≤ k) (h2 : k ≤ s.length) : StepsTo P o a R h w (.str ((s.drop l).take (k - l))) h := by
  have hv := opd_sound hw hf hc
  rw [hx] at hv
  generalize he : a.eval x = u at hv
  cases hv with
  | str _ b hbb =>
    have hsz : b.size = s.length := by rw [← hbb]; exact Array.length_toList.symm
    rw [← hsz] at hb h2
    have hrun := run_bounds (P := P) (w := w) hb false b.size h1 h2 (Nat.le_refl _)
    refine st_val hw (v := .string (b.extract l k)) ?_ (.str _ _ ?_)
    · simp [execOp, ho, he, Instr.sliceAt, Instr.slice, run_underlying hu, hrun]
    · rw [← hbb]; simp [ByteArray.data_extract]

theorem s_sliceL (hw : WR P.globals.size R h w) (hf : FRel R fr a) {t e : TypeId} {x : Operand} {lo hi mx : Option Operand} {x' : Opd} {l k sz n0 : Nat} {m : Option Nat} {y : AV} (ho : o.op = .slice t x lo hi mx) (hu : P.underlying t = some (.slice e)) (hs : szT P e = some sz)
    (hc : opdC P x = some x') (hn : lenL (opd fr x') = some n0) (hb : Bnd (lo.map a.eval) (hi.map a.eval) (mx.map a.eval) n0 l k m)
    (hy : sliceA sz (opd fr x') l k m = some y) : StepsTo P o a R h w y h := by
  have hv := opd_sound hw hf hc
  generalize he : a.eval x = u at hv
  generalize hq : opd fr x' = q at hv hn hy
  cases hv <;> simp only [sliceA] at hy <;> try (cases hy; done)
  · split at hy
    · rename_i hh
      obtain ⟨rfl, rfl, hm0⟩ := hh
      cases hy
      simp only [lenL] at hn; cases hn
      have hrun := run_bounds (P := P) (w := w) hb true 0 (Nat.le_refl _) (by rw [hm0]; exact Nat.le_refl _) (by rw [hm0]; exact Nat.le_refl _)
      refine st_val hw (v := .slice none 0 0) ?_ .nilS
      simp [execOp, ho, he, Instr.sliceAt, Instr.slice, run_underlying hu, hrun, szT_run hs, hm0]
    · cases hy
  · rename_i i v q n sz' b sh ps L cap full hh hl hcp hp hff hz
    split at hy
    · rename_i hle
      obtain ⟨rfl, h1, h2, h3⟩ := hle
      cases hy
      have hnn : n = n0 := by simpa [lenL] using hn
      subst hnn
      have hmc : m.getD cap ≤ cap ∧ k ≤ m.getD cap ∧ (m.getD n ≤ m.getD cap) := by
        cases m with
        | none => simp at *; omega
        | some j => simp at *; omega
      have hrun := run_bounds (P := P) (w := w) hb true cap h1 hmc.2.1 hmc.1
      have hle2 : k ≤ n := Nat.le_trans h2 h3
      have e1 : l * sz' ≤ n * sz' := Nat.mul_le_mul_right _ (by omega)
      have e2 : (k - l) * sz' + l * sz' = k * sz' := by rw [← Nat.add_mul]; congr 1; omega
      have e3 : k * sz' ≤ n * sz' := Nat.mul_le_mul_right _ hle2
      by_cases hml : m.getD cap = l
      · have hk0 : k = l := by omega
        subst hk0
        refine st_val hw (v := .slice (some ⟨b, sh + q, none⟩) 0 0) ?_ ?_
        · simp [execOp, ho, he, Instr.sliceAt, Instr.slice, run_underlying hu, hrun, szT_run hs, hml]
        · rw [Nat.sub_self]
          exact .slice0 _ _ _ _ b sh ps L _ _ hh (by omega) hz
      · refine st_val hw (v := .slice (some ⟨b, sh + (q + l * sz'), none⟩) (k - l) (m.getD cap - l)) ?_ ?_
        · simp [execOp, ho, he, Instr.sliceAt, Instr.slice, run_underlying hu, hrun, szT_run hs, hml, add_none, Nat.add_assoc]
        · have e4 : (m.getD cap - l) * sz' + l * sz' = m.getD cap * sz' := by rw [← Nat.add_mul]; congr 1; omega
          have e5 : m.getD cap * sz' ≤ cap * sz' := Nat.mul_le_mul_right _ hmc.1
          refine .slice _ _ _ _ _ b sh ps L _ _ hh (by omega) (by omega) (by omega) ?_ hz
          intro hfl
          cases m with
          | none => simp at hfl; obtain ⟨hf1, hf2⟩ := hfl; have := hff hf1; simp; omega
          | some j => simp at hfl; simp; omega
    · cases hy
  · rename_i i v q sz' b sh ps L full aa hh hl hz
    split at hy
    · rename_i hle
      obtain ⟨rfl, h1, h2, h3⟩ := hle
      cases hy
      simp only [lenL] at hn; cases hn
      have hm0 : m.getD 0 = 0 := Nat.le_zero.1 h3
      have hk0 : k = 0 := by omega
      have hl0 : l = 0 := by omega
      subst hk0; subst hl0
      have hrun := run_bounds (P := P) (w := w) hb true 0 (Nat.le_refl _) (by rw [hm0]; exact Nat.le_refl _) (by rw [hm0]; exact Nat.le_refl _)
      refine st_val hw (v := .slice (some aa) 0 0) ?_ ?_
      · simp [execOp, ho, he, Instr.sliceAt, Instr.slice, run_underlying hu, hrun, szT_run hs, hm0]
      · simpa using VR.slice0 i v q sz' b sh ps L _ aa hh hl hz
    · cases hy

/- append, copy, len, min, max -/
theorem s_app (hw : WR P.globals.size R h w) (hf : FRel R fr a) {t u e : TypeId} {d : TypeDesc} {s x : Operand} {s' x' : Opd} {sz b : Nat} {z : AV} {y : AV} (ho : o.op = .call { callee := .builtin .append, args := #[s, x], argTypes := #[t, u] })
    (ht : P.underlying t = some (.slice e)) (hu : P.underlying u = some d) (hd : srcT d = true) (hc : opdC P s = some s') (hx : opdC P x = some x') (hs : szT P e = some sz) (hb : byT P e = some b) (hz : zeroT P e = some z) (hzl : z.cells.length = sz) (h0 : 0 < sz) (hb0 : 0 < b)
    (hr : appA sz b h (opd fr s') (opd fr x') = some (y, h')) : StepsTo P o a R h w y h' := by
  obtain ⟨i, v, hi, hiz, hcs, hvr⟩ := zeroT_sound (R := R) hz
  obtain ⟨i1, hi1, hsz⟩ := szT_info hs
  obtain ⟨i2, hi2, hby⟩ := byT_run hb
  rw [hi] at hi1 hi2; cases hi1; cases hi2
  have A : AppT P t u e i v sz b := by
    refine ⟨ht, hi, hiz, hsz, hby, by have := hcs.length; rw [hzl] at this; simpa using this.symm, ?_, h0, hb0⟩
    cases d <;> simp [srcT] at hd
    · exact .inr hu
    · exact .inl ⟨_, hu⟩
  obtain ⟨yv, w', R', hrun, hgo, hv⟩ := app_sound (ty := o.type) hw A (opd_sound hw hf hc) (opd_sound hw hf hx) hr
  refine ⟨R', w', hgo, .inl ⟨yv, ?_, hv⟩⟩
  simp [execOp, ho, resolve, invoke, builtin, hrun]

theorem s_lenS (hw : WR P.globals.size R h w) (hf : FRel R fr a) {t : TypeId} {x : Operand} {x' : Opd} {s : List UInt8} (ho : o.op = .call { callee := .builtin .len, args := #[x], argTypes := #[t] }) (ht : P.underlying t = some .string) (hc : opdC P x = some x')
    (hx : opd fr x' = .str s) : StepsTo P o a R h w (.int .i64 s.length) h := by
  have hv := opd_sound hw hf hc
  rw [hx] at hv
  generalize he : a.eval x = u at hv
  cases hv with
  | str _ b hb =>
    have hsz : b.size = s.length := by rw [← hb]; exact Array.length_toList.symm
    exact st_val hw (v := .int .i64 s.length) (by simp [execOp, ho, resolve, invoke, builtin, Builtin.len_, run_underlying ht, he, hsz, goInt]) (.int _ _)
theorem s_lenL (hw : WR P.globals.size R h w) (hf : FRel R fr a) {t e : TypeId} {x : Operand} {x' : Opd} {n : Nat} (ho : o.op = .call { callee := .builtin .len, args := #[x], argTypes := #[t] }) (ht : P.underlying t = some (.slice e)) (hc : opdC P x = some x')
    (hn : lenL (opd fr x') = some n) : StepsTo P o a R h w (.int .i64 n) h := by
  have hv := opd_sound hw hf hc
  generalize he : a.eval x = u at hv
  generalize hq : opd fr x' = q at hv hn
  refine st_val hw (v := .int .i64 n) ?_ (.int _ _)
  cases hv <;> simp only [lenL] at hn <;> (try (cases hn; done)) <;> (cases hn; simp [execOp, ho, resolve, invoke, builtin, Builtin.len_, run_underlying ht, he, goInt])

theorem min_sound (hw : WR P.globals.size R h w) (hf : FRel R fr a) {x y : Operand} {x' y' : Opd} {k j : IntKind} {m n : Int} {ts : Array TypeId} (ho : o.op = .call { callee := .builtin .min, args := #[x, y], argTypes := ts }) (hc : opdC P x = some x') (hd : opdC P y = some y')
    (hx : opd fr x' = .int k m) (hy : opd fr y' = .int j n) : StepsTo P o a R h w (.int k (min m n)) h := by
  have h1 := opd_sound hw hf hc
  have h2 := opd_sound hw hf hd
  rw [hx] at h1; rw [hy] at h2
  generalize he1 : a.eval x = u at h1
  generalize he2 : a.eval y = v at h2
  cases h1; cases h2
  refine st_val hw (v := .int k (min m n)) ?_ (.int _ _)
  have : (if n < m then n else m) = min m n := by split <;> omega
  simp [execOp, ho, resolve, invoke, builtin, Builtin.min_, Builtin.min2, he1, he2, this]
theorem max_sound (hw : WR P.globals.size R h w) (hf : FRel R fr a) {x y : Operand} {x' y' : Opd} {k j : IntKind} {m n : Int} {ts : Array TypeId} (ho : o.op = .call { callee := .builtin .max, args := #[x, y], argTypes := ts }) (hc : opdC P x = some x') (hd : opdC P y = some y')
    (hx : opd fr x' = .int k m) (hy : opd fr y' = .int j n) : StepsTo P o a R h w (.int k (max m n)) h := by
  have h1 := opd_sound hw hf hc
  have h2 := opd_sound hw hf hd
  rw [hx] at h1; rw [hy] at h2
  generalize he1 : a.eval x = u at h1
  generalize he2 : a.eval y = v at h2
  cases h1; cases h2
  refine st_val hw (v := .int k (max m n)) ?_ (.int _ _)
  have : (if m < n then n else m) = max m n := by split <;> omega
  simp [execOp, ho, resolve, invoke, builtin, Builtin.max_, Builtin.max2, he1, he2, this]

theorem s_iface (hw : WR P.globals.size R h w) (hf : FRel R fr a) {t : TypeId} {d : TypeDesc} {x : Operand} {x' : Opd} (ho : o.op = .makeInterface t x) (hu : P.underlying t = some d) (hd : ∀ m, d ≠ .interface m) (hc : opdC P x = some x') : StepsTo P o a R h w (.iface t (opd fr x')) h := by
  refine st_val hw (v := .iface t (a.eval x)) ?_ (.iface _ _ _ (opd_sound hw hf hc))
  simp only [execOp, ho, Instr.makeInterface, Sem.run_bind, run_underlying hu, Result.andThen_ok]
  cases d <;> first | rfl | exact absurd rfl (hd _)

/- copy -/
theorem s_copy (hw : WR P.globals.size R h w) (hf : FRel R fr a) {t u e : TypeId} {d s : Operand} {d' s' : Opd} {sz i v q n m : Nat} {full : Bool} {l : List AV} (ho : o.op = .call { callee := .builtin .copy, args := #[d, s], argTypes := #[t, u] }) (ht : P.underlying t = some (.slice e))
    (hc : opdC P d = some d') (hd : opdC P s = some s') (hs : szT P e = some sz) (hx : opd fr d' = .slice i v q n sz full) (hm : lenS (opd fr s') = some m) (h0 : min m n ≠ 0) (hl : src h (opd fr s') (min m n) = some l) (hll : l.length = min m n * sz)
    (hr : wr h (.ptr i v q) l = some h') : StepsTo P o a R h w (.int .i64 ((min m n : Nat) : Int)) h' := by
  have h1 := opd_sound hw hf hc
  have h2 := opd_sound hw hf hd
  rw [hx] at h1
  generalize he1 : a.eval d = dv at h1
  generalize he2 : a.eval s = sv at h2
  cases h1 with
  | slice _ _ _ _ _ b sh ps L cap _ hh hl1 hcp hp hff hz =>
    obtain ⟨cs, hvr, hrun⟩ := src_sound (sz := sz) P hw hl h2 hll
    obtain ⟨b', o', w', hp', hst, hgo⟩ := wr_sound P hw hr (.ptr i v q b sh ps L hh) hvr
    cases hp'
    refine ⟨R, w', hgo, .inl ⟨.int .i64 ((min m n : Nat) : Int), ?_, .int _ _⟩⟩
    have hmn : Nat.min m n = min m n := rfl
    simp [execOp, ho, resolve, invoke, builtin, Builtin.copy_, he1, he2, run_underlying ht, szT_run hs, lenS_sound hm h2, hrun w rfl, hst, goInt, hmn]
  | slice0 _ _ _ _ b sh ps L _ aa hh hl1 hz => simp at h0

theorem s_copy0 (hw : WR P.globals.size R h w) (hf : FRel R fr a) {t u e : TypeId} {d s : Operand} {d' s' : Opd} {sz n m : Nat} (ho : o.op = .call { callee := .builtin .copy, args := #[d, s], argTypes := #[t, u] }) (ht : P.underlying t = some (.slice e))
    (hc : opdC P d = some d') (hd : opdC P s = some s') (hs : szT P e = some sz) (hx : (opd fr d' = .nilS ∧ n = 0) ∨ ∃ i v q full, opd fr d' = .slice i v q n sz full) (hm : lenS (opd fr s') = some m) (h0 : min m n = 0) : StepsTo P o a R h w (.int .i64 0) h := by
  have h1 := opd_sound hw hf hc
  have h2 := opd_sound hw hf hd
  generalize he1 : a.eval d = dv at h1
  generalize he2 : a.eval s = sv at h2
  have key : ∃ base cap, dv = .slice base n cap := by
    rcases hx with ⟨hx, rfl⟩ | ⟨i, v, q, full, hx⟩
    · rw [hx] at h1; cases h1; exact ⟨_, _, rfl⟩
    · rw [hx] at h1; cases h1 <;> exact ⟨_, _, rfl⟩
  obtain ⟨base, cap, rfl⟩ := key
  have hsrc : (Builtin.firstCells sz 0 sv).run P w = .ok #[] w := by
    generalize hq : opd fr s' = q at h2 hm
    cases h2 <;> simp only [lenS] at hm <;> (try (cases hm; done)) <;> simp [Builtin.firstCells, loadCells, loadCellsFrom]
  have hmn : Nat.min m n = 0 := h0
  refine st_val hw (v := .int .i64 0) ?_ (.int _ _)
  cases base <;> simp [execOp, ho, resolve, invoke, builtin, Builtin.copy_, he1, he2, run_underlying ht, szT_run hs, lenS_sound hm h2, hsrc, goInt, hmn, storeCells]
end
end Go.Kx
/- THE ENGINE, part 15: maps, and what a call and a defer come to. -/
namespace Go.Kx
open Go
section
variable {R : Rl} {h h' : H} {w : World} {P : Program} {o : Oper} {a : Act} {fr : List AV}

/- keys -/
theorem plainT_und {t : TypeId} {d : Kd} (hd : plainT P t = some d) : ∃ q, P.underlying t = some q ∧ ((q = .bool ∧ d = .b) ∨ (∃ k, q = .int k ∧ d = .i) ∨ (q = .string ∧ d = .s)) := by
  unfold plainT at hd
  split at hd <;> rename_i hu <;> cases hd
  · exact ⟨_, hu, .inl ⟨rfl, rfl⟩⟩
  · exact ⟨_, hu, .inr (.inl ⟨_, rfl, rfl⟩)⟩
  · exact ⟨_, hu, .inr (.inr ⟨rfl, rfl⟩)⟩

theorem sameNow_sound {q : TypeDesc} {d : Kd} (hq : (q = .bool ∧ d = .b) ∨ (∃ k, q = .int k ∧ d = .i) ∨ (q = .string ∧ d = .s)) {x y : AV} {u v : Value} {b : Bool} (hx : VR R x u) (hy : VR R y v) (he : eqK d x y = some b) : Instr.sameNow q u v = some b := by
  rcases hq with ⟨rfl, rfl⟩ | ⟨k, rfl, rfl⟩ | ⟨rfl, rfl⟩
  · cases hx <;> cases hy <;> simp [eqK] at he; subst he; rfl
  · cases hx <;> cases hy <;> simp [eqK] at he; obtain ⟨rfl, rfl⟩ := he; simp [Instr.sameNow]
  · cases hx <;> cases hy <;> simp [eqK] at he
    rename_i l1 s1 e1 l2 s2 e2
    subst he
    simp [Instr.sameNow, beq_bytes, e1, e2]

theorem find_sound {q : TypeDesc} {d : Kd} (hq : (q = .bool ∧ d = .b) ∨ (∃ k, q = .int k ∧ d = .i) ∨ (q = .string ∧ d = .s)) {k : AV} {u : Value} (hk : VR R k u) : ∀ {es : List (AV × AV)} {ms : List MapEntry} {r : Option AV} (i : Nat), ERs R es ms → find d k es = some r →
    (r = none ∧ Instr.findNow q u ms i = some none) ∨ ∃ x v j, r = some x ∧ VR R x v ∧ Instr.findNow q u ms i = some (some (i + j, v)) ∧ j < ms.length
  | _, _, r, i, .nil, hf => by simp only [find] at hf; cases hf; exact .inl ⟨rfl, rfl⟩
  | _, _, r, i, .cons k' x l e m hk' hx hs, hf => by
    simp only [find] at hf
    split at hf
    · rename_i he
      cases hf
      refine .inr ⟨x, e.val, 0, rfl, hx, ?_, by simp⟩
      simp [Instr.findNow, sameNow_sound hq hk hk' he]
    · rename_i he
      rcases find_sound hq hk (i + 1) hs hf with ⟨rfl, h1⟩ | ⟨y, v, j, rfl, hv, h1, hj⟩
      · exact .inl ⟨rfl, by simp [Instr.findNow, sameNow_sound hq hk hk' he, h1]⟩
      · refine .inr ⟨y, v, j + 1, rfl, hv, ?_, by simp; omega⟩
        simp only [Instr.findNow, sameNow_sound hq hk hk' he, h1]
        congr 3; omega
    · cases hf

theorem run_findKey {t : TypeId} {q : TypeDesc} (hu : P.underlying t = some q) {u : Value} {ms : List MapEntry} {r : Option (Nat × Value)} (hf : Instr.findNow q u ms 0 = some r) : (Instr.findKey t u ms).run P w = .ok r w := by
  simp [Instr.findKey, run_underlying hu, hf]

theorem run_checkKey {t : TypeId} {q : TypeDesc} {d : Kd} (hu : P.underlying t = some q) (hq : (q = .bool ∧ d = .b) ∨ (∃ k, q = .int k ∧ d = .i) ∨ (q = .string ∧ d = .s)) (e : Bool) (u : Value) (n : Nat) : (Instr.checkKey e (n + 1) t u).run P w = .ok () w := by
  rcases hq with ⟨rfl, rfl⟩ | ⟨k, rfl, rfl⟩ | ⟨rfl, rfl⟩ <;> simp only [Instr.checkKey, Sem.run_bind, run_underlying hu, Result.andThen_ok] <;> cases u <;> rfl

theorem getObj_map {b : Nat} {mes : Array MapEntry} {clk : Nat} (hb : w.heap[b]? = some (.map mes clk)) : (getObj b).run P w = .ok (.map mes clk) w := by
  simp [getObj, Sem.run, hb]
theorem setObj_map {b : Nat} {mes mes' : Array MapEntry} {clk clk' : Nat} (hb : w.heap[b]? = some (.map mes clk)) : (setObj b (.map mes' clk')).run P w = .ok () (setBlk w b (.map mes' clk')) := by
  simp [setObj, Sem.run, hb, setBlk]

theorem tenK : (10000 : Nat) = 9999 + 1 := rfl

theorem s_look (hw : WR P.globals.size R h w) (hf : FRel R fr a) {t k e : TypeId} {x i : Operand} {x' i' : Opd} {d : Kd} {z : AV} {ok : Bool} {es : List (AV × AV)} {r : Option AV} (ho : o.op = .lookup t x i ok) (hu : P.underlying t = some (.map k e)) (hc : opdC P x = some x') (hd : opdC P i = some i')
    (hz : zeroT P e = some z) (hk : plainT P k = some d) (hes : (match opd fr x' with | .nilM => some [] | .map j => h.gm j | _ => none) = some es) (hr : find d (opd fr i') es = some r) :
    StepsTo P o a R h w (if ok then .tup [r.getD z, .bool r.isSome] else r.getD z) h := by
  obtain ⟨q, hq, hqd⟩ := plainT_und hk
  obtain ⟨zv, hzr, hzv, _⟩ := zeroT_run (R := R) hz
  have hx := opd_sound hw hf hc
  have hi := opd_sound hw hf hd
  have key : ∃ ms : Array MapEntry, ERs R es ms.toList ∧ ∀ res : Option (Nat × Value), Instr.findNow q (a.eval i) ms.toList 0 = some res →
      (execOp a.eval o).run P w = .ok (.value (if ok then .tuple #[(match res with | some (_, v) => v | none => zv), .bool res.isSome] else (match res with | some (_, v) => v | none => zv))) w := by
    generalize he : a.eval x = xv at hx
    generalize hqq : opd fr x' = xq at hx hes
    cases hx <;> simp only at hes <;> try (cases hes; done)
    · cases hes
      refine ⟨#[], .nil, ?_⟩
      intro res hres
      have h1 := run_findKey (w := w) hq hres
      simp only [execOp, ho, he, Instr.lookup, Sem.run_bind, run_underlying hu, Result.andThen_ok, Sem.run_pure, tenK, run_checkKey hq hqd, h1]
      cases res with
      | none => simp [hzr]
      | some p => obtain ⟨j, v⟩ := p; simp
    · rename_i j b hm
      obtain ⟨mes, clk, hb, hers⟩ := hw.map _ _ _ hm hes
      refine ⟨mes, hers, ?_⟩
      intro res hres
      have h1 := run_findKey (w := w) hq hres
      simp only [execOp, ho, he, Instr.lookup, Sem.run_bind, run_underlying hu, Result.andThen_ok, Sem.run_pure, tenK, run_checkKey hq hqd, h1, getObj_map hb]
      cases res with
      | none => simp [hzr]
      | some p => obtain ⟨j, v⟩ := p; simp
  obtain ⟨ms, hers, hK⟩ := key
  have fin : ∀ (v : Value) (b : Bool), VR R (r.getD z) v → r.isSome = b → (execOp a.eval o).run P w = .ok (.value (if ok then .tuple #[v, .bool b] else v)) w → StepsTo P o a R h w (if ok then .tup [r.getD z, .bool r.isSome] else r.getD z) h := by
    intro v b hv hb hrun
    refine st_val hw hrun ?_
    cases ok
    · exact hv
    · exact .tup _ _ (.cons _ _ _ _ hv (.cons _ _ _ _ (by rw [hb]; exact .bool b) .nil))
  rcases find_sound hqd hi 0 hers hr with ⟨rfl, h1⟩ | ⟨y, v, j, rfl, hv, h1, hj⟩
  · exact fin zv false (by simpa using hzv) rfl (by simpa using hK _ h1)
  · exact fin v true (by simpa using hv) rfl (by simpa using hK _ h1)

/- putting into a map -/
theorem update_sound {q : TypeDesc} {d : Kd} (hq : (q = .bool ∧ d = .b) ∨ (∃ k, q = .int k ∧ d = .i) ∨ (q = .string ∧ d = .s)) {k x : AV} {u v : Value} (hk : VR R k u) (hx : VR R x v) (clk : Nat) : ∀ {es : List (AV × AV)} {ms : List MapEntry} {r : Option AV} (i : Nat), ERs R es ms → find d k es = some r →
    (r = none ∧ ERs R (update d k x es) (ms ++ [{ key := u, val := v, born := clk }])) ∨ ∃ j w0 y, r = some y ∧ Instr.findNow q u ms i = some (some (i + j, w0)) ∧ ∃ e, ms[j]? = some e ∧ VR R k e.key ∧ ERs R (update d k x es) (ms.set j { e with key := u, val := v })
  | _, _, r, i, .nil, hf => by
    simp only [find] at hf; cases hf
    exact .inl ⟨rfl, .cons _ _ _ _ _ hk hx .nil⟩
  | _, _, r, i, .cons k' y l e m hk' hy hs, hf => by
    simp only [find] at hf
    split at hf
    · rename_i he
      cases hf
      refine .inr ⟨0, e.val, y, rfl, by simp [Instr.findNow, sameNow_sound hq hk hk' he], e, rfl, ?_, ?_⟩
      · -- the same key
        rcases hq with ⟨rfl, rfl⟩ | ⟨kk, rfl, rfl⟩ | ⟨rfl, rfl⟩
        · generalize e.key = ek at hk'; cases hk <;> cases hk' <;> simp [eqK] at he; subst he; exact .bool _
        · generalize e.key = ek at hk'; cases hk <;> cases hk' <;> simp [eqK] at he; obtain ⟨rfl, rfl⟩ := he; exact .int _ _
        · generalize e.key = ek at hk'; cases hk <;> cases hk' <;> simp [eqK] at he; subst he; constructor; assumption
      · simp only [update, he]
        exact .cons _ _ _ _ _ hk hx hs
    · rename_i he
      rcases update_sound hq hk hx clk (i + 1) hs hf with ⟨rfl, h1⟩ | ⟨j, w0, y2, rfl, h1, e2, h2, h3, h4⟩
      · refine .inl ⟨rfl, ?_⟩
        simp only [update, he]
        exact .cons _ _ _ _ _ hk' hy h1
      · refine .inr ⟨j + 1, w0, y2, rfl, ?_, e2, by simpa using h2, h3, ?_⟩
        · simp only [Instr.findNow, sameNow_sound hq hk hk' he, h1]
          congr 3; omega
        · simp only [update, he, List.set_cons_succ]
          exact .cons _ _ _ _ _ hk' hy h4
    · cases hf

theorem sameBits_key {k : AV} {u v : Value} {d : Kd} (hd : keyOf d k = true) (hk : VR R k u) (hv : VR R k v) (n : Nat) : Instr.sameBits n v u = true := by
  cases d <;> cases hk <;> simp only [keyOf] at hd <;> (try (cases hd; done)) <;> cases hv
  · cases n <;> simp [Instr.sameBits]
  · cases n <;> simp [Instr.sameBits]
  · rename_i l s1 e1 s2 e2
    have : (s2 == s1) = true := by rw [beq_bytes, e1, e2]; simp
    cases n <;> simp [Instr.sameBits, this]

theorem s_upd (hw : WR P.globals.size R h w) (hf : FRel R fr a) {t kt e : TypeId} {m k x : Operand} {m' k' x' : Opd} {d : Kd} {j : Nat} {es : List (AV × AV)} {r : Option AV} (ho : o.op = .mapUpdate t m k x ∨ o.op = .insert t m k x) (hu : P.underlying t = some (.map kt e)) (hc : opdC P m = some m') (hd : opdC P k = some k') (he : opdC P x = some x')
    (hk : plainT P kt = some d) (hm : opd fr m' = .map j) (hes : h.gm j = some es) (hkey : keyOf d (opd fr k') = true) (hr : find d (opd fr k') es = some r) :
    StepsTo P o a R h w (.tup []) (h.putm j (update d (opd fr k') (opd fr x') es)) := by
  obtain ⟨q, hq, hqd⟩ := plainT_und hk
  have hmv := opd_sound hw hf hc
  have hkv := opd_sound hw hf hd
  have hxv := opd_sound hw hf he
  rw [hm] at hmv
  generalize hme : a.eval m = mv at hmv
  cases hmv with
  | map _ b hb =>
  obtain ⟨mes, clk, hblk, hers⟩ := hw.map _ _ _ hb hes
  have hexec : ∀ w', (Instr.mapUpdate t (.map (some b)) (a.eval k) (a.eval x)).run P w = .ok () w' → (execOp a.eval o).run P w = .ok .skip w' := by
    intro w' hrun
    rcases ho with ho | ho <;> simp [execOp, ho, hme, hrun]
  rcases update_sound hqd hkv hxv clk 0 hers hr with ⟨rfl, h1⟩ | ⟨i, w0, y, rfl, h1, e0, h2, h3, h4⟩
  · have h0 : Instr.findNow q (a.eval k) mes.toList 0 = some none := by
      rcases find_sound hqd hkv 0 hers hr with ⟨_, hh⟩ | ⟨_, _, _, hh, _⟩
      · exact hh
      · cases hh
    refine ⟨R, _, put_map hw hb hes (mes.push { key := a.eval k, val := a.eval x, born := clk }) (clk + 1) (by simpa using h1), .inr ⟨hexec _ ?_, .tup _ _ .nil⟩⟩
    simp only [Instr.mapUpdate, Sem.run_bind, run_underlying hu, Result.andThen_ok, getObj_map hblk, tenK, run_checkKey hq hqd, run_findKey hq h0]
    exact setObj_map hblk
  · rw [Nat.zero_add] at h1
    refine ⟨R, _, put_map hw hb hes (mes.modify i fun e => { e with key := a.eval k, val := a.eval x }) clk ?_, .inr ⟨hexec _ ?_, .tup _ _ .nil⟩⟩
    · have : (mes.modify i fun e => { e with key := a.eval k, val := a.eval x }).toList = mes.toList.set i { e0 with key := a.eval k, val := a.eval x } := by
        apply List.ext_getElem?
        intro c
        rw [Array.getElem?_toList, Array.getElem?_modify, List.getElem?_set]
        rw [Array.getElem?_toList] at h2
        by_cases hci : i = c
        · subst hci
          rw [if_pos rfl, if_pos rfl, h2]
          have := (Array.getElem?_eq_some_iff.1 h2).1
          simp [this]
        · rw [if_neg hci, if_neg hci, Array.getElem?_toList]
      rw [this]; exact h4
    · have hsb : Instr.sameBits 10000 e0.key (a.eval k) = true := sameBits_key hkey hkv h3 10000
      have h2' : mes[i]? = some e0 := by simpa using h2
      simp only [Instr.mapUpdate, Sem.run_bind, run_underlying hu, Result.andThen_ok, getObj_map hblk, tenK, run_checkKey hq hqd, run_findKey hq h1]
      simp only [Instr.keyThatStays, h2', Option.map_some, Option.getD_some, hsb, if_true, Sem.run_pure, Result.andThen_ok]
      exact setObj_map hblk

theorem s_lenM (hw : WR P.globals.size R h w) (hf : FRel R fr a) {t k e : TypeId} {x : Operand} {x' : Opd} {es : List (AV × AV)} {j : Nat} (ho : o.op = .call { callee := .builtin .len, args := #[x], argTypes := #[t] }) (hu : P.underlying t = some (.map k e)) (hc : opdC P x = some x') (hx : opd fr x' = .map j) (hes : h.gm j = some es) :
    StepsTo P o a R h w (.int .i64 es.length) h := by
  have hv := opd_sound hw hf hc
  rw [hx] at hv
  generalize he : a.eval x = u at hv
  cases hv with
  | map _ b hb =>
    obtain ⟨mes, clk, hblk, hers⟩ := hw.map _ _ _ hb hes
    have hl : es.length = mes.size := by
      have : ∀ {es : List (AV × AV)} {ms : List MapEntry}, ERs R es ms → es.length = ms.length := by
        intro es ms hh
        induction hh with
        | nil => rfl
        | cons => simp_all
      simpa using this hers
    refine st_val hw (v := .int .i64 es.length) ?_ (.int _ _)
    simp [execOp, ho, resolve, invoke, builtin, Builtin.len_, run_underlying hu, he, getObj_map hblk, goInt, hl]
theorem s_lenM0 (hw : WR P.globals.size R h w) (hf : FRel R fr a) {t k e : TypeId} {x : Operand} {x' : Opd} (ho : o.op = .call { callee := .builtin .len, args := #[x], argTypes := #[t] }) (hu : P.underlying t = some (.map k e)) (hc : opdC P x = some x') (hx : opd fr x' = .nilM) :
    StepsTo P o a R h w (.int .i64 0) h := by
  have hv := opd_sound hw hf hc
  rw [hx] at hv
  generalize he : a.eval x = u at hv
  cases hv
  exact st_val hw (v := .int .i64 0) (by simp [execOp, ho, resolve, invoke, builtin, Builtin.len_, run_underlying hu, he, goInt]) (.int _ _)

/- calls -/
theorem s_call (hw : WR P.globals.size R h w) (hf : FRel R fr a) {f : Operand} {args : Array Operand} {ts : Array TypeId} {f' : Opd} {l : List Opd} {g : FuncId} {x y : List AV} (ho : o.op = .call { callee := .value f, args := args, argTypes := ts }) (hc : opdC P f = some f') (hl : opdsC P args.toList = some l)
    (hx : opd fr f' = .func g x y) : ∃ vs : Array Value, VRs R (x ++ l.map (opd fr) ++ y) vs.toList ∧ (execOp a.eval o).run P w = (callFunc g vs).run P w := by
  have hv := opd_sound hw hf hc
  rw [hx] at hv
  generalize he : a.eval f = u at hv
  cases hv with
  | func _ _ _ xv yv hxv hyv =>
    have hargs := opds_sound hw hf hl
    refine ⟨xv ++ args.map a.eval ++ yv, ?_, ?_⟩
    · simp only [Array.toList_append, Array.toList_map]
      exact (hxv.append hargs).append hyv
    · simp [execOp, ho, resolve, Deferred.ofValue, he, invoke]

theorem s_dfr (hw : WR P.globals.size R h w) (hf : FRel R fr a) {f : Operand} {args : Array Operand} {ts : Array TypeId} {f' : Opd} {l : List Opd} {g : FuncId} {x y : List AV} (ho : o.op = .defer { callee := .value f, args := args, argTypes := ts }) (hc : opdC P f = some f') (hl : opdsC P args.toList = some l)
    (hx : opd fr f' = .func g x y) : ∃ (as cap : Array Value), VRs R (x ++ l.map (opd fr) ++ y) (as ++ cap).toList ∧ (execOp a.eval o).run P w = .ok (.defer { target := .fn (.func g) cap, args := as }) w := by
  have hv := opd_sound hw hf hc
  rw [hx] at hv
  generalize he : a.eval f = u at hv
  cases hv with
  | func _ _ _ xv yv hxv hyv =>
    have hargs := opds_sound hw hf hl
    refine ⟨xv ++ args.map a.eval, yv, ?_, ?_⟩
    · simp only [Array.toList_append, Array.toList_map]
      exact (hxv.append hargs).append hyv
    · simp [execOp, ho, resolve, Deferred.ofValue, he]
end
end Go.Kx
/- THE ENGINE, part 16: bytes and strings; every operation, in one theorem. -/
namespace Go.Kx
open Go
section
variable {R : Rl} {h h' : H} {w : World} {P : Program} {o : Oper} {a : Act} {fr : List AV}

theorem toBytes_vr : ∀ {l : List AV} {s : List UInt8} {cs : List Value}, toBytes l = some s → VRs R l cs → ∀ (f : Value → ByteArray → Sem (ForInStep ByteArray)), (∀ n acc, f (.int .u8 n) acc = pure (.yield (acc.push (UInt8.ofNat n.toNat)))) →
    ∀ (acc : ByteArray) (w : World), (forIn cs acc f : Sem ByteArray).run P w = .ok ⟨acc.data ++ s.toArray⟩ w
  | [], s, cs, hb, hv, f, hff, acc, w => by
    simp only [toBytes] at hb; cases hb; cases hv
    simp
  | x :: l, s, cs, hb, hv, f, hff, acc, w => by
    unfold toBytes at hb
    split at hb
    · rename_i hh; cases hh
    · rename_i n l' hh
      cases hh
      cases hq : toBytes l with
      | none => rw [hq] at hb; cases hb
      | some r =>
        rw [hq] at hb; cases hb
        cases hv with
        | cons _ _ y m hy hs =>
          cases hy
          have ih := toBytes_vr hq hs f hff (acc.push (UInt8.ofNat n.toNat)) w
          simp only [List.forIn_cons, hff, Sem.run_bind, Sem.run_pure, Result.andThen_ok]
          rw [ih]
          congr 1
          apply ByteArray.ext
          simp [ByteArray.push]
    · cases hb

theorem s_toStr (hw : WR P.globals.size R h w) (hf : FRel R fr a) {s d e : TypeId} {x : Operand} {x' : Opd} {n : Nat} {l : List AV} {r : List UInt8} (ho : o.op = .convert s d x) (hc : opdC P x = some x') (hs : P.underlying s = some (.slice e)) (hd : P.underlying d = some .string) (he : P.underlying e = some (.int .u8))
    (hn : lenL (opd fr x') = some n) (hl : src h (opd fr x') n = some l) (hln : l.length = n) (hr : toBytes l = some r) : StepsTo P o a R h w (.str r) h := by
  have hv := opd_sound hw hf hc
  obtain ⟨cs, hvr, hrun⟩ := src_sound (sz := 1) P hw hl hv (by omega)
  have hb := fun f hff => toBytes_vr (P := P) hr hvr f hff .empty w
  generalize hq : a.eval x = u at hv hrun
  generalize hqq : opd fr x' = y at hv hn hl
  refine st_val hw (v := .string ⟨r.toArray⟩) ?_ (.str _ _ (by simp))
  cases hv <;> simp only [lenL] at hn <;> try (cases hn; done)
  · cases hn
    simp only [src] at hl; cases hl
    simp only [toBytes] at hr; cases hr
    simp [execOp, ho, hq, convert, run_underlying hs, run_underlying hd, run_underlying he, Conv.bytesToString]
    rfl
  all_goals
    cases hn
    have hrun := hrun w rfl
    simp only [Builtin.firstCells, Nat.mul_one] at hrun
    simp only [execOp, ho, hq, convert, run_underlying hs, run_underlying hd, run_underlying he, Conv.bytesToString, Sem.run_bind, Result.andThen_ok, hrun, List.forIn_toArray]
    rw [hb _ (fun _ _ => rfl)]
    simp

theorem s_toBytes (hw : WR P.globals.size R h w) (hf : FRel R fr a) {s d e : TypeId} {x : Operand} {x' : Opd} {l : List UInt8} (ho : o.op = .convert s d x) (hc : opdC P x = some x') (hs : P.underlying s = some .string) (hd : P.underlying d = some (.slice e)) (he : P.underlying e = some (.int .u8))
    (hx : opd fr x' = .str l) : StepsTo P o a R h w (.slice h.nx 0 0 l.length 1 false) (h.new (l.map fun b => .int .u8 b.toNat)) := by
  have hv := opd_sound hw hf hc
  rw [hx] at hv
  generalize hq : a.eval x = u at hv
  cases hv with
  | str _ b hb =>
    have hsz : b.size = l.length := by rw [← hb]; exact Array.length_toList.symm
    let cap := grownCap w b.size 0 e
    have hcap : b.size ≤ cap := grownCap_ge w _ _ _
    let arr : Array Value := b.data.map (fun (b : UInt8) => (Value.int .u8 b.toNat : Value)) ++ Array.replicate (cap - b.size) (Value.int .u8 0)
    have hasz : arr.size = cap := by
      show (b.data.map (fun (b : UInt8) => (Value.int .u8 b.toNat : Value)) ++ Array.replicate (cap - b.size) (Value.int .u8 0)).size = cap
      have : b.data.size = b.size := rfl
      simp [this]; omega
    have hw' : WR P.globals.size R h { w with drawn := w.drawn + 1 } := hw.drawn rfl
    have hgo := (Go2.drawn hw (w.drawn + 1)).trans (new_cells hw' (l.map fun (b : UInt8) => AV.int .u8 b.toNat) arr e (arr.size, arr.size + 1) (fun j hj => by omega) (by simp; omega) (by rw [List.all_eq_true]; intro y hy; obtain ⟨c, _, rfl⟩ := List.mem_map.1 hy; rfl) (by
      intro j y hy
      simp only [List.getElem?_map, Option.map_eq_some_iff] at hy
      obtain ⟨c, hc1, rfl⟩ := hy
      refine ⟨.int .u8 c.toNat, ?_, .int _ _⟩
      have hj : j < b.data.size := by rw [← hb] at hc1; simpa using (List.getElem?_eq_some_iff.1 hc1).1
      show (b.data.map (fun (b : UInt8) => (Value.int .u8 b.toNat : Value)) ++ Array.replicate (cap - b.size) (Value.int .u8 0))[j]? = _
      rw [Array.getElem?_append_left (by simpa using hj)]
      rw [← hb, Array.getElem?_toList] at hc1
      simp [hc1]))
    refine ⟨_, _, hgo, .inl ⟨.slice (some ⟨w.heap.size, 0, none⟩) b.size cap, ?_, ?_⟩⟩
    · have hcell : (w.heap.push (.cells arr e))[w.heap.size]? = some (.cells arr e (0, 0)) := by simp
      simp only [execOp, ho, hq, convert, Sem.run_bind, run_underlying hs, run_underlying hd, run_underlying he, Result.andThen_ok, Conv.stringToBytes, run_choose, Question.forced, Bool.false_eq_true, if_false]
      have hrow : ∀ (c : Array Value) (w0 : World), (newRow e c).run P w0 = .ok ⟨w0.heap.size, 0, none⟩ { w0 with heap := w0.heap.push (.cells c e) } := fun c w0 => by simp [newRow]
      have hmark : ∀ (c : Array Value) (w0 : World), (markStringish ⟨w0.heap.size, 0, none⟩).run P { w0 with heap := w0.heap.push (.cells c e) } = .ok () { w0 with heap := w0.heap.push (.cells c e (c.size, c.size + 1)) } := by
        intro c w0
        have hshape : World.shape? { w0 with heap := w0.heap.push (.cells c e) } w0.heap.size = some (e, c.size) := by simp [World.shape?]
        simp only [markStringish, Sem.run_bind, run_shape, hshape, Result.andThen_ok, run_freeze, World.freeze]
        simp only [Nat.add_one_ne_zero, if_false, Result.ok.injEq, true_and]
        congr 1
        apply Array.ext_getElem?
        intro j
        rw [Array.getElem?_modify]
        by_cases hj : w0.heap.size = j
        · subst hj; simp
        · rw [if_neg hj]
          simp [Array.getElem?_push, Ne.symm hj]
      rw [hrow]
      simp only [Result.andThen_ok]
      have h2 := hmark arr { w with drawn := w.drawn + 1 }
      exact (congrArg (fun r => (Result.andThen r _).andThen _) h2).trans rfl
    · rw [hsz]
      have := VR.slice (R := R.add h.nx 0 w.heap.size 0 arr.size (l.map fun (b : UInt8) => (AV.int .u8 b.toNat : AV)).length) h.nx 0 0 l.length 1 w.heap.size 0 arr.size (l.map fun (b : UInt8) => (AV.int .u8 b.toNat : AV)).length cap false add_c_self (by simp) (by omega) (by omega) (by simp) (by omega)
      simpa using this
end
end Go.Kx
/- THE ENGINE, part 17: every operation, in one theorem. -/
namespace Go.Kx
open Go
section
variable {R : Rl} {h h' : H} {w : World} {P : Program} {o : Oper} {a : Act} {fr : List AV}

theorem map_some' {α β : Type} {f : α → β} {x : Option α} {y : β} (h : x.map f = some y) : ∃ z, x = some z ∧ f z = y := by
  cases x with
  | none => cases h
  | some z => cases h; exact ⟨z, rfl, rfl⟩

theorem t_conv (hw : WR P.globals.size R h w) (hf : FRel R fr a) {op : AOp} {x : AV} {s d : TypeId} {y : Operand} (ho : o.op = .convert s d y) (hc : convC P s d y = some op) (hs : step op fr h = some (.val x h')) : StepsTo P o a R h w x h' := by
  unfold convC at hc
  split at hc
  · rename_i k0 k h1 h2
    obtain ⟨y', hy, rfl⟩ := map_some' hc
    simp only [step] at hs
    split at hs
    · rename_i j n e; cases hs; exact s_convInt hw hf ho hy h1 h2 e
    · cases hs
  · rename_i h1 h2
    obtain ⟨y', hy, rfl⟩ := map_some' hc
    simp only [step] at hs
    split at hs
    · rename_i l e; cases hs; exact s_convId hw hf ho hy h1 h2 e
    · cases hs
  · rename_i e h1 h2
    split at hc
    · rename_i he
      obtain ⟨y', hy, rfl⟩ := map_some' hc
      simp only [step] at hs
      split at hs
      · rename_i l e; cases hs; exact s_toBytes hw hf ho hy h1 h2 he e
      · cases hs
    · cases hc
  · rename_i e h1 h2
    split at hc
    · rename_i he
      obtain ⟨y', hy, rfl⟩ := map_some' hc
      simp only [step] at hs
      split at hs
      · rename_i n hn
        split at hs
        · rename_i l hl
          split at hs
          · rename_i hln
            obtain ⟨r, hr, e⟩ := map_some' hs
            cases e
            exact s_toStr hw hf ho hy h1 h2 he hn hl hln hr
          · cases hs
        · cases hs
      · cases hs
    · cases hc
  · cases hc

theorem t_build (hw : WR P.globals.size R h w) (hf : FRel R fr a) {op : AOp} {x : AV} {t : TypeId} {ps : Array (Nat × Operand)} (ho : o.op = .build t ps) (hc : buildC P t ps.toList = some op) (hs : step op fr h = some (.val x h')) : StepsTo P o a R h w x h' := by
  unfold buildC at hc
  split at hc
  · rename_i z fs hz hu
    split at hc
    · rename_i hh
      obtain ⟨qs, hq, rfl⟩ := map_some' hc
      simp only [step] at hs
      obtain ⟨l, hl, e⟩ := map_some' hs
      cases e
      exact s_build hw hf ho hz hu hh.2 hq hl
    · cases hc
  · rename_i z n e hz hu
    split at hc
    · rename_i sz hsz
      split at hc
      · obtain ⟨qs, hq, rfl⟩ := map_some' hc
        simp only [step] at hs
        obtain ⟨l, hl, e⟩ := map_some' hs
        cases e
        exact s_buildA hw hf ho hz hu hsz hq hl
      · cases hc
    · cases hc
  · cases hc

theorem t_row (hw : WR P.globals.size R h w) (hf : FRel R fr a) {op : AOp} {x : AV} {t : TypeId} {n : Nat} {ps : Array (Nat × Operand)} (ho : o.op = .buildSlice t n ps) (hc : rowC P t n ps.toList = some op) (hs : step op fr h = some (.val x h')) : StepsTo P o a R h w x h' := by
  unfold rowC at hc
  split at hc
  · rename_i e hu
    split at hc
    · rename_i sz z hsz hz
      split at hc
      · rename_i hh
        obtain ⟨qs, hq, rfl⟩ := map_some' hc
        simp only [step] at hs
        obtain ⟨l, hl, e⟩ := map_some' hs
        cases e
        exact s_row hw hf ho hu hsz hz hh.1 hh.2.1 hh.2.2.1 hh.2.2.2 hq hl
      · cases hc
    · cases hc
  · cases hc

theorem t_make (hw : WR P.globals.size R h w) (hf : FRel R fr a) {op : AOp} {x : AV} {t : TypeId} {l c : Operand} (ho : o.op = .makeSlice t l c) (hc : makeC P t l c = some op) (hs : step op fr h = some (.val x h')) : StepsTo P o a R h w x h' := by
  unfold makeC at hc
  split at hc
  · rename_i e l' c' hu hl hcc
    split at hc
    · rename_i sz b z hsz hb hz
      split at hc
      · rename_i hh
        cases hc
        simp only [step] at hs
        split at hs
        · rename_i n m hn hm
          split at hs
          · rename_i h2
            cases hs
            exact s_mksl hw hf ho hu hl hcc hsz hb hz hh.1 hh.2.1 hh.2.2.1 hh.2.2.2 hn hm h2.1 h2.2.1
          · cases hs
        · cases hs
      · cases hc
    · cases hc
  · cases hc

theorem t_slice (hw : WR P.globals.size R h w) (hf : FRel R fr a) {op : AOp} {x : AV} {t : TypeId} {y : Operand} {lo hi mx : Option Operand} (ho : o.op = .slice t y lo hi mx) (hc : sliceC P t y lo hi mx = some op) (hs : step op fr h = some (.val x h')) : StepsTo P o a R h w x h' := by
  unfold sliceC at hc
  split at hc
  · rename_i y' lo' hi' hu hy hlo hhi hmx
    cases hc
    have := optC_none hmx
    subst this
    simp only [step] at hs
    split at hs
    · rename_i s e
      split at hs
      · rename_i l k hl hk
        split at hs
        · rename_i hh
          cases hs
          exact s_sliceS hw hf ho hu hy e (bnd_of hw hf hlo hhi hmx hl hk rfl (fun hne => absurd rfl hne)) hh.1 hh.2
        · cases hs
      · cases hs
    · cases hs
  · rename_i e y' lo' hi' mx' hu hy hlo hhi hmx
    split at hc
    · rename_i sz hsz
      split at hc
      · rename_i hh
        cases hc
        simp only [step] at hs
        split at hs
        · rename_i n l hn hl
          split at hs
          · rename_i k m hk hm
            obtain ⟨z, hz, e⟩ := map_some' hs
            cases e
            refine s_sliceL hw hf ho hu hsz hy hn (bnd_of hw hf hlo hhi hmx hl hk hm ?_) hz
            intro hne
            cases mx' with
            | none => exact absurd rfl hne
            | some q => have := hh.2 rfl; intro e; rw [e] at this; cases this
          · cases hs
        · cases hs
      · cases hc
    · cases hc
  · cases hc

theorem t_field (hw : WR P.globals.size R h w) (hf : FRel R fr a) {op : AOp} {x : AV} {t : TypeId} {y : Operand} {f : Nat} (ho : o.op = .field t y f) (hc : fieldC P t y f = some op) (hs : step op fr h = some (.val x h')) : StepsTo P o a R h w x h' := by
  unfold fieldC at hc
  split at hc
  · rename_i fd y' hfd hy
    split at hc
    · rename_i n ha hn
      cases hc
      simp only [step] at hs
      split at hs
      · rename_i l e
        obtain ⟨z, hz, e2⟩ := map_some' hs
        cases e2
        exact s_fieldN hw hf ho hy hfd ha hn e hz
      · cases hs
    · rename_i n ha hn
      cases hc
      simp only [step] at hs
      split at hs
      · rename_i l e
        obtain ⟨z, hz, e2⟩ := map_some' hs
        cases e2
        exact s_field hw hf ho hy hfd ha e hz
      · cases hs
    · cases hc
  · cases hc

theorem t_faddr (hw : WR P.globals.size R h w) (hf : FRel R fr a) {op : AOp} {x : AV} {t : TypeId} {y : Operand} {f : Nat} (ho : o.op = .fieldAddr t y f) (hc : faddrC P t y f = some op) (hs : step op fr h = some (.val x h')) : StepsTo P o a R h w x h' := by
  unfold faddrC at hc
  split at hc
  · rename_i fd y' hfd hy
    split at hc
    · rename_i n hn
      split at hc
      · rename_i hn0
        cases hc
        simp only [step] at hs
        split at hs
        · rename_i i v k e; cases hs; exact s_faddr hw hf ho hy hfd hn hn0 e
        · cases hs
      · cases hc
    · cases hc
  · cases hc

theorem t_iaddr (hw : WR P.globals.size R h w) (hf : FRel R fr a) {op : AOp} {x : AV} {t : TypeId} {y i : Operand} (ho : o.op = .indexAddr t y i) (hc : iaddrC P t y i = some op) (hs : step op fr h = some (.val x h')) : StepsTo P o a R h w x h' := by
  unfold iaddrC at hc
  split at hc
  · rename_i e y' i' hu hy hi
    split at hc
    · rename_i sz hsz
      cases hc
      simp only [step] at hs
      split at hs
      · rename_i j v q n sz' full k e1 e2
        split at hs
        · rename_i hh
          cases hs
          obtain ⟨hlt, rfl⟩ := hh
          exact s_iaddr hw hf ho hu hy hi hsz e1 e2 hlt
        · cases hs
      · cases hs
    · cases hc
  · rename_i n e y' i' hu hy hi
    split at hc
    · rename_i sz hsz
      cases hc
      simp only [step] at hs
      split at hs
      · rename_i j v q k e1 e2
        split at hs
        · rename_i hlt; cases hs; exact s_iaddrA hw hf ho hu hy hi hsz e1 e2 hlt
        · cases hs
      · cases hs
    · cases hc
  · cases hc

theorem t_index (hw : WR P.globals.size R h w) (hf : FRel R fr a) {op : AOp} {x : AV} {t : TypeId} {y i : Operand} (ho : o.op = .index t y i) (hc : indexC P t y i = some op) (hs : step op fr h = some (.val x h')) : StepsTo P o a R h w x h' := by
  unfold indexC at hc
  split at hc
  · rename_i y' i' hu hy hi
    cases hc
    simp only [step] at hs
    split at hs
    · rename_i s k e1 e2
      split at hs
      · rename_i b hb; cases hs; exact s_idxS hw hf ho hu hy hi e1 e2 hb
      · cases hs
    · cases hs
  · rename_i n e y' i' hu hy hi
    split at hc
    · rename_i sz ha hsz
      cases hc
      simp only [step] at hs
      split at hs
      · rename_i l k e1 e2
        split at hs
        · rename_i hlt
          obtain ⟨z, hz, e3⟩ := map_some' hs
          cases e3
          exact s_idxAN hw hf ho hu hy hi ha hsz e1 e2 hlt hz
        · cases hs
      · cases hs
    · rename_i sz ha hsz
      split at hc
      · rename_i h1
        cases hc
        subst h1
        simp only [step] at hs
        split at hs
        · rename_i l k e1 e2
          split at hs
          · rename_i hlt
            obtain ⟨z, hz, e3⟩ := map_some' hs
            cases e3
            exact s_idxA hw hf ho hu hy hi ha hsz e1 e2 hlt hz
          · cases hs
        · cases hs
      · cases hc
    · cases hc
  · cases hc

theorem t_look (hw : WR P.globals.size R h w) (hf : FRel R fr a) {op : AOp} {x : AV} {t : TypeId} {y i : Operand} {ok : Bool} (ho : o.op = .lookup t y i ok) (hc : lookC P t y i ok = some op) (hs : step op fr h = some (.val x h')) : StepsTo P o a R h w x h' := by
  unfold lookC at hc
  split at hc
  · rename_i k e y' i' hu hy hi
    split at hc
    · rename_i z d hz hd
      cases hc
      simp only [step] at hs
      split at hs
      · split at hs
        · rename_i es hes
          split at hs
          · rename_i r hr; cases hs; exact s_look hw hf ho hu hy hi hz hd hes hr
          · cases hs
        · cases hs
      · cases hs
    · cases hc
  · cases hc

theorem t_upd (hw : WR P.globals.size R h w) (hf : FRel R fr a) {op : AOp} {x : AV} {t : TypeId} {m k y : Operand} (ho : o.op = .mapUpdate t m k y ∨ o.op = .insert t m k y) (hc : updC P t m k y = some op) (hs : step op fr h = some (.val x h')) : StepsTo P o a R h w x h' := by
  unfold updC at hc
  split at hc
  · rename_i kt e m' k' y' hu hm hk hy
    split at hc
    · rename_i d hd
      cases hc
      simp only [step] at hs
      split at hs
      · rename_i j e1
        split at hs
        · rename_i es hes
          split at hs
          · rename_i hh
            split at hs
            · rename_i r hr; cases hs; exact s_upd hw hf ho hu hm hk hy hd e1 hes hh.1 hr
            · cases hs
          · cases hs
        · cases hs
      · cases hs
    · cases hc
  · cases hc

theorem list2 {α : Type} {x : Array α} {p q : α} (h : x.toList = [p, q]) : x = #[p, q] := by cases x; simp only at h; rw [h]
theorem list1 {α : Type} {x : Array α} {p : α} (h : x.toList = [p]) : x = #[p] := by cases x; simp only at h; rw [h]

theorem te_call (hw : WR P.globals.size R h w) (hf : FRel R fr a) {op : AOp} {x : AV} {c : Call} (ho : o.op = .call c) (hc : callC P c = some op) (hs : step op fr h = some (.val x h')) : StepsTo P o a R h w x h' := by
  obtain ⟨callee, args, ts⟩ := c
  unfold callC at hc
  simp only at hc
  split at hc
  · rename_i b
    unfold builtinC at hc
    split at hc
    · split at hc
      · rename_i s y t u e1 e2
        have := list2 e1; subst this; have := list2 e2; subst this
        unfold appC at hc
        split at hc
        · rename_i e d s' y' ht hu hss hy
          split at hc
          · rename_i sz b z hsz hb hz
            split at hc
            · rename_i hh
              cases hc
              simp only [step] at hs
              obtain ⟨⟨v, h2⟩, hv, e⟩ := map_some' hs
              cases e
              exact s_app hw hf ho ht hu hh.2.2.2 hss hy hsz hb hz hh.2.2.1 hh.2.1 hh.1 hv
            · cases hc
          · cases hc
        · cases hc
      · cases hc
    · split at hc
      · rename_i s y t u e1 e2
        have := list2 e1; subst this; have := list2 e2; subst this
        unfold copyC at hc
        split at hc
        · rename_i e d' s' ht hd hss
          split at hc
          · rename_i sz hsz
            cases hc
            simp only [step] at hs
            split at hs
            · rename_i i v q n sz' full m e1 hm
              split at hs
              · rename_i hh
                obtain ⟨rfl, h0⟩ := hh
                split at hs
                · rename_i h00; cases hs; exact s_copy0 hw hf ho ht hd hss hsz (.inr ⟨_, _, _, _, e1⟩) hm h00
                · rename_i h00
                  split at hs
                  · rename_i l hl
                    split at hs
                    · rename_i hll
                      obtain ⟨h2, hr, e⟩ := map_some' hs
                      cases e
                      exact s_copy hw hf ho ht hd hss hsz e1 hm h00 hl hll hr
                    · cases hs
                  · cases hs
              · cases hs
            · rename_i m e1 hm; cases hs; exact s_copy0 hw hf ho ht hd hss hsz (.inl ⟨e1, rfl⟩) hm (by omega)
            · cases hs
          · cases hc
        · cases hc
      · cases hc
    · split at hc
      · rename_i y t e1 e2
        have := list1 e1; subst this; have := list1 e2; subst this
        unfold lenC at hc
        split at hc
        · rename_i y' ht hy
          cases hc
          simp only [step] at hs
          split at hs
          · rename_i s e; cases hs; exact s_lenS hw hf ho ht hy e
          · cases hs
        · rename_i e y' ht hy
          cases hc
          simp only [step] at hs
          split at hs
          · rename_i n e; cases hs; exact s_lenL hw hf ho ht hy e
          · cases hs
        · rename_i k e y' ht hy
          cases hc
          simp only [step] at hs
          split at hs
          · rename_i e; cases hs; exact s_lenM0 hw hf ho ht hy e
          · rename_i j e
            split at hs
            · rename_i es hes; cases hs; exact s_lenM hw hf ho ht hy e hes
            · cases hs
          · cases hs
        · cases hc
      · cases hc
    · split at hc
      · rename_i y z e1
        have := list2 e1; subst this
        unfold minC at hc
        split at hc
        · rename_i y' z' hy hz
          cases hc
          simp only [step] at hs
          split at hs
          · rename_i k m j n e1 e2
            split at hs
            · cases hs; exact min_sound hw hf ho hy hz e1 e2
            · cases hs
          · cases hs
        · cases hc
      · cases hc
    · split at hc
      · rename_i y z e1
        have := list2 e1; subst this
        unfold maxC at hc
        split at hc
        · rename_i y' z' hy hz
          cases hc
          simp only [step] at hs
          split at hs
          · rename_i k m j n e1 e2
            split at hs
            · cases hs; exact max_sound hw hf ho hy hz e1 e2
            · cases hs
          · cases hs
        · cases hc
      · cases hc
    · cases hc
  · split at hc
    · cases hc
      simp only [step] at hs
      split at hs <;> cases hs
    · cases hc
  · cases hc

theorem step_sound (hw : WR P.globals.size R h w) (hf : FRel R fr a) {op : AOp} {x : AV} (hc : opC P o = some op) (hs : step op fr h = some (.val x h')) : StepsTo P o a R h w x h' := by
  unfold opC at hc
  split at hc
  · rename_i y ho
    obtain ⟨y', hy, rfl⟩ := map_some' hc
    simp only [step] at hs; cases hs
    exact s_mv hw hf (.inl ho) hy
  · rename_i y ho
    obtain ⟨y', hy, rfl⟩ := map_some' hc
    simp only [step] at hs; cases hs
    exact s_mv hw hf (.inr ho) hy
  · rename_i c y z ho
    split at hc
    · rename_i c' y' z' h1 h2 h3
      cases hc
      simp only [step] at hs
      split at hs
      · rename_i t ht; cases hs; exact s_pick hw hf ho h1 h2 h3 ht
      · cases hs
    · cases hc
  · rename_i t ho
    split at hc
    · rename_i z n hz hn
      split at hc
      · rename_i hh
        cases hc
        simp only [step] at hs; cases hs
        exact s_new hw ho hz hh.1 hh.2
      · cases hc
    · cases hc
  · rename_i t y ho
    split at hc
    · rename_i n y' hn hy
      cases hc
      simp only [step] at hs
      split at hs
      · rename_i hh; cases hs; exact s_box hw hf ho hy hh.2
      · cases hs
    · cases hc
  · rename_i t ps ho; exact t_build hw hf ho hc hs
  · rename_i t n ps ho; exact t_row hw hf ho hc hs
  · rename_i t y ho
    split at hc
    · rename_i n y' ha hn hy
      cases hc
      simp only [step] at hs
      obtain ⟨l, hl, e⟩ := map_some' hs
      cases e
      exact s_loadN hw hf ho hy ha hn hl
    · rename_i n y' ha hn hy
      cases hc
      simp only [step] at hs
      obtain ⟨l, hl, e⟩ := map_some' hs
      cases e
      exact s_load hw hf ho hy ha hl
    · cases hc
  · rename_i t y z ho
    split at hc
    · rename_i n y' z' hn hy hz
      cases hc
      simp only [step] at hs
      split at hs
      · rename_i hl
        obtain ⟨h2, hr, e⟩ := map_some' hs
        cases e
        exact s_store hw hf ho hn hy hz hl hr
      · cases hs
    · cases hc
  · rename_i y ho
    obtain ⟨y', hy, rfl⟩ := map_some' hc
    simp only [step] at hs
    split at hs
    · rename_i i v k he; cases hs; have := s_nilck hw hf ho hy (.inl ⟨_, _, _, he⟩); rw [he] at this; exact this
    · rename_i f l m he; cases hs; have := s_nilck hw hf ho hy (.inr ⟨_, _, _, he⟩); rw [he] at this; exact this
    · cases hs
  · rename_i bop t y z yt ho
    split at hc
    · rename_i y' z' hy hz
      cases hc
      simp only [step] at hs
      obtain ⟨v, hv, e⟩ := map_some' hs
      cases e
      exact s_bin hw hf ho hy hz hv
    · cases hc
  · rename_i uop t y ho
    obtain ⟨y', hy, rfl⟩ := map_some' hc
    simp only [step] at hs
    obtain ⟨v, hv, e⟩ := map_some' hs
    cases e
    exact s_un hw hf ho hy hv
  · rename_i s d y ho; exact t_conv hw hf ho hc hs
  · rename_i fn y z ho
    split at hc
    · rename_i f y' z' hy hz
      cases hc
      simp only [step] at hs; cases hs
      exact s_mkfunc hw hf ho hy hz
    · cases hc
  · rename_i t r ho
    split at hc
    · cases hc
      simp only [step] at hs; cases hs
      exact s_mkmap hw ho
    · cases hc
  · rename_i t l c ho; exact t_make hw hf ho hc hs
  · rename_i t y lo hi mx ho; exact t_slice hw hf ho hc hs
  · rename_i t y f ho; exact t_faddr hw hf ho hc hs
  · rename_i t y f ho; exact t_field hw hf ho hc hs
  · rename_i t y i ho; exact t_iaddr hw hf ho hc hs
  · rename_i t y i ho; exact t_index hw hf ho hc hs
  · rename_i t y i ok ho; exact t_look hw hf ho hc hs
  · rename_i t m k y ho; exact t_upd hw hf (.inl ho) hc hs
  · rename_i t m k y ho; exact t_upd hw hf (.inr ho) hc hs
  · rename_i y i ho
    obtain ⟨y', hy, rfl⟩ := map_some' hc
    simp only [step] at hs
    split at hs
    · rename_i l e
      obtain ⟨z, hz, e2⟩ := map_some' hs
      cases e2
      exact s_ext hw hf ho hy e hz
    · cases hs
  · rename_i c ho; exact te_call hw hf ho hc hs
  · rename_i c ho
    unfold deferC at hc
    split at hc
    · split at hc
      · cases hc
        simp only [step] at hs
        split at hs <;> cases hs
      · cases hc
    · cases hc
  · rename_i t y ho
    split at hc
    · cases hc
    · rename_i d y' hne hu hy
      cases hc
      simp only [step] at hs; cases hs
      exact s_iface hw hf ho hu (fun m e => hne m e) hy
    · cases hc
  · cases hc
end
end Go.Kx
