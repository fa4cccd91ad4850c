/- THE ENGINE, part 26: code, calls, deferred calls: what the evaluator says, the model does. -/
import Derived.Scope
import Derived.RowKit3
import Derived.Test.YtmafgdnlggoljaaGreatDoorE4
namespace Go.Kx
open Go

section
variable {P : Program}

theorem nth_mask : ∀ (m : List Bool) (l : List AV) (t : Nat), nth (mask m l) t = nth l t ∨ nth (mask m l) t = .undef
  | [], l, t => by simp [mask]
  | b :: m, [], t => by simp [mask]
  | b :: m, x :: l, 0 => by cases b <;> simp [mask, nth]
  | b :: m, x :: l, t + 1 => by simpa [mask, nth] using nth_mask m l t
theorem mask_len : ∀ (m : List Bool) (l : List AV), (mask m l).length = l.length
  | [], l => by simp [mask]
  | b :: m, [] => by simp [mask]
  | b :: m, x :: l => by simp [mask, mask_len m l]
theorem FRel.mask {R : Rl} {fr : List AV} {a : Act} (h : FRel R fr a) (m : List Bool) : FRel R (mask m fr) a := by
  refine ⟨by rw [mask_len]; exact h.len, ?_⟩
  intro t
  rcases nth_mask m fr t with e | e
  · rw [e]; exact h.get t
  · rw [e]; exact .undef _

theorem nth_eq (l : List AV) (t : Nat) : nth l t = l.getD t .undef := by
  induction l generalizing t with
  | nil => simp [nth]
  | cons x l ih => cases t <;> simp [nth, ih]
theorem pad_rel {R : Rl} {args : List AV} {vs : Array Value} (h : VRs R args vs.toList) {n : Nat} (hn : ¬ n < args.length) : FRel R (pad n args) { tmps := vs ++ Array.replicate (n - vs.size) undef, defers := [] } := by
  have hl : args.length = vs.size := by simpa using h.length
  refine ⟨by simp [pad]; omega, ?_⟩
  intro t
  rw [nth_eq]
  simp only [pad, List.getD_eq_getElem?_getD, Array.getD_eq_getD_getElem?]
  by_cases ht : t < args.length
  · rw [List.getElem?_append_left ht, Array.getElem?_append_left (by omega)]
    obtain ⟨y, hy, hv⟩ := h.get t _ (List.getElem?_eq_getElem ht)
    rw [List.getElem?_eq_getElem ht]
    rw [Array.getElem?_toList] at hy
    rw [hy]
    exact hv
  · rw [List.getElem?_append_right (by omega)]
    have : ((List.replicate (n - args.length) AV.undef)[t - args.length]?).getD .undef = .undef := by
      rw [List.getElem?_replicate]; split <;> rfl
    rw [this]; exact .undef _

/- results -/
theorem resA_sound {R : Rl} {h : H} {w : World} {fr : List AV} {a : Act} (hw : WR P.globals.size R h w) (hf : FRel R fr a) {rv : ResultVar} {q : ARes} {x : AV} (hc : resC P rv = some q) (hx : resA h fr q = some x) :
    ∃ v, ((match rv with | .tmp t => pure (a.tmps.getD t undef) | .cell c t => do loadVar t (← asAddr (a.tmps.getD c undef)) : Sem Value)).run P w = .ok v w ∧ VR R x v := by
  cases rv with
  | tmp t =>
    simp only [resC] at hc; cases hc
    simp only [resA] at hx; cases hx
    exact ⟨_, rfl, hf.get t⟩
  | cell c t =>
    simp only [resC] at hc
    split at hc
    · rename_i n ha hs
      cases hc
      simp only [resA] at hx
      obtain ⟨l, hl, rfl⟩ := map_some' hx
      obtain ⟨b, of, cs, hp, hlen, hcell, hvr⟩ := rdN_sound hw hl (hf.get c)
      have hrun := run_loadCells_list (P := P) w ⟨b, of, none⟩ cs hcell
      rw [hlen] at hrun
      refine ⟨.agg cs.toArray, ?_, .agg _ _ (by simpa using hvr)⟩
      simp only
      rw [hp]
      simp [asAddr, loadVar, aggT_run ha, szT_run hs, hrun]
    · rename_i n ha hs
      cases hc
      simp only [resA] at hx
      obtain ⟨b, of, v, hp, hcell, hvr⟩ := rd_sound hw hx (hf.get c)
      refine ⟨v, ?_, hvr⟩
      simp only
      rw [hp]
      simp [asAddr, loadVar, aggT_run ha, hcell]
    · cases hc
theorem resAs_sound {R : Rl} {h : H} {w : World} {fr : List AV} {a : Act} (hw : WR P.globals.size R h w) (hf : FRel R fr a) (g : ResultVar → Value)
    (hg : ∀ rv v, ((match rv with | .tmp t => pure (a.tmps.getD t undef) | .cell c t => do loadVar t (← asAddr (a.tmps.getD c undef)) : Sem Value)).run P w = .ok v w → g rv = v) :
    ∀ {l : List ResultVar} {q : List ARes} {x : List AV}, ressC P l = some q → resAs h fr q = some x →
      (∀ rv ∈ l, ((match rv with | .tmp t => pure (a.tmps.getD t undef) | .cell c t => do loadVar t (← asAddr (a.tmps.getD c undef)) : Sem Value)).run P w = .ok (g rv) w) ∧ VRs R x (l.map g)
  | [], q, x, hc, hx => by
    simp only [ressC] at hc; cases hc
    simp only [resAs] at hx; cases hx
    exact ⟨fun rv h => (by cases h), .nil⟩
  | rv :: l, q, x, hc, hx => by
    simp only [ressC] at hc
    split at hc
    · rename_i q1 q2 h1 h2
      cases hc
      simp only [resAs] at hx
      split at hx
      · rename_i x1 x2 g1 g2
        cases hx
        obtain ⟨v, hv, hvr⟩ := resA_sound hw hf h1 g1
        obtain ⟨a1, a2⟩ := resAs_sound hw hf g hg h2 g2
        have e := hg rv v hv
        refine ⟨?_, ?_⟩
        · intro rv' hm
          rcases List.mem_cons.1 hm with rfl | hm
          · rw [e]; exact hv
          · exact a1 rv' hm
        · rw [List.map_cons, e]; exact .cons _ _ _ _ hvr a2
      · cases hx
    · cases hc

theorem results_sound {R : Rl} {h : H} {w : World} {fr : List AV} {a : Act} (hw : WR P.globals.size R h w) (hf : FRel R fr a) {fn : Func} {b : AFn} {x : AV} (hc : ressC P fn.results.toList = some b.res) (hx : results b fr h = some x) :
    ∃ v, (Go.results fn a.tmps).run P w = .ok v w ∧ VR R x v := by
  unfold results at hx
  have main : ∀ xs, resAs h fr b.res = some xs → ∃ vs : Array Value, (fn.results.mapM (fun | .tmp t => pure (a.tmps.getD t undef) | .cell c t => do loadVar t (← asAddr (a.tmps.getD c undef)) : ResultVar → Sem Value)).run P w = .ok vs w ∧ VRs R xs vs.toList := by
    intro xs hxs
    obtain ⟨a1, a2⟩ := resAs_sound hw hf (fun rv => match ((match rv with | .tmp t => pure (a.tmps.getD t undef) | .cell c t => do loadVar t (← asAddr (a.tmps.getD c undef)) : Sem Value)).run P w with | .ok v _ => v | _ => undef) (fun rv v hv => by simp only [hv]) hc hxs
    refine ⟨_, run_mapM_array _ _ w fn.results (fun rv hm => ?_), by rw [Array.toList_map]; exact a2⟩
    have := a1 rv hm
    cases rv <;> exact this
  have fin : ∀ vs : Array Value, (fn.results.mapM (fun | .tmp t => pure (a.tmps.getD t undef) | .cell c t => do loadVar t (← asAddr (a.tmps.getD c undef)) : ResultVar → Sem Value)).run P w = .ok vs w → (Go.results fn a.tmps).run P w = .ok (if h : vs.size = 1 then vs[0] else .tuple vs) w := by
    intro vs hvs
    unfold Go.results
    rw [Sem.run_bind]
    refine Eq.trans (congrArg (fun z => Result.andThen z _) hvs) ?_
    rfl
  split at hx
  · rename_i x1 hxs
    cases hx
    obtain ⟨vs, h1, h2⟩ := main _ hxs
    have hl := h2.length
    simp at hl
    refine ⟨_, fin vs h1, ?_⟩
    rw [dif_pos hl.symm]
    obtain ⟨y, hy, hv⟩ := h2.get 0 x rfl
    have : vs[0]? = some vs[0] := Array.getElem?_eq_getElem (by omega)
    rw [Array.getElem?_toList, this] at hy
    cases hy; exact hv
  · rename_i l hne hxs
    cases hx
    obtain ⟨vs, h1, h2⟩ := main _ hxs
    have hl := h2.length
    refine ⟨_, fin vs h1, ?_⟩
    rw [dif_neg]
    · exact .tup _ _ h2
    · intro h1
      have : l.length = 1 := by rw [hl]; simpa using h1
      match l, this with
      | [x], _ => exact hne x rfl
  · cases hx

/- code -/
def exR : Ex → Exit
  | .normal => .normal
  | .exit i => .exit i
  | .ret => .ret

def After (P : Program) (R : Rl) (h : H) (w : World) (r : Res) (Q : Exit → Act → World → Prop) : Prop :=
  ∀ R' w' a', Go2 P.globals.size R h w R' r.h w' → FRel R' r.fr a' → DR R' r.d a'.defers → Q (exR r.x) a' w'
def WpOK (P : Program) (C : Code) (fr : List AV) (d : List Df) (h : H) (r : Res) : Prop :=
  ∀ (R : Rl) (w : World) (a : Act) (Q : Exit → Act → World → Prop), WR P.globals.size R h w → FRel R fr a → DR R d a.defers → After P R h w r Q → C.wp P Q a w
def LoopWp (P : Program) (C : Code) (Q : Exit → Act → World → Prop) (a : Act) (w : World) : Prop :=
  ∀ (b : Frame) (k : List Go.Item) (cs : List Frame), ∃ e a' w', Q e a' w' ∧ Arrives P (lone (b.at a (.code C :: .inLoop C :: k)) cs w) b k cs e a' w'
def LoopOK (P : Program) (C : Code) (fr : List AV) (d : List Df) (h : H) (r : Res) : Prop :=
  ∀ (R : Rl) (w : World) (a : Act) (Q : Exit → Act → World → Prop), WR P.globals.size R h w → FRel R fr a → DR R d a.defers → After P R h w r Q → LoopWp P C Q a w

def Big (P : Program) (c : AC) (fr : List AV) (d : List Df) (h : H) (r : Res) : Prop := match c with
  | .ops l => Trace P l fr d h r
  | .loop _ c0 => ∀ C ms ms', codeC P C ms = some (c0, ms') → LoopOK P C fr d h r
  | c => ∀ C ms ms', codeC P C ms = some (c, ms') → WpOK P C fr d h r

theorem trace_normal {L : List ItemC} {fr : List AV} {d : List Df} {h : H} {r : Res} (ht : Trace P L fr d h r) : r.x = .normal := by
  induction ht <;> first | rfl | assumption

theorem loop_of {C : Code} {Q : Exit → Act → World → Prop} {a : Act} {w : World} (h : LoopWp P C Q a w) : (Code.loop C).wp P Q a w := by
  intro b k cs
  obtain ⟨e, a', w', hq, harr⟩ := h b k cs
  exact ⟨e, a', w', hq, .of_steps (.one step_loop) harr⟩
theorem loop_step {C : Code} {Q : Exit → Act → World → Prop} {a : Act} {w : World} (h : C.wp P (Exit.then (LoopWp P C Q) Q) a w) : LoopWp P C Q a w := by
  intro b k cs
  obtain ⟨e, a₁, w₁, hq, harr⟩ := h b (.inLoop C :: k) cs
  cases e with
  | normal =>
    obtain ⟨e₂, a₂, w₂, hq₂, harr₂⟩ := hq b k cs
    exact ⟨e₂, a₂, w₂, hq₂, .of_steps (Steps.trans harr (.one step_inLoop)) harr₂⟩
  | exit id => exact ⟨_, a₁, w₁, hq, .pass (x := .inLoop C) rfl (fun _ _ => .inl (by simp)) harr⟩
  | goto l => exact ⟨_, a₁, w₁, hq, .pass (x := .inLoop C) rfl (fun _ _ => .inl (by simp)) harr⟩
  | ret => exact ⟨_, a₁, w₁, hq, .pass (x := .inLoop C) rfl (fun _ _ => .inl (by simp)) harr⟩
  | panic ch => exact ⟨_, a₁, w₁, hq, .pass (x := .inLoop C) rfl (fun _ _ => .inl (by simp)) harr⟩
  | outgrown => exact ⟨_, a₁, w₁, hq, .pass (x := .inLoop C) rfl (fun _ _ => .inl (by simp)) harr⟩

def NS (C : Code) : Prop := ∀ c, C ≠ .scope c
theorem wpok_scope {C : Code} {fr : List AV} {d : List Df} {h : H} {r : Res} (hC : WpOK P C fr d h r) : WpOK P (.scope C) fr d h r := by
  intro R w a Q hw hf hd hq
  apply wp_scope_straight
  refine hC R w a _ hw hf hd ?_
  intro R' w' a' h1 h2 h3
  have := hq R' w' a' h1 h2 h3
  cases hx : r.x <;> rw [hx] at this <;> exact this
theorem scope_ind {c : AC} {fr : List AV} {d : List Df} {h : H} {r : Res} (hns : ∀ C ms ms', NS C → codeC P C ms = some (c, ms') → WpOK P C fr d h r) : ∀ C ms ms', codeC P C ms = some (c, ms') → WpOK P C fr d h r := by
  intro C
  induction C with
  | scope c ih => intro ms ms' hc; simp only [codeC] at hc; exact wpok_scope (ih ms ms' hc)
  | _ => intro ms ms' hc; exact hns _ _ _ (by intro c h; cases h) hc

theorem big_wp (hm : P.follows .mixedOrders = true) {c : AC} {fr : List AV} {d : List Df} {h : H} {r : Res} (hb : Big P c fr d h r) {C : Code} {ms ms' : List (List Bool)} (hc : codeC P C ms = some (c, ms')) : WpOK P C fr d h r := by
  cases c with
  | ops l =>
    simp only [Big] at hb
    have hn := trace_normal hb
    refine scope_ind (c := .ops l) ?_ C ms ms' hc
    clear hc
    intro C ms ms' hns hc R w a Q hw hf hd hq
    have hq' : ∀ R' w' a', Go2 P.globals.size R h w R' r.h w' → FRel R' r.fr a' → DR R' r.d a'.defers → Q .normal a' w' := by
      intro R' w' a' h1 h2 h3
      have := hq R' w' a' h1 h2 h3
      rw [hn] at this; exact this
    unfold codeC at hc
    split at hc <;> try (cases hc; done)
    · obtain ⟨its, hits, e⟩ := map_some' hc
      cases e
      apply wp_region_list
      exact region_wp hb _ its hits (by rw [List.map_map]; exact List.map_id its) R w a hw hf hd hq'
    · obtain ⟨its, hits, e⟩ := map_some' hc
      cases e
      exact draw_wp hm hits hb hw hf hd hq'
    case h_11 => exact absurd rfl (hns _)
    all_goals
      exfalso
      revert hc
      (repeat' split) <;> simp
  | loop m c0 =>
    refine scope_ind (c := .loop m c0) ?_ C ms ms' hc
    clear hc
    intro C ms ms' hns hc
    unfold codeC at hc
    split at hc <;> try (cases hc; done)
    case h_7 C0 ms0 =>
      split at hc
      · rename_i x r' h1
        cases hc
        intro R w a Q hw hf hd hq
        exact loop_of (hb _ _ _ h1 R w a Q hw hf hd hq)
      · cases hc
    case h_11 => exact absurd rfl (hns _)
    all_goals
      exfalso
      revert hc
      (repeat' split) <;> simp [Option.map_eq_some_iff]
  | skip => exact hb C ms ms' hc
  | exit i => exact hb C ms ms' hc
  | ret => exact hb C ms ms' hc
  | seq a b => exact hb C ms ms' hc
  | cond a b c => exact hb C ms ms' hc
  | block i c => exact hb C ms ms' hc
end
end Go.Kx
/- THE ENGINE, part 27: THE LAW OF THE EVALUATOR. -/
namespace Go.Kx
open Go

section
variable {P : Program}

structure EnvOK (P : Program) (E : Env) : Prop where
  body : ∀ f b, E.body f = some b → ∃ m, fnC P f m = some b
  hook : ∀ f g, E.hook f = some g → ∀ args h r, g args h = some r → CallOK P f args h r

theorem fnC_spec {f : FuncId} {m : List (List Bool)} {b : AFn} (h : fnC P f m = some b) : ∃ fn c ms, P.funcs[f]? = some fn ∧ fn.name ≠ "runtime.NumGoroutine" ∧ fn.body = some c ∧ codeC P c m = some (b.code, ms) ∧ ressC P fn.results.toList = some b.res ∧ b.ntmps = fn.ntmps := by
  unfold fnC at h
  split at h
  · cases h
  · rename_i fn hf
    split at h
    · cases h
    · rename_i hn
      split at h
      · cases h
      · rename_i c hb
        split at h
        · rename_i x ms r hc hr
          cases h
          exact ⟨fn, c, ms, hf, hn, hb, hc, hr, rfl⟩
        · cases h

def CallsOK (P : Program) (f : FuncId) (args : List AV) (h : H) (r : AV × H) : Prop :=
  ∀ (R : Rl) (w : World) (vs : Array Value), WR P.globals.size R h w → VRs R args vs.toList → Calls P f vs w (fun
    | .returned v, w' => ∃ R', Go2 P.globals.size R h w R' r.2 w' ∧ VR R' r.1 v
    | _, _ => False)

def DfOK (P : Program) (d : List Df) (h h' : H) : Prop :=
  ∀ (R : Rl) (w : World) (fn : Func) (tmps : Array Value) (RR : Ending → World → Prop) (ds : List Deferred), WR P.globals.size R h w → DR R d ds →
    (∀ R' w', Go2 P.globals.size R h w R' h' w' → ∃ v, (Go.results fn tmps).run P w' = .ok v w' ∧ RR (.returned v) w') → Leaves P fn tmps RR ds .returning w

theorem run_enter {f : FuncId} {fn : Func} {c : Code} (hf : P.funcs[f]? = some fn) (hname : fn.name ≠ "runtime.NumGoroutine") (hb : fn.body = some c) (args : Array Value) (w : World) :
    (callFunc f args).run P w = .ok (.enter f args) w := by
  simp [callFunc, hf, hname, hb]

theorem callOK_of (hm : P.follows .mixedOrders = true) {f : FuncId} {b : AFn} {m : List (List Bool)} (hb : fnC P f m = some b) {args : List AV} {h : H} {r : AV × H} (hc : CallsOK P f args h r) : CallOK P f args h r := by
  obtain ⟨fn, c, ms, hf, hn, hbody, _, _, _⟩ := fnC_spec hb
  intro R w vs hw hvs o a next Q hk
  rw [run_enter hf hn hbody, Oper.upon_enter]
  refine (hc R w vs hw hvs).mono ?_
  intro e w' he
  cases e with
  | returned v =>
    obtain ⟨R', hgo, hv⟩ := he
    exact hk R' w' v hgo hv
  | panicked chain => exact he.elim
  | outgrown => exact he.elim

/- a body, with its deferred calls -/
theorem calls_body (hm : P.follows .mixedOrders = true) {f : FuncId} {b : AFn} {m : List (List Bool)} (hb : fnC P f m = some b) {args : List AV} {h h' : H} {r : Res} {v : AV} (hn : ¬ b.ntmps < args.length)
    (hbig : Big P b.code (pad b.ntmps args) [] h r) (hx : ∀ i, r.x ≠ .exit i) (hd : DfOK P r.d r.h h') (hv : results b r.fr h' = some v) : CallsOK P f args h (v, h') := by
  obtain ⟨fn, c, ms, hf, _, hbody, hcode, hres, hnt⟩ := fnC_spec hb
  intro R w vs hw hvs
  refine calls_of_wp_defers hf hbody ?_
  have hwp := big_wp hm hbig hcode
  rw [← hnt]
  refine hwp R w _ _ hw (pad_rel hvs hn) .nil ?_
  intro R' w' a' hgo hfr hdr
  have key : Leaves P fn a'.tmps (fun | .returned v', w'' => ∃ R', Go2 P.globals.size R h w R' h' w'' ∧ VR R' v v' | _, _ => False) a'.defers .returning w' := by
    refine hd R' w' fn a'.tmps _ a'.defers hgo.wr hdr ?_
    intro R'' w'' hgo2
    obtain ⟨y, hy, hvr⟩ := results_sound hgo2.wr (hfr.ext hgo2.ext) hres hv
    exact ⟨y, hy, R'', hgo.trans hgo2, hvr⟩
  cases hxx : r.x with
  | normal => simp only [exR, bodyPostD]; exact key
  | ret => simp only [exR, bodyPostD]; exact key
  | exit i => exact absurd hxx (hx i)

theorem df_cons (hm : P.follows .mixedOrders = true) {x : Df} {b : AFn} {m : List (List Bool)} (hb : fnC P x.f m = some b) {l : List Df} {h h' : H} {r : Res} (hn : ¬ b.ntmps < x.args.length)
    (hbig : Big P b.code (pad b.ntmps x.args) [] h r) (hx : ended r.x = true) (hrd : r.d = []) (hv : (results b r.fr r.h).isSome = true) (hd : DfOK P l r.h h') : DfOK P (x :: l) h h' := by
  obtain ⟨fn0, c, ms, hf, hname, hbody, hcode, hres, hnt⟩ := fnC_spec hb
  obtain ⟨v, hv⟩ := Option.isSome_iff_exists.1 hv
  intro R w fn tmps RR ds hw hdr hk
  cases hdr with
  | cons f args as cap d ds' hvs hdr' =>
    have hinv : (invoke (.fn (.func f) cap) as).run P w = .ok (.enter f (as ++ cap)) w := by
      simp only [invoke]
      exact run_enter hf hname hbody _ _
    refine leaves_cons (by simp) hinv ?_
    have hcall : CallsD P f (as ++ cap) .returning w (fun e u' w' => u' = .returning ∧ (fun e w' => match e with | .returned _ => ∃ R', Go2 P.globals.size R h w R' r.h w' | _ => False) e w') := by
      refine callsD_of_wp hf hbody ?_
      have hwp := big_wp hm hbig hcode
      rw [← hnt]
      refine hwp R w _ _ hw (pad_rel hvs hn) .nil ?_
      intro R' w' a' hgo hfr hdr2
      rw [hrd] at hdr2
      have hde : a'.defers = [] := by
        generalize a'.defers = ds2 at hdr2
        cases hdr2; rfl
      obtain ⟨y, hy, hvr⟩ := results_sound hgo.wr hfr hres hv
      cases hxx : r.x with
      | normal => simp only [exR, bodyPost]; exact ⟨hde, y, hy, R', hgo⟩
      | ret => simp only [exR, bodyPost]; exact ⟨hde, y, hy, R', hgo⟩
      | exit i => rw [hxx] at hx; cases hx
    refine hcall.mono ?_
    rintro e u' w' ⟨rfl, he⟩
    cases e with
    | returned y =>
      obtain ⟨R', hgo⟩ := he
      refine hd R' w' fn tmps RR ds' hgo.wr (hdr'.ext hgo.ext) ?_
      intro R'' w'' hgo2
      exact hk R'' w'' (hgo.trans hgo2)
    | panicked chain => exact he.elim
    | outgrown => exact he.elim

theorem bind_some' {α β : Type} {a : Option α} {f : α → Option β} {y : β} (h : (a >>= f) = some y) : ∃ x, a = some x ∧ f x = some y := by
  cases a with
  | none => cases h
  | some x => exact ⟨x, rfl, h⟩

theorem After.trans {R R1 : Rl} {h h1 : H} {w w1 : World} {r : Res} {Q : Exit → Act → World → Prop} (hq : After P R h w r Q) (hgo : Go2 P.globals.size R h w R1 h1 w1) : After P R1 h1 w1 r Q :=
  fun R' w' a' g1 g2 g3 => hq R' w' a' (hgo.trans g1) g2 g3

theorem ev_law (hm : P.follows .mixedOrders = true) {E : Env} (hE : EnvOK P E) :
    (∀ (c : AC) (fr : List AV) (d : List Df) (h : H) (r : Res), ev E c fr d h = some r → Big P c fr d h r) ∧
    (∀ (f : FuncId) (args : List AV) (h : H) (r : AV × H), call E f args h = some r → CallOK P f args h r ∧ (E.hook f = none → CallsOK P f args h r)) ∧
    (∀ (d : List Df) (h r : H), defers E d h = some r → DfOK P d h r) := by
  apply ev.mutual_partial_correctness E (fun c fr d h r => Big P c fr d h r) (fun f args h r => CallOK P f args h r ∧ (E.hook f = none → CallsOK P f args h r)) (fun d h r => DfOK P d h r)
  · intro ev' call' ih1 ih2 c fr d h r hr
    split at hr
    · cases hr
      refine scope_ind ?_
      intro C ms ms' hns hc R w a Q hw hf hd hq
      unfold codeC at hc
      split at hc <;> try (cases hc; done)
      · exact wp_skip (hq R w a (Go2.refl hw) hf hd)
      case h_10 => exact wp_label (hq R w a (Go2.refl hw) hf hd)
      case h_11 => exact absurd rfl (hns _)
      all_goals
        exfalso
        revert hc
        (repeat' split) <;> simp [Option.map_eq_some_iff]
    · rename_i i
      cases hr
      refine scope_ind ?_
      intro C ms ms' hns hc R w a Q hw hf hd hq
      unfold codeC at hc
      split at hc <;> try (cases hc; done)
      case h_8 => cases hc; exact wp_exit (hq R w a (Go2.refl hw) hf hd)
      case h_11 => exact absurd rfl (hns _)
      all_goals
        exfalso
        revert hc
        (repeat' split) <;> simp [Option.map_eq_some_iff]
    · cases hr
      refine scope_ind ?_
      intro C ms ms' hns hc R w a Q hw hf hd hq
      unfold codeC at hc
      split at hc <;> try (cases hc; done)
      case h_9 => exact wp_ret (hq R w a (Go2.refl hw) hf hd)
      case h_11 => exact absurd rfl (hns _)
      all_goals
        exfalso
        revert hc
        (repeat' split) <;> simp [Option.map_eq_some_iff]
    · rename_i x y
      obtain ⟨r1, h1, h2⟩ := bind_some' hr
      have b1 := ih1 _ _ _ _ _ h1
      refine scope_ind ?_
      intro C ms ms' hns hc R w a Q hw hf hd hq
      unfold codeC at hc
      split at hc <;> try (cases hc; done)
      case h_4 A B _ =>
        split at hc
        · rename_i x' m1 hA
          split at hc
          · rename_i y' m2 hB
            cases hc
            apply wp_seq
            refine big_wp hm b1 hA R w a _ hw hf hd ?_
            intro R' w' a' hgo hfr hdr
            split at h2
            · rename_i hx
              rw [hx]
              have b2 := ih1 _ _ _ _ _ h2
              exact big_wp hm b2 hB R' w' a' Q hgo.wr hfr hdr (hq.trans hgo)
            · rename_i hx
              cases h2
              have := hq R' w' a' hgo hfr hdr
              cases hxx : r.x with
              | normal => exact absurd hxx hx
              | exit i => rw [hxx] at this; exact this
              | ret => rw [hxx] at this; exact this
          · cases hc
        · cases hc
      case h_11 => exact absurd rfl (hns _)
      all_goals
        exfalso
        revert hc
        (repeat' split) <;> simp [Option.map_eq_some_iff]
    · rename_i c' x y
      refine scope_ind ?_
      intro C ms ms' hns hc R w a Q hw hf hd hq
      unfold codeC at hc
      split at hc <;> try (cases hc; done)
      case h_5 _ cc A B =>
        split at hc
        · rename_i c2 x' m1 hcc hA
          split at hc
          · rename_i y' m2 hB
            cases hc
            have hv := opd_sound hw hf hcc
            split at hr
            · rename_i ho
              rw [ho] at hv
              generalize he : a.eval cc = u at hv
              cases hv
              exact wp_cond_true he (big_wp hm (ih1 _ _ _ _ _ hr) hA R w a Q hw hf hd hq)
            · rename_i ho
              rw [ho] at hv
              generalize he : a.eval cc = u at hv
              cases hv
              exact wp_cond_false he (big_wp hm (ih1 _ _ _ _ _ hr) hB R w a Q hw hf hd hq)
            · cases hr
          · cases hc
        · cases hc
      case h_11 => exact absurd rfl (hns _)
      all_goals
        exfalso
        revert hc
        (repeat' split) <;> simp [Option.map_eq_some_iff]
    · rename_i i c'
      obtain ⟨r1, h1, h2⟩ := bind_some' hr
      have b1 := ih1 _ _ _ _ _ h1
      refine scope_ind ?_
      intro C ms ms' hns hc R w a Q hw hf hd hq
      unfold codeC at hc
      split at hc <;> try (cases hc; done)
      case h_6 id' A _ =>
        split at hc
        · rename_i x' m1 hA
          cases hc
          apply wp_block
          refine big_wp hm b1 hA R w a _ hw hf hd ?_
          intro R' w' a' hgo hfr hdr
          split at h2
          · rename_i j hx
            rw [hx]
            simp only [exR, Exit.inBlock]
            split at h2
            · rename_i hj
              cases h2
              rw [if_pos hj]
              exact hq R' w' a' hgo hfr hdr
            · rename_i hj
              cases h2
              rw [if_neg hj]
              have := hq R' w' a' hgo hfr hdr
              rw [hx] at this; exact this
          · rename_i hx
            cases h2
            have := hq R' w' a' hgo hfr hdr
            cases hxx : r.x with
            | normal => rw [hxx] at this; exact this
            | exit i => exact absurd hxx (hx i)
            | ret => rw [hxx] at this; exact this
        · cases hc
      case h_11 => exact absurd rfl (hns _)
      all_goals
        exfalso
        revert hc
        (repeat' split) <;> simp [Option.map_eq_some_iff]
    · rename_i m c'
      obtain ⟨r1, h1, h2⟩ := bind_some' hr
      have b1 := ih1 _ _ _ _ _ h1
      intro C ms ms' hc R w a Q hw hf hd hq
      apply loop_step
      refine big_wp hm b1 hc R w a _ hw (hf.mask m) hd ?_
      intro R' w' a' hgo hfr hdr
      split at h2
      · rename_i hx
        rw [hx]
        have b2 := ih1 _ _ _ _ _ h2
        exact b2 C ms ms' hc R' w' a' Q hgo.wr hfr hdr (hq.trans hgo)
      · rename_i hx
        cases h2
        have := hq R' w' a' hgo hfr hdr
        cases hxx : r.x with
        | normal => exact absurd hxx hx
        | exit i => rw [hxx] at this; exact this
        | ret => rw [hxx] at this; exact this
    · cases hr; exact .nil _ _ _
    · rename_i i l
      split at hr
      · cases hr
      · rename_i hw
        exact .skip i l fr d h r hw (ih1 _ _ _ _ _ hr)
      · rename_i hw
        split at hr
        · cases hr
        · rename_i x h' hs
          split at hr
          · rename_i hk; exact .val i l fr d h r x h' hw hs hk (ih1 _ _ _ _ _ hr)
          · cases hr
        · rename_i f args hs
          exact .dfr i l fr d h r f args hw hs (ih1 _ _ _ _ _ hr)
        · rename_i f args hs
          obtain ⟨r1, h1, h2⟩ := bind_some' hr
          split at h2
          · rename_i hk
            exact .call i l fr d h r f args r1 hw hs (ih2 _ _ _ _ h1).1 hk (ih1 _ _ _ _ _ h2)
          · cases h2
  · intro ev' defers' ih1 ih3 f args h r hr
    split at hr
    · rename_i g hg
      exact ⟨hE.hook f g hg args h r hr, fun hn => by rw [hg] at hn; cases hn⟩
    · rename_i hg
      split at hr
      · cases hr
      · rename_i b hb
        obtain ⟨m, hfn⟩ := hE.body f b hb
        split at hr
        · cases hr
        · rename_i hn
          obtain ⟨r1, h1, h2⟩ := bind_some' hr
          have b1 := ih1 _ _ _ _ _ h1
          split at h2
          · cases h2
          · rename_i hx
            obtain ⟨h', h3, h4⟩ := bind_some' h2
            have b3 := ih3 _ _ _ h3
            cases hv : results b r1.fr h' with
            | none => rw [hv] at h4; cases h4
            | some v =>
              rw [hv] at h4
              simp only [Option.bind_some, Option.some.injEq] at h4
              subst h4
              have := calls_body hm hfn hn b1 (fun i hi => hx i hi) b3 hv
              exact ⟨callOK_of hm hfn this, fun _ => this⟩
  · intro ev' defers' ih1 ih3 d h r hr
    split at hr
    · cases hr
      intro R w fn tmps RR ds hw hdr hk
      cases hdr
      obtain ⟨v, h1, h2⟩ := hk R w (Go2.refl hw)
      exact ⟨v, h1, h2⟩
    · rename_i x l
      split at hr
      · cases hr
      · rename_i b hb
        obtain ⟨m, hfn⟩ := hE.body x.f b hb
        split at hr
        · cases hr
        · rename_i hn
          obtain ⟨r1, h1, h2⟩ := bind_some' hr
          have b1 := ih1 _ _ _ _ _ h1
          split at h2
          · rename_i hcond
            simp only [Bool.and_eq_true, List.isEmpty_iff] at hcond
            exact df_cons hm hfn hn b1 hcond.1.1 hcond.1.2 hcond.2 (ih3 _ _ _ h2)
          · cases h2

/- THE LAW -/
theorem call_law (hm : P.follows .mixedOrders = true) {E : Env} (hE : EnvOK P E) {f : FuncId} {args : List AV} {h : H} {r : AV × H} (hc : call E f args h = some r) (hh : E.hook f = none) : CallsOK P f args h r :=
  ((ev_law hm hE).2.1 f args h r hc).2 hh
end
end Go.Kx
/- THE ENGINE, part 28: the end of a law's call: nothing was writable, so all that was there is as it was. -/
namespace Go.Kx
open Go

theorem same_of {G : Nat} {R R' : Rl} {h h' : H} {w w' : World} (go : Go2 G R h w R' h' w') (hro : ∀ i ob, h.get i = some ob → ob.ro = true) (hm : ∀ i, h.gm i = none) : ∀ b, b < w.heap.size → w'.heap[b]? = w.heap[b]? := by
  intro b hb
  refine go.same b hb ?_
  rintro (⟨i, v, sh, ps, L, ob, h1, h2, h3, h4⟩ | ⟨i, es, h1, h2⟩)
  · rw [hro i ob h2] at h4; cases h4
  · rw [hm i] at h2; cases h2
theorem kept_of {G : Nat} {R R' : Rl} {h h' : H} {w w' : World} (go : Go2 G R h w R' h' w') (hro : ∀ i ob, h.get i = some ob → ob.ro = true) (hm : ∀ i, h.gm i = none) (may : MemPlace → Prop) : w.keptBut w' may := by
  refine ⟨go.os, go.out, ?_⟩
  intro i hi
  rw [same_of go hro hm i hi]
  cases hq : w.heap[i]? with
  | none => rfl
  | some o => cases o <;> first | exact ⟨rfl, rfl, rfl, fun _ _ => rfl⟩ | exact .inr ⟨rfl, rfl⟩ | rfl
theorem frozen_of {G : Nat} {R R' : Rl} {h h' : H} {w w' : World} (go : Go2 G R h w R' h' w') (hro : ∀ i ob, h.get i = some ob → ob.ro = true) (hm : ∀ i, h.gm i = none) (a : Addr) (ha : a.block < w.heap.size) : w'.frozen? a = w.frozen? a := by
  unfold World.frozen?
  rw [same_of go hro hm a.block ha]
end Go.Kx
