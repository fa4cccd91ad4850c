/- SCRIPTED RUNS, part 6: closed calls by the fast evaluator; ends; obligations. -/
import Derived.Test.YtmafgdnlggoljaaGreatDoorS1
import Derived.Test.YtmafgdnlggoljaaGreatDoorF1
namespace Go.Kx
open Go

def viewC (κ : Nm) (L : List (Nat × Obj)) (M : List (Nat × List (AV × AV))) (r : Option (AV × H)) : Option (AV × List (Option Obj) × List (Option (List (AV × AV)))) := match r with
  | some s => some (s.1, L.map (fun p => s.2.get (κ.i p.1)), M.map (fun p => s.2.gm (κ.i p.1)))
  | none => none
abbrev ViewF := Option AV × List Df × Option Ex × List Prop × List (Option Obj) × List (Option (List (AV × AV)))
def viewF (κ : Nm) (L : List (Nat × Obj)) (M : List (Nat × List (AV × AV))) (b : AFn) (r : Option St) : Option ViewF := match r with
  | some s => some (results b s.fr s.h, s.d, s.x, s.ob, L.map (fun p => s.h.get (κ.i p.1)), M.map (fun p => s.h.gm (κ.i p.1)))
  | none => none
def ofL (l : List Int) (j : Nat) : Int := l.getD j 0

section
variable {E : Env} {G : Nat}
theorem good_closed (hE : Plain E G) (hokf : ∀ f b, E.body f = some b → okFn b = true) {fuel : Nat} {i : ItemC} {l : List ItemC} {K : List KI} {FR FR1 args : List AV} {HS : H} {f nx : Nat} {κl : List (Nat × Nat)} {L : List (Nat × Obj)} {M : List (Nat × List (AV × AV))} {v : AV} {Q : Res → Prop}
    (hr : viewC (nmL G κl) L M ((fut E fuel).call f args HS) = some (v, objs (nmL G κl) L, maps (nmL G κl) M))
    (hw : wanted FR i.it.guard = some true) (hs : step i.it.op FR HS = some (.call f args)) (hk : i.chk = []) (hok : okK G (.c (.ops (i :: l)) :: K) = true)
    (hle : Nat.ble G nx = true) (hb : subB (nmL G κl) L M = true) (w : WfH (mkH nx L M)) (hF : putD FR i.it.dst v = rens (nmL G κl) FR1) (hf : belows nx FR1 = true)
    (gd : Good E G (.c (.ops l) :: K) FR1 (mkH nx L M) Q) : Good E G (.c (.ops (i :: l)) :: K) FR HS Q := by
  unfold viewC at hr
  split at hr
  · rename_i s hs1
    simp only [Option.some.injEq, Prod.mk.injEq] at hr
    obtain ⟨e1, e2, e3⟩ := hr
    have hc := fut_call hokf hs1
    have seg : Seg E (.c (.ops (i :: l)) :: K) FR [] HS (.c (.ops l) :: K) (putD FR i.it.dst v) [] s.2 :=
      .step (.call i l K FR [] HS f args v s.2 hw hs (by rw [hc, ← e1]) (by rw [hk]; rfl)) (.refl ..)
    exact Good.seg hE seg hok (sub_of hle hb e2 e3) w hF hf gd
  · cases hr

theorem good_fin (hE : Plain E G) {fuel : Nat} {b : AFn} {K : List KI} {FR : List AV} {HS : H} {g nx : Nat} {sc : List (Sc × Nat)} {l : List (Nat × Nat)} {L : List (Nat × Obj)} {M : List (Nat × List (AV × AV))} {ob : List Prop} {V : AV}
    (hr : viewF (nmL G l) L M b (runS E fuel K FR [] HS g sc []) = some (some (ren (nmL G l) V), [], some .ret, ob, objs (nmL G l) L, maps (nmL G l) M))
    (hob : ∀ p ∈ ob, p) (hok : okK G K = true) (hle : Nat.ble G nx = true) (hb : subB (nmL G l) L M = true) (w : WfH (mkH nx L M)) (hV : below nx V = true) : Good E G K FR HS (CallQ G b V (mkH nx L M)) := by
  unfold viewF at hr
  split at hr
  · rename_i s hs
    simp only [Option.some.injEq, Prod.mk.injEq] at hr
    obtain ⟨e0, e1, e2, e3, e4, e5⟩ := hr
    obtain ⟨_, o2⟩ := runS_ok hE.hook _ _ _ _ _ _ _ _ _ hs (by rw [e3]; exact hob)
    rw [e2] at o2
    obtain ⟨K', o2⟩ := o2
    rw [e1] at o2
    have hsub := sub_of hle hb e4 e5
    refine Good.ret hE o2 hok ?_
    intro ι h e
    refine ⟨rfl, rfl, _, e.comp hsub w, ?_⟩
    show results b (rens ι s.fr) h = _
    rw [results_ren e.rel e0]
    exact congrArg some (ren_comp (comp_lt ι (nmL G l) nx h.nx) hV).symm
  · cases hr
end

/- the first object holds no names -/
def objsP (κ : Nm) : List (Nat × Obj) → List (Option Obj)
  | [] => []
  | p :: L => some ⟨p.2.lo + κ.d p.1, p.2.hi + κ.d p.1, p.2.ro, p.2.l⟩ :: objs κ L
theorem objsP_eq {κ : Nm} {L : List (Nat × Obj)} (h : ∀ p ∈ L.head?, rens κ p.2.l = p.2.l) : objsP κ L = objs κ L := by
  cases L with
  | nil => rfl
  | cons p L =>
    have := h p (by simp)
    simp only [objsP, objs, List.map_cons, renO, this]

/- obligations -/
theorem wrap_i64 {c : Int} (h1 : -9223372036854775808 ≤ c) (h2 : c ≤ 9223372036854775807) : IntKind.i64.wrap c = c := by
  have hb : IntKind.i64.bits = 64 := rfl
  have hs : IntKind.i64.signed = true := rfl
  unfold IntKind.wrap
  rw [hb, hs]
  simp only [Bool.true_and]
  have e : (2 : Int) ^ 64 = 18446744073709551616 := by decide
  have e' : (2 : Int) ^ (64 - 1) = 9223372036854775808 := by decide
  rw [e, e']
  split <;> rename_i h <;> simp only [ge_iff_le, decide_eq_true_eq, decide_eq_false_iff_not] at h <;> omega
section
variable {e : EqT} {a b c : Int}
theorem b_add (hc : c = a + b) (h1 : -9223372036854775808 ≤ c) (h2 : c ≤ 9223372036854775807) : binA .add e (.int .i64 a) (.int .i64 b) = some (.int .i64 c) := by
  subst hc; simp only [binA, if_true, wrap_i64 h1 h2]
theorem b_sub (hc : c = a - b) (h1 : -9223372036854775808 ≤ c) (h2 : c ≤ 9223372036854775807) : binA .sub e (.int .i64 a) (.int .i64 b) = some (.int .i64 c) := by
  subst hc; simp only [binA, if_true, wrap_i64 h1 h2]
theorem b_mul (hc : c = a * b) (h1 : -9223372036854775808 ≤ c) (h2 : c ≤ 9223372036854775807) : binA .mul e (.int .i64 a) (.int .i64 b) = some (.int .i64 c) := by
  subst hc; simp only [binA, if_true, wrap_i64 h1 h2]
theorem b_quo (hb : b ≠ 0) (hc : c = a.tdiv b) (h1 : -9223372036854775808 ≤ c) (h2 : c ≤ 9223372036854775807) : binA .quo e (.int .i64 a) (.int .i64 b) = some (.int .i64 c) := by
  subst hc; simp only [binA, hb, ne_eq, not_false_eq_true, and_self, if_true, wrap_i64 h1 h2]
theorem b_lssT (h : a < b) : binA .lss e (.int .i64 a) (.int .i64 b) = some (.bool true) := by simp [binA, h]
theorem b_lssF (h : ¬ a < b) : binA .lss e (.int .i64 a) (.int .i64 b) = some (.bool false) := by simp [binA]; omega
theorem b_leqT (h : a ≤ b) : binA .leq e (.int .i64 a) (.int .i64 b) = some (.bool true) := by simp [binA, h]
theorem b_leqF (h : ¬ a ≤ b) : binA .leq e (.int .i64 a) (.int .i64 b) = some (.bool false) := by simp [binA]; omega
theorem b_gtrT (h : b < a) : binA .gtr e (.int .i64 a) (.int .i64 b) = some (.bool true) := by simp [binA]; omega
theorem b_gtrF (h : ¬ b < a) : binA .gtr e (.int .i64 a) (.int .i64 b) = some (.bool false) := by simp [binA]; omega
theorem b_geqT (h : b ≤ a) : binA .geq e (.int .i64 a) (.int .i64 b) = some (.bool true) := by simp [binA]; omega
theorem b_geqF (h : ¬ b ≤ a) : binA .geq e (.int .i64 a) (.int .i64 b) = some (.bool false) := by simp [binA]; omega
theorem b_eqlT (h : a = b) : binA .eql e (.int .i64 a) (.int .i64 b) = some (.bool true) := by simp [binA, h]
theorem b_eqlF (h : a ≠ b) : binA .eql e (.int .i64 a) (.int .i64 b) = some (.bool false) := by simp [binA, h]
theorem b_neqT (h : a ≠ b) : binA .neq e (.int .i64 a) (.int .i64 b) = some (.bool true) := by simp [binA, h]
theorem b_neqF (h : a = b) : binA .neq e (.int .i64 a) (.int .i64 b) = some (.bool false) := by simp [binA, h]
theorem c_i64 (h1 : -9223372036854775808 ≤ a) (h2 : a ≤ 9223372036854775807) : cvI .i64 (.int .i64 a) = some (.int .i64 a) := by simp only [cvI, wrap_i64 h1 h2]
theorem i_idx {sz j v o n q : Nat} {f : Bool} (h1 : 0 ≤ a) (h2 : a < n) (hq : q = o + a.toNat * sz) : iaV sz (.slice j v o n sz f) (.int .i64 a) = some (.ptr j v q) := by
  subst hq
  have : a.toNat < n := by omega
  simp only [iaV, asNat, h1, if_true, this, and_self]
theorem o_mk {n : Nat} {a b : Int} {k : Nat} (ha : a = n) (hb : b = n) (h : n * k ≤ roomB) : asNat (.int .i64 a) = some n ∧ asNat (.int .i64 b) = some n ∧ n * k ≤ roomB := by
  subst ha; subst hb
  simp only [asNat, Int.natCast_nonneg, if_true, Int.toNat_natCast, true_and]
  exact h
end
end Go.Kx
/- SCRIPTED RUNS, part 7: forms that a program can print against. -/
namespace Go.Kx
open Go

section
variable {G G' : Nat}
theorem okO_mono (h : G ≤ G') {x : Opd} (hx : okO G x = true) : okO G' x = true := by
  cases x <;> simp only [okO] at hx ⊢ <;> first | exact hx | (simp only [Nat.blt_eq] at hx ⊢; omega)
theorem okOo_mono (h : G ≤ G') {x : Option Opd} (hx : okOo G x = true) : okOo G' x = true := by
  cases x <;> simp only [okOo] at hx ⊢; exact okO_mono h hx
theorem okOs_mono (h : G ≤ G') : ∀ {l : List Opd}, okOs G l = true → okOs G' l = true
  | [], _ => rfl
  | x :: l, hx => by simp only [okOs, Bool.and_eq_true] at hx ⊢; exact ⟨okO_mono h hx.1, okOs_mono h hx.2⟩
theorem okP_mono (h : G ≤ G') : ∀ {l : List (Nat × Nat × Opd)}, okP G l = true → okP G' l = true
  | [], _ => rfl
  | (_, _, x) :: l, hx => by simp only [okP, Bool.and_eq_true] at hx ⊢; exact ⟨okO_mono h hx.1, okP_mono h hx.2⟩
theorem okOp_mono (h : G ≤ G') {op : AOp} (hx : okOp G op = true) : okOp G' op = true := by
  cases op <;> simp only [okOp, Bool.and_eq_true] at hx ⊢ <;> first
    | exact okO_mono h hx
    | exact hx
    | exact okP_mono h hx
    | exact okOs_mono h hx
    | exact ⟨okO_mono h hx.1, okO_mono h hx.2⟩
    | exact ⟨okO_mono h hx.1, okO_mono h hx.2.1, okO_mono h hx.2.2⟩
    | exact ⟨hx.1, okP_mono h hx.2⟩
    | exact ⟨okOs_mono h hx.1, okOs_mono h hx.2⟩
    | exact ⟨okO_mono h hx.1, okOs_mono h hx.2⟩
    | exact ⟨hx.1, okO_mono h hx.2.1, okO_mono h hx.2.2⟩
    | exact ⟨okO_mono h hx.1, okOo_mono h hx.2.1, okOo_mono h hx.2.2⟩
    | exact ⟨okO_mono h hx.1, okOo_mono h hx.2.1, okOo_mono h hx.2.2.1, okOo_mono h hx.2.2.2⟩
theorem okIts_mono (h : G ≤ G') : ∀ {l : List Item}, okIts G l = true → okIts G' l = true
  | [], _ => rfl
  | i :: l, hx => by simp only [okIts, okIt, Bool.and_eq_true] at hx ⊢; exact ⟨⟨okOp_mono h hx.1.1, hx.1.2⟩, okIts_mono h hx.2⟩
theorem okL_mono (h : G ≤ G') : ∀ {l : List ItemC}, okL G l = true → okL G' l = true
  | [], _ => rfl
  | i :: l, hx => by simp only [okL, okIc, Bool.and_eq_true] at hx ⊢; exact ⟨⟨okOp_mono h hx.1.1, okIts_mono h hx.1.2⟩, okL_mono h hx.2⟩
theorem okAC_mono (h : G ≤ G') : ∀ {c : AC}, okAC G c = true → okAC G' c = true
  | .skip, _ => rfl
  | .ret, _ => rfl
  | .exit _, _ => rfl
  | .ops l, hx => by simp only [okAC] at hx ⊢; exact okL_mono h hx
  | .seq a b, hx => by simp only [okAC, Bool.and_eq_true] at hx ⊢; exact ⟨okAC_mono h hx.1, okAC_mono h hx.2⟩
  | .cond c a b, hx => by simp only [okAC, Bool.and_eq_true] at hx ⊢; exact ⟨okO_mono h hx.1, okAC_mono h hx.2.1, okAC_mono h hx.2.2⟩
  | .block _ a, hx => by simp only [okAC] at hx ⊢; exact okAC_mono h hx
  | .loop _ a, hx => by simp only [okAC] at hx ⊢; exact okAC_mono h hx
theorem Plain.mono {E : Env} (h : Plain E G) (hg : Nat.ble G G' = true) : Plain E G' := ⟨h.hook, fun f b hb => okAC_mono (Nat.le_of_ble_eq_true hg) (h.ok f b hb)⟩
end

mutual
theorem below_pure {n : Nat} : ∀ {x : AV}, pureV x = true → below n x = true
  | .undef, _ => rfl
  | .bool _, _ => rfl
  | .int _ _, _ => rfl
  | .str _, _ => rfl
  | .nil, _ => rfl
  | .ptr .., h => by simp [pureV] at h
  | .nilS, _ => rfl
  | .slice .., h => by simp [pureV] at h
  | .nilM, _ => rfl
  | .map _, h => by simp [pureV] at h
  | .nilF, _ => rfl
  | .func f a b, h => by simp only [pureV, below, Bool.and_eq_true] at h ⊢; exact ⟨belows_pure h.1, belows_pure h.2⟩
  | .nilI, _ => rfl
  | .iface t x, h => by simp only [pureV, below] at h ⊢; exact below_pure h
  | .agg l, h => by simp only [pureV, below] at h ⊢; exact belows_pure h
  | .tup l, h => by simp only [pureV, below] at h ⊢; exact belows_pure h
theorem belows_pure {n : Nat} : ∀ {l : List AV}, pureVs l = true → belows n l = true
  | [], _ => rfl
  | x :: l, h => by simp only [pureVs, belows, Bool.and_eq_true] at h ⊢; exact ⟨below_pure h.1, belows_pure h.2⟩
end

def callAt (K : List KI) (FR : List AV) (h : H) : Option (FuncId × List AV × Option Nat × Bool × List KI) := match K with
  | .c (.ops (i :: l)) :: K' => match wanted FR i.it.guard, step i.it.op FR h with
    | some true, some (.call f args) => some (f, args, i.it.dst, i.chk.isEmpty, .c (.ops l) :: K')
    | _, _ => none
  | _ => none
theorem callAt_spec {K K1 : List KI} {FR args : List AV} {h : H} {f : FuncId} {dst : Option Nat} (hc : callAt K FR h = some (f, args, dst, true, K1)) :
    ∃ i l K', K = .c (.ops (i :: l)) :: K' ∧ wanted FR i.it.guard = some true ∧ step i.it.op FR h = some (.call f args) ∧ i.it.dst = dst ∧ i.chk = [] ∧ K1 = .c (.ops l) :: K' := by
  unfold callAt at hc
  split at hc
  · rename_i i l K'
    split at hc
    · rename_i f' args' hw hs
      simp only [Option.some.injEq, Prod.mk.injEq, List.isEmpty_iff] at hc
      obtain ⟨rfl, rfl, e1, e2, e3⟩ := hc
      exact ⟨i, l, K', rfl, hw, hs, e1, e2, e3.symm⟩
    · cases hc
  · cases hc

section
variable {E : Env} {G : Nat}
theorem good_call' (hE : Plain E G) {G1 : Nat} {i : ItemC} {l : List ItemC} {K : List KI} {FR args : List AV} {HS HS1 : H} {f : FuncId} {b : AFn} {V : AV} {Q : Res → Prop} {r : Res} (hG : G ≤ G1) (hG1 : G1 ≤ HS1.nx)
    (hw : wanted FR i.it.guard = some true) (hs : step i.it.op FR HS = some (.call f args)) (hk : i.chk = []) (hb : E.body f = some b) (ha : Nat.ble args.length b.ntmps = true) (_w : WfH HS) (w1 : WfH HS1)
    (hr : conK E [.c b.code] ⟨.normal, rens idN (pad b.ntmps args), [], HS⟩ = some r) (hq : CallQ G1 b V HS1 r) (har : belows G1 (pad b.ntmps args) = true) (hf : belows G1 FR = true) (hV : below HS1.nx V = true) (hok : okK G (.c (.ops (i :: l)) :: K) = true)
    (gd : Good E G (.c (.ops l) :: K) (putD FR i.it.dst V) HS1 Q) : Good E G (.c (.ops (i :: l)) :: K) FR HS Q := by
  obtain ⟨x, fr, d, h'⟩ := r
  obtain ⟨hx, hd, ι, e1, hv⟩ := hq
  simp only at hx hd e1 hv
  subst hx
  subst hd
  rw [rens_id (ι := idN) (n := G1) (fun _ _ => ⟨rfl, rfl⟩) har] at hr
  have ha' : ¬ b.ntmps < args.length := by have := Nat.le_of_ble_eq_true ha; omega
  have hcall : call E f args HS = some (ren ι V, h') := call_con hE.hook hb ha' (by intro i h; cases h) hr hv
  have seg : Seg E (.c (.ops (i :: l)) :: K) FR [] HS (.c (.ops l) :: K) (putD FR i.it.dst (ren ι V)) [] h' :=
    .step (.call i l K FR [] HS f args (ren ι V) h' hw hs hcall (by rw [hk]; rfl)) (.refl ..)
  refine Good.seg hE seg hok (e1.sub hG (Nat.le_trans hG hG1)) w1 ?_ ?_ gd
  · rw [rens_putD, rens_id e1.fix hf]
  · exact belows_putD _ (belows_mono hG1 hf) hV
theorem closedK (hE : Plain E G) (hokf : ∀ f b, E.body f = some b → okFn b = true) {fuel : Nat} {K K1 : List KI} {FR FR1 args : List AV} {HS : H} {f nx : Nat} {dst : Option Nat} {κl : List (Nat × Nat)} {L : List (Nat × Obj)} {M : List (Nat × List (AV × AV))} {v : AV} {Q : Res → Prop}
    (hr : viewC (nmL G κl) L M ((fut E fuel).call f args HS) = some (v, objs (nmL G κl) L, maps (nmL G κl) M))
    (hc : callAt K FR HS = some (f, args, dst, true, K1)) (hok : okK G K = true)
    (hle : Nat.ble G nx = true) (hb : subB (nmL G κl) L M = true) (w : WfH (mkH nx L M)) (hF : putD FR dst v = rens (nmL G κl) FR1) (hf : belows nx FR1 = true)
    (gd : Good E G K1 FR1 (mkH nx L M) Q) : Good E G K FR HS Q := by
  obtain ⟨i, l, K', rfl, hw, hs, hd, hk, rfl⟩ := callAt_spec hc
  exact good_closed hE hokf hr hw hs hk hok hle hb w (by rw [hd]; exact hF) hf gd
theorem goodP (hE : Plain E G) {fuel : Nat} {K K1 : List KI} {FR FR1 : List AV} {HS : H} {g nx : Nat} {sc : List (Sc × Nat)} {l : List (Nat × Nat)} {L : List (Nat × Obj)} {M : List (Nat × List (AV × AV))} {ob : List Prop} {Q : Res → Prop}
    (hr : viewS (nmL G l) L M (runS E fuel K FR [] HS g sc []) = some (K1, rens (nmL G l) FR1, [], objsP (nmL G l) L, maps (nmL G l) M, none, ob))
    (hp : ∀ p ∈ L.head?, rens (nmL G l) p.2.l = p.2.l)
    (hob : ∀ p ∈ ob, p) (hok : okK G K = true) (hle : Nat.ble G nx = true) (hb : subB (nmL G l) L M = true) (w : WfH (mkH nx L M)) (hf : belows nx FR1 = true) (gd : Good E G K1 FR1 (mkH nx L M) Q) : Good E G K FR HS Q := by
  rw [objsP_eq hp] at hr
  exact good_run hE hr hob hok hle hb w hf gd
theorem finP (hE : Plain E G) {fuel : Nat} {b : AFn} {K : List KI} {FR : List AV} {HS : H} {g nx : Nat} {sc : List (Sc × Nat)} {l : List (Nat × Nat)} {L : List (Nat × Obj)} {M : List (Nat × List (AV × AV))} {ob : List Prop} {V : AV}
    (hr : viewF (nmL G l) L M b (runS E fuel K FR [] HS g sc []) = some (some (ren (nmL G l) V), [], some .ret, ob, objsP (nmL G l) L, maps (nmL G l) M))
    (hp : ∀ p ∈ L.head?, rens (nmL G l) p.2.l = p.2.l)
    (hob : ∀ p ∈ ob, p) (hok : okK G K = true) (hle : Nat.ble G nx = true) (hb : subB (nmL G l) L M = true) (w : WfH (mkH nx L M)) (hV : below nx V = true) : Good E G K FR HS (CallQ G b V (mkH nx L M)) := by
  rw [objsP_eq hp] at hr
  exact good_fin hE hr hob hok hle hb w hV

theorem callK (hE : Plain E G) {J : Type} {G1 : Nat} {K K1 : List KI} {FR args : List AV} {FR1 : J → List AV} {HS : H} {HS1 : J → H} {f : FuncId} {b : AFn} {V : J → AV} {dst : Option Nat} {Q : Res → Prop} (hG : Nat.ble G G1 = true) (hG1 : ∀ j, Nat.ble G1 (HS1 j).nx = true)
    (hc : callAt K FR HS = some (f, args, dst, true, K1)) (hb : E.body f = some b) (ha : Nat.ble args.length b.ntmps = true) (w : WfH HS) (w1 : ∀ j, WfH (HS1 j))
    (hcall : Good E G1 [.c b.code] (pad b.ntmps args) HS (fun r => ∃ j, CallQ G1 b (V j) (HS1 j) r)) (har : belows G1 (pad b.ntmps args) = true) (hf : belows G1 FR = true) (hV : ∀ j, below (HS1 j).nx (V j) = true) (hok : okK G K = true)
    (hF : ∀ j, putD FR dst (V j) = FR1 j) (gd : ∀ j, Good E G K1 (FR1 j) (HS1 j) Q) : Good E G K FR HS Q := by
  obtain ⟨i, l, K', rfl, hw, hs, hd, hk, rfl⟩ := callAt_spec hc
  obtain ⟨r, hr, j, hj⟩ := hcall idN HS (Emb.id w G1)
  refine good_call' hE (Nat.le_of_ble_eq_true hG) (Nat.le_of_ble_eq_true (hG1 j)) hw hs hk hb ha w (w1 j) hr hj har hf (hV j) hok ?_
  rw [hd, hF j]
  exact gd j
end
end Go.Kx
/- SCRIPTED RUNS, part 8: lists of obligations; arrays of words. -/
namespace Go.Kx
open Go

theorem all_nil : ∀ p ∈ ([] : List Prop), p := fun _ h => by cases h
theorem all_cons {a : Prop} {l : List Prop} (ha : a) (hl : ∀ p ∈ l, p) : ∀ p ∈ a :: l, p := by
  intro p hp
  rcases List.mem_cons.1 hp with e | hp
  · rw [e]; exact ha
  · exact hl p hp
theorem b_addw {e : EqT} {a b c : Int} (hc : c = IntKind.i64.wrap (a + b)) : binA .add e (.int .i64 a) (.int .i64 b) = some (.int .i64 c) := by
  subst hc; simp only [binA, if_true]
theorem headp {κ : Nm} {i lo hi : Nat} {ro : Bool} {l : List AV} {L : List (Nat × Obj)} (hp : pureVs l = true) : ∀ p ∈ (((i, (⟨lo, hi, ro, l⟩ : Obj)) :: L).head? : Option (Nat × Obj)), rens κ p.2.l = p.2.l := by
  intro p hh
  simp only [List.head?_cons, Option.mem_def, Option.some.injEq] at hh
  subst hh
  exact rens_pure hp

/- an array of n words, the first cells being numbers -/
def wl : (Nat → Int) → Nat → List AV
  | _, 0 => []
  | f, n + 1 => .int .i64 (f 0) :: .nil :: wl (fun j => f (j + 1)) n
theorem wl_len : ∀ (f : Nat → Int) (n : Nat), (wl f n).length = 2 * n
  | _, 0 => rfl
  | f, n + 1 => by simp only [wl, List.length_cons, wl_len _ n]; omega
theorem wl_pure : ∀ (f : Nat → Int) (n : Nat), pureVs (wl f n) = true
  | _, 0 => rfl
  | f, n + 1 => by simp only [wl, pureVs, pureV, wl_pure _ n, Bool.and_self]
theorem wl_repl : ∀ (n : Nat), repl n [.int .i64 0, .nil] = wl (fun _ => 0) n
  | 0 => rfl
  | n + 1 => by simp only [repl, wl, List.cons_append, List.nil_append, wl_repl n]
theorem wl_cut : ∀ (f : Nat → Int) (n i : Nat), i < n → cut (wl f n) (i * 2) 2 = some [.int .i64 (f i), .nil]
  | f, n + 1, 0, _ => by
    simp only [wl, cut, Nat.zero_mul, List.length_cons, List.drop_zero, List.take]
    rw [if_pos (by omega)]
  | f, n + 1, i + 1, h => by
    have := wl_cut (fun j => f (j + 1)) n i (by omega)
    unfold cut at this ⊢
    split at this
    · rename_i hh
      rw [if_pos (by simp only [wl, List.length_cons]; omega)]
      rw [← this]
      have e : (i + 1) * 2 = i * 2 + 2 := by omega
      rw [e]
      simp only [wl, List.drop_succ_cons]
    · cases this
theorem wl_splice : ∀ (f : Nat → Int) (n i : Nat) (v : Int), i < n → splice (wl f n) (i * 2) [.int .i64 v, .nil] = wl (fun j => if j = i then v else f j) n
  | f, n + 1, 0, v, _ => by
    simp [wl, splice]
  | f, n + 1, i + 1, v, h => by
    have ih := wl_splice (fun j => f (j + 1)) n i v (by omega)
    unfold splice at ih ⊢
    have e : (i + 1) * 2 = i * 2 + 1 + 1 := by omega
    have e2 : (i + 1) * 2 + [AV.int .i64 v, AV.nil].length = i * 2 + [AV.int .i64 v, AV.nil].length + 1 + 1 := by simp only [List.length_cons]; omega
    rw [e2, e]
    simp only [wl, List.take_succ_cons, List.drop_succ_cons, List.cons_append]
    rw [ih]
    simp
end Go.Kx
