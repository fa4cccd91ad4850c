/- SCRIPTED RUNS, part 1: an evaluator that keeps what is left to do as a list; where an operation hangs on a variable, a script answers, and what has to be shown is noted. -/
import Derived.Test.YtmafgdnlggoljaaGreatDoorE1
import Derived.Test.YtmafgdnlggoljaaGreatDoorR1
namespace Go.Kx
open Go

inductive KI where
  | c (a : AC)
  | blk (id : Nat)
  | lp (m : List Bool) (a : AC)

/- what is left, behind a result -/
noncomputable def conK (E : Env) : List KI → Res → Option Res
  | [], r => some r
  | .c a :: K, r => match r.x with
    | .normal => (ev E a r.fr r.d r.h).bind (conK E K)
    | _ => conK E K r
  | .blk i :: K, r => match r.x with
    | .exit j => if j = i then conK E K ⟨.normal, r.fr, r.d, r.h⟩ else conK E K r
    | _ => conK E K r
  | .lp m a :: K, r => match r.x with
    | .normal => (ev E (.loop m a) r.fr r.d r.h).bind (conK E K)
    | _ => conK E K r

inductive Sc where
  | val (v : AV)
  | ld (xs : List AV)
  | st
  | mk (n : Nat)
  | chk
  | stop

structure St where
  K : List KI
  fr : List AV
  d : List Df
  h : H
  x : Option Ex
  g : Nat
  sc : List (Sc × Nat)
  ob : List Prop

def unwind (i : Nat) : List KI → Option (List KI)
  | [] => none
  | .blk j :: K => if i = j then some K else unwind i K
  | .c _ :: K => unwind i K
  | .lp _ _ :: K => unwind i K

def cvI (k : IntKind) : AV → Option AV
  | .int _ n => some (.int k (k.wrap n))
  | _ => none
def iaV (sz : Nat) (x i : AV) : Option AV := match x, asNat i with
  | .slice j v o n sz' _, some k => if k < n ∧ sz' = sz then some (.ptr j v (o + k * sz)) else none
  | _, _ => none
def mnV : AV → AV → Option AV
  | .int k a, .int j b => if k = j then some (.int k (min a b)) else none
  | _, _ => none
def mxV : AV → AV → Option AV
  | .int k a, .int j b => if k = j then some (.int k (max a b)) else none
  | _, _ => none

/- what has to be shown of an answer -/
def obV (op : AOp) (fr : List AV) (v : AV) : Prop := match op with
  | .bin op e x y => binA op e (opd fr x) (opd fr y) = some v
  | .un op x => unA op (opd fr x) = some v
  | .convI k x => cvI k (opd fr x) = some v
  | .iaddr sz x i => iaV sz (opd fr x) (opd fr i) = some v
  | .mn x y => mnV (opd fr x) (opd fr y) = some v
  | .mx x y => mxV (opd fr x) (opd fr y) = some v
  | _ => False

def objP (h : H) (i : Nat) (l : List AV) : Prop := match h.get i with
  | some ob => match (ob.lo == 0 && ob.hi == 0 && !ob.ro) with
    | true => AV.beqs ob.l l = true
    | false => False
  | none => False
def againP (h : H) (fr : List AV) (it : Item) : Prop :=
  match wanted fr it.guard with
  | none => False
  | some false => True
  | some true => match it.op with
    | .new z => match it.dst with
      | some t => match nth fr t with
        | .ptr i 0 0 => objP h i z
        | _ => False
      | none => False
    | .box _ x => match it.dst with
      | some t => match nth fr t with
        | .ptr i 0 0 => objP h i (opd fr x).cells
        | _ => False
      | none => False
    | .row n _ z ps => match it.dst with
      | some t => match nth fr t with
        | .slice i 0 0 _ _ _ => match lay (repl n z) fr ps with
          | some l => objP h i l
          | none => False
        | _ => False
      | none => False
    | op => match step op fr h with
      | some (.val x _) => match it.dst with
        | some t => AV.beq x (nth fr t) = true
        | none => False
      | _ => False

abbrev RunT := List KI → List AV → List Df → H → Nat → List (Sc × Nat) → List Prop → Option St

def chkP (h : H) (fr : List AV) (l : List Item) (ob : List Prop) : List Prop := match l with
  | [] => ob
  | i :: l => againP h fr i :: chkP h fr l ob

/- an answered operation: its value, the heap, what has to be shown -/
def scr (e : Sc) (op : AOp) (fr : List AV) (h : H) : Option (AV × H × Prop) := match e with
  | .val v => some (v, h, obV op fr v)
  | .ld xs => match op with
    | .load x => match opd fr x, xs with
      | .ptr i v o, [y] => match h.get i with
        | some ob => if v = ob.hi then some (y, h, ob.l[o]? = some y) else none
        | none => none
      | _, _ => none
    | .loadN n x => match opd fr x with
      | .ptr i v o => match h.get i with
        | some ob => if v = ob.hi then some (.agg xs, h, cut ob.l o n = some xs) else none
        | none => none
      | _ => none
    | _ => none
  | .st => match op with
    | .store n a x => if (opd fr x).cells.length = n then match opd fr a with
      | .ptr i v o => match h.get i with
        | some ob => if v = ob.hi ∧ ob.ro = false ∧ (opd fr x).cells.all AV.one then
            some (.tup [], h.put i ⟨ob.hi, ob.hi, false, splice ob.l o (opd fr x).cells⟩, o + n ≤ ob.l.length) else none
        | none => none
      | _ => none
      else none
    | _ => none
  | .mk k => match op with
    | .mksl sz bytes z l c => if z.length = sz ∧ 0 < sz then
        some (.slice h.nx 0 0 k sz true, h.new (repl k z), asNat (opd fr l) = some k ∧ asNat (opd fr c) = some k ∧ k * bytes ≤ roomB) else none
    | _ => none
  | _ => none

def bodyS (E : Env) (run : RunT) : RunT := fun K fr d h g sc ob => match K with
  | [] => some ⟨[], fr, d, h, some .normal, g, sc, ob⟩
  | .blk _ :: K => run K fr d h g sc ob
  | .lp m a :: K => run (.c (.loop m a) :: K) fr d h g sc ob
  | .c a :: K => match a with
    | .skip => run K fr d h g sc ob
    | .exit i => match unwind i K with
      | some K => run K fr d h g sc ob
      | none => none
    | .ret => some ⟨[], fr, d, h, some .ret, g, sc, ob⟩
    | .seq a b => run (.c a :: .c b :: K) fr d h g sc ob
    | .cond c a b => match opd fr c with
      | .bool true => run (.c a :: K) fr d h g sc ob
      | .bool false => run (.c b :: K) fr d h g sc ob
      | _ => none
    | .block i a => run (.c a :: .blk i :: K) fr d h g sc ob
    | .loop m a => run (.c a :: .lp m a :: K) (mask m fr) d h g sc ob
    | .ops [] => run K fr d h g sc ob
    | .ops (i :: l) => match g with
      | g + 1 => match wanted fr i.it.guard with
        | none => none
        | some false => run (.c (.ops l) :: K) (putD fr i.it.dst (.tup [])) d h g sc ob
        | some true => match step i.it.op fr h with
          | none => none
          | some (.val x h') => match i.chk.all (again h' fr) with
            | true => run (.c (.ops l) :: K) (putD fr i.it.dst x) d h' g sc ob
            | false => none
          | some (.dfr _ _) => none
          | some (.call f args) => match E.body f with
            | none => none
            | some b => if b.ntmps < args.length then none else match run [.c b.code] (pad b.ntmps args) [] h g sc ob with
              | some ⟨_, fr', [], h', some .ret, g', sc', ob'⟩ => match results b fr' h' with
                | some v => match i.chk.all (again h' fr) with
                  | true => run (.c (.ops l) :: K) (putD fr i.it.dst v) d h' g' sc' ob'
                  | false => none
                | none => none
              | some ⟨_, fr', [], h', some .normal, g', sc', ob'⟩ => match results b fr' h' with
                | some v => match i.chk.all (again h' fr) with
                  | true => run (.c (.ops l) :: K) (putD fr i.it.dst v) d h' g' sc' ob'
                  | false => none
                | none => none
              | _ => none
      | 0 => match sc with
        | [] => none
        | (.stop, g') :: sc' => some ⟨.c (.ops (i :: l)) :: K, fr, d, h, none, g', sc', ob⟩
        | (.chk, g') :: sc' => match wanted fr i.it.guard with
          | some true => match step i.it.op fr h with
            | some (.val x h') => run (.c (.ops l) :: K) (putD fr i.it.dst x) d h' g' sc' (chkP h' fr i.chk ob)
            | _ => none
          | _ => none
        | (e, g') :: sc' => match wanted fr i.it.guard with
          | some true => match scr e i.it.op fr h with
            | some (x, h', p) => run (.c (.ops l) :: K) (putD fr i.it.dst x) d h' g' sc' (p :: chkP h' fr i.chk ob)
            | none => none
          | _ => none

noncomputable def runS (E : Env) (n : Nat) : RunT := Nat.rec (motive := fun _ => RunT) (fun _ _ _ _ _ _ _ => none) (fun _ ih => bodyS E ih) n
end Go.Kx
/- SCRIPTED RUNS, part 2: what it says, the evaluator says, if what it notes holds. -/
namespace Go.Kx
open Go

theorem again_of {h : H} {fr : List AV} {it : Item} (hp : againP h fr it) : again h fr it = true := by
  have obj : ∀ (i : Nat) (l : List AV), objP h i l → (match h.get i with | some ob => ob.lo == 0 && ob.hi == 0 && !ob.ro && AV.beqs ob.l l | none => false) = true := by
    intro i l ho
    unfold objP at ho
    cases hg : h.get i with
    | none => rw [hg] at ho; exact ho.elim
    | some ob =>
      rw [hg] at ho
      simp only at ho ⊢
      split at ho
      · rename_i hb; rw [hb, ho]; rfl
      · exact ho.elim
  unfold againP at hp
  unfold again
  cases hw : wanted fr it.guard with
  | none => rw [hw] at hp; exact hp.elim
  | some b =>
    rw [hw] at hp
    cases b with
    | false => rfl
    | true =>
      simp only at hp ⊢
      cases hop : it.op <;> rw [hop] at hp <;> simp only at hp ⊢ <;> first
        | (split at hp
           · rename_i x h' hs
             split at hp
             · rename_i t hd; first | exact hp | (rw [hs]; simp only [hd]; exact hp)
             · exact hp.elim
           · exact hp.elim)
        | skip
      case new z =>
        split at hp
        · rename_i t hd
          split at hp
          · rename_i i hx; simp only [hd, hx]; exact obj _ _ hp
          · exact hp.elim
        · exact hp.elim
      case box n x =>
        split at hp
        · rename_i t hd
          split at hp
          · rename_i i hx; simp only [hd, hx]; exact obj _ _ hp
          · exact hp.elim
        · exact hp.elim
      case row n sz z ps =>
        split at hp
        · rename_i t hd
          split at hp
          · rename_i i a b c hx
            split at hp
            · rename_i l hl
              have := obj _ _ hp
              simp only [hd, hx, hl]
              cases hg : h.get i with
              | none => rw [hg] at this; exact this
              | some ob => rw [hg] at this; exact this
            · exact hp.elim
          · exact hp.elim
        · exact hp.elim
theorem agains_of {h : H} {fr : List AV} : ∀ {l : List Item} {ob : List Prop}, (∀ p ∈ chkP h fr l ob, p) → l.all (again h fr) = true ∧ (∀ p ∈ ob, p)
  | [], ob, hp => ⟨rfl, hp⟩
  | i :: l, ob, hp => by
    simp only [chkP, List.mem_cons, forall_eq_or_imp] at hp
    obtain ⟨a, b⟩ := agains_of hp.2
    exact ⟨by simp only [List.all_cons, again_of hp.1, a]; rfl, b⟩

theorem obV_step {op : AOp} {fr : List AV} {v : AV} {h : H} (ho : obV op fr v) : step op fr h = some (.val v h) := by
  cases op <;> simp only [obV] at ho <;> try (exact ho.elim)
  case bin op e x y => simp only [step, ho, Option.map_some]
  case un op x => simp only [step, ho, Option.map_some]
  case convI k x =>
    simp only [step]
    cases hx : opd fr x <;> rw [hx] at ho <;> simp only [cvI] at ho <;> first | (cases ho; done) | (cases ho; rfl)
  case iaddr sz x i =>
    simp only [step]
    unfold iaV at ho
    split at ho
    · rename_i j v' o n sz' f k h1 h2
      rw [h1, h2]
      simp only
      split at ho
      · rename_i hh; rw [if_pos hh]; cases ho; rfl
      · cases ho
    · cases ho
  case mn x y =>
    simp only [step]
    cases hx : opd fr x <;> cases hy : opd fr y <;> rw [hx, hy] at ho <;> simp only [mnV] at ho <;> first
      | (cases ho; done)
      | (split at ho
         · rename_i hh; simp only; rw [if_pos hh]; cases ho; rfl
         · cases ho)
  case mx x y =>
    simp only [step]
    cases hx : opd fr x <;> cases hy : opd fr y <;> rw [hx, hy] at ho <;> simp only [mxV] at ho <;> first
      | (cases ho; done)
      | (split at ho
         · rename_i hh; simp only; rw [if_pos hh]; cases ho; rfl
         · cases ho)

theorem scr_step {e : Sc} {op : AOp} {fr : List AV} {h h' : H} {x : AV} {p : Prop} (hs : scr e op fr h = some (x, h', p)) (hp : p) : step op fr h = some (.val x h') := by
  cases e with
  | val v => simp only [scr] at hs; cases hs; exact obV_step hp
  | ld xs =>
    cases op <;> simp only [scr] at hs <;> try (cases hs; done)
    case load a =>
      split at hs
      · rename_i i v o y ha
        split at hs
        · rename_i ob hg
          split at hs
          · rename_i hv
            cases hs
            simp only [step, ha, rd, hg]
            rw [if_pos hv, hp]; rfl
          · cases hs
        · cases hs
      · cases hs
    case loadN n a =>
      split at hs
      · rename_i i v o ha
        split at hs
        · rename_i ob hg
          split at hs
          · rename_i hv
            cases hs
            simp only [step, ha, rdN, hg]
            rw [if_pos hv, hp]; rfl
          · cases hs
        · cases hs
      · cases hs
  | st =>
    cases op <;> simp only [scr] at hs <;> try (cases hs; done)
    case store n a b =>
      split at hs
      · rename_i hl
        split at hs
        · rename_i i v o ha
          split at hs
          · rename_i ob hg
            split at hs
            · rename_i hc
              cases hs
              simp only [step]
              rw [if_pos hl, ha]
              simp only [wr, hg]
              rw [if_pos ⟨hc.1, hc.2.1, by rw [hl]; exact hp, hc.2.2⟩]
              rfl
            · cases hs
          · cases hs
        · cases hs
      · cases hs
  | mk k =>
    cases op <;> simp only [scr] at hs <;> try (cases hs; done)
    case mksl sz bytes z l c =>
      split at hs
      · rename_i hz
        cases hs
        simp only [step, hp.1, hp.2.1]
        rw [if_pos ⟨Nat.le_refl _, hp.2.2, hz.1, hz.2⟩]
        simp
      · cases hs
  | chk => simp only [scr] at hs; cases hs
  | stop => simp only [scr] at hs; cases hs

theorem con_ret {E : Env} : ∀ (K : List KI) (fr : List AV) (d : List Df) (h : H), conK E K ⟨.ret, fr, d, h⟩ = some ⟨.ret, fr, d, h⟩
  | [], fr, d, h => rfl
  | .c a :: K, fr, d, h => by simp only [conK]; exact con_ret K fr d h
  | .blk a :: K, fr, d, h => by simp only [conK]; exact con_ret K fr d h
  | .lp m a :: K, fr, d, h => by simp only [conK]; exact con_ret K fr d h
theorem con_unwind {E : Env} {i : Nat} : ∀ (K K' : List KI) (fr : List AV) (d : List Df) (h : H), unwind i K = some K' → conK E K ⟨.exit i, fr, d, h⟩ = conK E K' ⟨.normal, fr, d, h⟩
  | [], K', fr, d, h, hu => by simp [unwind] at hu
  | .c a :: K, K', fr, d, h, hu => by simp only [unwind] at hu; simp only [conK]; exact con_unwind K K' fr d h hu
  | .lp m a :: K, K', fr, d, h, hu => by simp only [unwind] at hu; simp only [conK]; exact con_unwind K K' fr d h hu
  | .blk j :: K, K', fr, d, h, hu => by
    simp only [unwind] at hu
    simp only [conK]
    split at hu
    · rename_i hij; cases hu; rw [if_pos hij]
    · rename_i hij; rw [if_neg hij]; exact con_unwind K K' fr d h hu

/- laws of what is left -/
section
variable {E : Env} {K : List KI} {fr : List AV} {d : List Df} {h : H}
theorem con_skip : conK E (.c .skip :: K) ⟨.normal, fr, d, h⟩ = conK E K ⟨.normal, fr, d, h⟩ := by
  simp only [conK]; rw [ev.eq_def]; rfl
theorem con_nil : conK E (.c (.ops []) :: K) ⟨.normal, fr, d, h⟩ = conK E K ⟨.normal, fr, d, h⟩ := by
  simp only [conK]; rw [ev.eq_def]; rfl
theorem con_exit {i : Nat} : conK E (.c (.exit i) :: K) ⟨.normal, fr, d, h⟩ = conK E K ⟨.exit i, fr, d, h⟩ := by
  simp only [conK]; rw [ev.eq_def]; rfl
theorem con_retc : conK E (.c .ret :: K) ⟨.normal, fr, d, h⟩ = conK E K ⟨.ret, fr, d, h⟩ := by
  simp only [conK]; rw [ev.eq_def]; rfl
theorem con_seq {a b : AC} : conK E (.c (.seq a b) :: K) ⟨.normal, fr, d, h⟩ = conK E (.c a :: .c b :: K) ⟨.normal, fr, d, h⟩ := by
  simp only [conK]
  rw [ev.eq_def]
  simp only [Option.bind_eq_bind]
  rw [Option.bind_assoc]
  congr 1
  funext r
  cases r with
  | mk x fr d h => cases x <;> rfl
theorem con_true {c : Opd} {a b : AC} (hc : opd fr c = .bool true) : conK E (.c (.cond c a b) :: K) ⟨.normal, fr, d, h⟩ = conK E (.c a :: K) ⟨.normal, fr, d, h⟩ := by
  simp only [conK]; rw [ev.eq_def]; simp only [hc]
theorem con_false {c : Opd} {a b : AC} (hc : opd fr c = .bool false) : conK E (.c (.cond c a b) :: K) ⟨.normal, fr, d, h⟩ = conK E (.c b :: K) ⟨.normal, fr, d, h⟩ := by
  simp only [conK]; rw [ev.eq_def]; simp only [hc]
theorem con_block {i : Nat} {a : AC} : conK E (.c (.block i a) :: K) ⟨.normal, fr, d, h⟩ = conK E (.c a :: .blk i :: K) ⟨.normal, fr, d, h⟩ := by
  simp only [conK]
  rw [ev.eq_def]
  simp only [Option.bind_eq_bind]
  rw [Option.bind_assoc]
  congr 1
  funext r
  cases r with
  | mk x fr d h =>
    cases x <;> simp only [Option.bind_some, conK]
    split <;> rfl
theorem con_loop {m : List Bool} {a : AC} : conK E (.c (.loop m a) :: K) ⟨.normal, fr, d, h⟩ = conK E (.c a :: .lp m a :: K) ⟨.normal, mask m fr, d, h⟩ := by
  simp only [conK]
  rw [ev.eq_def]
  simp only [Option.bind_eq_bind]
  rw [Option.bind_assoc]
  congr 1
  funext r
  cases r with
  | mk x fr d h => cases x <;> rfl
theorem con_lp {m : List Bool} {a : AC} : conK E (.lp m a :: K) ⟨.normal, fr, d, h⟩ = conK E (.c (.loop m a) :: K) ⟨.normal, fr, d, h⟩ := rfl
theorem con_blk {i : Nat} : conK E (.blk i :: K) ⟨.normal, fr, d, h⟩ = conK E K ⟨.normal, fr, d, h⟩ := rfl
theorem con_off {i : ItemC} {l : List ItemC} (hw : wanted fr i.it.guard = some false) : conK E (.c (.ops (i :: l)) :: K) ⟨.normal, fr, d, h⟩ = conK E (.c (.ops l) :: K) ⟨.normal, putD fr i.it.dst (.tup []), d, h⟩ := by
  simp only [conK]; rw [ev.eq_def]; simp only [hw]
theorem con_val {i : ItemC} {l : List ItemC} {x : AV} {h' : H} (hw : wanted fr i.it.guard = some true) (hs : step i.it.op fr h = some (.val x h')) (hk : i.chk.all (again h' fr) = true) :
    conK E (.c (.ops (i :: l)) :: K) ⟨.normal, fr, d, h⟩ = conK E (.c (.ops l) :: K) ⟨.normal, putD fr i.it.dst x, d, h'⟩ := by
  simp only [conK]; rw [ev.eq_def]; simp only [hw, hs]; rw [if_pos hk]
theorem con_call {i : ItemC} {l : List ItemC} {f : FuncId} {args : List AV} {x : AV} {h' : H} (hw : wanted fr i.it.guard = some true) (hs : step i.it.op fr h = some (.call f args)) (hc : call E f args h = some (x, h')) (hk : i.chk.all (again h' fr) = true) :
    conK E (.c (.ops (i :: l)) :: K) ⟨.normal, fr, d, h⟩ = conK E (.c (.ops l) :: K) ⟨.normal, putD fr i.it.dst x, d, h'⟩ := by
  simp only [conK]; rw [ev.eq_def]; simp only [hw, hs, hc, Option.bind_eq_bind, Option.bind_some]; rw [if_pos hk]
end

/- a call, out of what its body comes to -/
theorem call_con {E : Env} (hE : ∀ f, E.hook f = none) {f : FuncId} {b : AFn} (hb : E.body f = some b) {args : List AV} (hn : ¬ b.ntmps < args.length) {h h' : H} {fr' : List AV} {x : Ex} {v : AV} (hx : ∀ i, x ≠ .exit i)
    (hc : conK E [.c b.code] ⟨.normal, pad b.ntmps args, [], h⟩ = some ⟨x, fr', [], h'⟩) (hv : results b fr' h' = some v) : call E f args h = some (v, h') := by
  simp only [conK] at hc
  rw [Option.bind_eq_some_iff] at hc
  obtain ⟨r, hr, e⟩ := hc
  have e' : some r = some _ := e
  cases e'
  rw [call.eq_def]
  simp only [hE f, hb]
  rw [if_neg hn, hr]
  have hd : defers E [] h' = some h' := by rw [defers.eq_def]
  simp only [Option.bind_eq_bind, Option.bind_some]
  cases x with
  | exit i => exact absurd rfl (hx i)
  | normal => simp only [hd, Option.bind_some, hv]
  | ret => simp only [hd, Option.bind_some, hv]

/- one step of what is left; steps -/
inductive Seg1 (E : Env) : List KI → List AV → List Df → H → List KI → List AV → List Df → H → Prop
  | skip (K fr d h) : Seg1 E (.c .skip :: K) fr d h K fr d h
  | nil (K fr d h) : Seg1 E (.c (.ops []) :: K) fr d h K fr d h
  | exit (i K K' fr d h) (hu : unwind i K = some K') : Seg1 E (.c (.exit i) :: K) fr d h K' fr d h
  | seq (a b K fr d h) : Seg1 E (.c (.seq a b) :: K) fr d h (.c a :: .c b :: K) fr d h
  | yes (c a b K fr d h) (hc : opd fr c = .bool true) : Seg1 E (.c (.cond c a b) :: K) fr d h (.c a :: K) fr d h
  | no (c a b K fr d h) (hc : opd fr c = .bool false) : Seg1 E (.c (.cond c a b) :: K) fr d h (.c b :: K) fr d h
  | block (i a K fr d h) : Seg1 E (.c (.block i a) :: K) fr d h (.c a :: .blk i :: K) fr d h
  | loop (m a K fr d h) : Seg1 E (.c (.loop m a) :: K) fr d h (.c a :: .lp m a :: K) (mask m fr) d h
  | lp (m a K fr d h) : Seg1 E (.lp m a :: K) fr d h (.c (.loop m a) :: K) fr d h
  | blk (i K fr d h) : Seg1 E (.blk i :: K) fr d h K fr d h
  | off (i l K fr d h) (hw : wanted fr i.it.guard = some false) : Seg1 E (.c (.ops (i :: l)) :: K) fr d h (.c (.ops l) :: K) (putD fr i.it.dst (.tup [])) d h
  | val (i l K fr d h x h') (hw : wanted fr i.it.guard = some true) (hs : step i.it.op fr h = some (.val x h')) (hk : i.chk.all (again h' fr) = true) : Seg1 E (.c (.ops (i :: l)) :: K) fr d h (.c (.ops l) :: K) (putD fr i.it.dst x) d h'
  | call (i l K fr d h f args x h') (hw : wanted fr i.it.guard = some true) (hs : step i.it.op fr h = some (.call f args)) (hc : call E f args h = some (x, h')) (hk : i.chk.all (again h' fr) = true) : Seg1 E (.c (.ops (i :: l)) :: K) fr d h (.c (.ops l) :: K) (putD fr i.it.dst x) d h'
inductive Seg (E : Env) : List KI → List AV → List Df → H → List KI → List AV → List Df → H → Prop
  | refl (K fr d h) : Seg E K fr d h K fr d h
  | step {K fr d h K1 fr1 d1 h1 K2 fr2 d2 h2} (a : Seg1 E K fr d h K1 fr1 d1 h1) (b : Seg E K1 fr1 d1 h1 K2 fr2 d2 h2) : Seg E K fr d h K2 fr2 d2 h2
theorem Seg.trans {E : Env} {K fr d h K1 fr1 d1 h1 K2 fr2 d2 h2} (a : Seg E K fr d h K1 fr1 d1 h1) (b : Seg E K1 fr1 d1 h1 K2 fr2 d2 h2) : Seg E K fr d h K2 fr2 d2 h2 := by
  induction a with
  | refl => exact b
  | step x _ ih => exact .step x (ih b)
theorem Seg1.con {E : Env} {K fr d h K1 fr1 d1 h1} (a : Seg1 E K fr d h K1 fr1 d1 h1) : conK E K ⟨.normal, fr, d, h⟩ = conK E K1 ⟨.normal, fr1, d1, h1⟩ := by
  cases a with
  | skip => exact con_skip
  | nil => exact con_nil
  | exit i K _ _ _ _ hu => exact con_exit.trans (con_unwind _ _ _ _ _ hu)
  | seq => exact con_seq
  | yes _ _ _ _ _ _ _ hc => exact con_true hc
  | no _ _ _ _ _ _ _ hc => exact con_false hc
  | block => exact con_block
  | loop => exact con_loop
  | lp => exact con_lp
  | blk => exact con_blk
  | off _ _ _ _ _ _ hw => exact con_off hw
  | val _ _ _ _ _ _ _ _ hw hs hk => exact con_val hw hs hk
  | call _ _ _ _ _ _ _ _ _ _ hw hs hc hk => exact con_call hw hs hc hk
theorem Seg.con {E : Env} {K fr d h K1 fr1 d1 h1} (a : Seg E K fr d h K1 fr1 d1 h1) : conK E K ⟨.normal, fr, d, h⟩ = conK E K1 ⟨.normal, fr1, d1, h1⟩ := by
  induction a with
  | refl => rfl
  | step x _ ih => rw [x.con, ih]

def OkS (E : Env) (K : List KI) (fr : List AV) (d : List Df) (h : H) (ob : List Prop) (s : St) : Prop :=
  (∀ p ∈ s.ob, p) → (∀ p ∈ ob, p) ∧ (match s.x with
    | none => Seg E K fr d h s.K s.fr s.d s.h
    | some .ret => ∃ K', Seg E K fr d h (.c .ret :: K') s.fr s.d s.h
    | some .normal => Seg E K fr d h [] s.fr s.d s.h
    | some (.exit _) => False)
theorem con_of_ret {E : Env} {K K' fr d h fr' d' h'} (s : Seg E K fr d h (.c .ret :: K') fr' d' h') : conK E K ⟨.normal, fr, d, h⟩ = some ⟨.ret, fr', d', h'⟩ := by
  rw [s.con, con_retc, con_ret]
theorem con_of_end {E : Env} {K fr d h fr' d' h'} (s : Seg E K fr d h [] fr' d' h') : conK E K ⟨.normal, fr, d, h⟩ = some ⟨.normal, fr', d', h'⟩ := by
  rw [s.con]; rfl

theorem OkS.of_seg {E : Env} {K K' : List KI} {fr fr' : List AV} {d d' : List Df} {h h' : H} {ob ob' : List Prop} {s : St} (hs : OkS E K' fr' d' h' ob' s)
    (he : (∀ p ∈ ob', p) → (∀ p ∈ ob, p) ∧ Seg1 E K fr d h K' fr' d' h') : OkS E K fr d h ob s := by
  intro hp
  obtain ⟨a, b⟩ := hs hp
  obtain ⟨c, e⟩ := he a
  refine ⟨c, ?_⟩
  cases hx : s.x with
  | none => rw [hx] at b; exact .step e b
  | some x =>
    rw [hx] at b
    cases x with
    | ret => obtain ⟨K', b⟩ := b; exact ⟨K', .step e b⟩
    | normal => exact .step e b
    | exit i => exact b.elim

theorem bodyS_ok {E : Env} (hE : ∀ f, E.hook f = none) {run : RunT} (ih : ∀ K fr d h g sc ob s, run K fr d h g sc ob = some s → OkS E K fr d h ob s) :
    ∀ K fr d h g sc ob s, bodyS E run K fr d h g sc ob = some s → OkS E K fr d h ob s := by
  intro K fr d h g sc ob s hs
  cases K with
  | nil => simp only [bodyS] at hs; cases hs; intro hp; exact ⟨hp, .refl ..⟩
  | cons k K =>
    cases k with
    | blk i => simp only [bodyS] at hs; exact (ih _ _ _ _ _ _ _ _ hs).of_seg fun hp => ⟨hp, .blk ..⟩
    | lp m a => simp only [bodyS] at hs; exact (ih _ _ _ _ _ _ _ _ hs).of_seg fun hp => ⟨hp, .lp ..⟩
    | c a =>
      cases a with
      | skip => simp only [bodyS] at hs; exact (ih _ _ _ _ _ _ _ _ hs).of_seg fun hp => ⟨hp, .skip ..⟩
      | exit i =>
        simp only [bodyS] at hs
        split at hs
        · rename_i K' hu
          exact (ih _ _ _ _ _ _ _ _ hs).of_seg fun hp => ⟨hp, .exit _ _ _ _ _ _ hu⟩
        · cases hs
      | ret => simp only [bodyS] at hs; cases hs; intro hp; exact ⟨hp, _, .refl ..⟩
      | seq a b => simp only [bodyS] at hs; exact (ih _ _ _ _ _ _ _ _ hs).of_seg fun hp => ⟨hp, .seq ..⟩
      | cond c a b =>
        simp only [bodyS] at hs
        split at hs
        · rename_i hc; exact (ih _ _ _ _ _ _ _ _ hs).of_seg fun hp => ⟨hp, .yes _ _ _ _ _ _ _ hc⟩
        · rename_i hc; exact (ih _ _ _ _ _ _ _ _ hs).of_seg fun hp => ⟨hp, .no _ _ _ _ _ _ _ hc⟩
        · cases hs
      | block i a => simp only [bodyS] at hs; exact (ih _ _ _ _ _ _ _ _ hs).of_seg fun hp => ⟨hp, .block ..⟩
      | loop m a => simp only [bodyS] at hs; exact (ih _ _ _ _ _ _ _ _ hs).of_seg fun hp => ⟨hp, .loop ..⟩
      | ops l =>
        cases l with
        | nil => simp only [bodyS] at hs; exact (ih _ _ _ _ _ _ _ _ hs).of_seg fun hp => ⟨hp, .nil ..⟩
        | cons i l =>
          cases g with
          | succ g =>
            simp only [bodyS] at hs
            cases hw : wanted fr i.it.guard with
            | none => rw [hw] at hs; cases hs
            | some b =>
              rw [hw] at hs
              cases b with
              | false => exact (ih _ _ _ _ _ _ _ _ hs).of_seg fun hp => ⟨hp, .off _ _ _ _ _ _ hw⟩
              | true =>
                simp only at hs
                cases hst : step i.it.op fr h with
                | none => rw [hst] at hs; cases hs
                | some r =>
                  rw [hst] at hs
                  cases r with
                  | dfr f args => cases hs
                  | val x h' =>
                    simp only at hs
                    split at hs
                    · rename_i hk; exact (ih _ _ _ _ _ _ _ _ hs).of_seg fun hp => ⟨hp, .val _ _ _ _ _ _ _ _ hw hst hk⟩
                    · cases hs
                  | call f args =>
                    simp only at hs
                    cases hb : E.body f with
                    | none => rw [hb] at hs; cases hs
                    | some b =>
                      rw [hb] at hs
                      simp only at hs
                      split at hs
                      · cases hs
                      · rename_i hn
                        split at hs
                        · rename_i K2 fr' h' g' sc' ob' hrun
                          split at hs
                          · rename_i v hv
                            split at hs
                            · rename_i hk
                              refine (ih _ _ _ _ _ _ _ _ hs).of_seg fun hp => ?_
                              obtain ⟨p1, p2⟩ := ih _ _ _ _ _ _ _ _ hrun hp
                              obtain ⟨K3, p2⟩ := p2
                              have p2 := con_of_ret p2
                              exact ⟨p1, .call _ _ _ _ _ _ _ _ _ _ hw hst (call_con hE hb hn (by intro i h; cases h) p2 hv) hk⟩
                            · cases hs
                          · cases hs
                        · rename_i K2 fr' h' g' sc' ob' hrun
                          split at hs
                          · rename_i v hv
                            split at hs
                            · rename_i hk
                              refine (ih _ _ _ _ _ _ _ _ hs).of_seg fun hp => ?_
                              obtain ⟨p1, p2⟩ := ih _ _ _ _ _ _ _ _ hrun hp
                              have p2 := con_of_end p2
                              exact ⟨p1, .call _ _ _ _ _ _ _ _ _ _ hw hst (call_con hE hb hn (by intro i h; cases h) p2 hv) hk⟩
                            · cases hs
                          · cases hs
                        · cases hs
          | zero =>
            simp only [bodyS] at hs
            split at hs
            · cases hs
            · rename_i g' sc'
              cases hs
              intro hp
              exact ⟨hp, .refl ..⟩
            · rename_i g' sc'
              cases hw : wanted fr i.it.guard with
              | none => rw [hw] at hs; cases hs
              | some b =>
                rw [hw] at hs
                cases b with
                | false => cases hs
                | true =>
                  simp only at hs
                  split at hs
                  · rename_i x h' hst
                    refine (ih _ _ _ _ _ _ _ _ hs).of_seg fun hp => ?_
                    obtain ⟨p1, p2⟩ := agains_of hp
                    exact ⟨p2, .val _ _ _ _ _ _ _ _ hw hst p1⟩
                  · cases hs
            · rename_i e g' sc' _ _
              cases hw : wanted fr i.it.guard with
              | none => rw [hw] at hs; cases hs
              | some b =>
                rw [hw] at hs
                cases b with
                | false => cases hs
                | true =>
                  simp only at hs
                  split at hs
                  · rename_i x h' p hsc
                    refine (ih _ _ _ _ _ _ _ _ hs).of_seg fun hp => ?_
                    simp only [List.mem_cons, forall_eq_or_imp] at hp
                    obtain ⟨p1, p2⟩ := agains_of hp.2
                    exact ⟨p2, .val _ _ _ _ _ _ _ _ hw (scr_step hsc hp.1) p1⟩
                  · cases hs

theorem runS_ok {E : Env} (hE : ∀ f, E.hook f = none) : ∀ (n : Nat) K fr d h g sc ob s, runS E n K fr d h g sc ob = some s → OkS E K fr d h ob s
  | 0, K, fr, d, h, g, sc, ob, s, hs => by cases hs
  | n + 1, K, fr, d, h, g, sc, ob, s, hs => bodyS_ok hE (runS_ok hE n) K fr d h g sc ob s hs
end Go.Kx
/- SCRIPTED RUNS, part 3: steps over a small heap are steps over each heap that holds it. -/
namespace Go.Kx
open Go

def okK (G : Nat) : List KI → Bool
  | [] => true
  | .c a :: K => okAC G a && okK G K
  | .blk _ :: K => okK G K
  | .lp _ a :: K => okAC G a && okK G K

theorem okK_unwind {G i : Nat} : ∀ {K K' : List KI}, okK G K = true → unwind i K = some K' → okK G K' = true
  | [], K', _, hu => by simp [unwind] at hu
  | .c a :: K, K', hk, hu => by simp only [okK, Bool.and_eq_true] at hk; simp only [unwind] at hu; exact okK_unwind hk.2 hu
  | .lp m a :: K, K', hk, hu => by simp only [okK, Bool.and_eq_true] at hk; simp only [unwind] at hu; exact okK_unwind hk.2 hu
  | .blk j :: K, K', hk, hu => by
    simp only [okK] at hk; simp only [unwind] at hu
    split at hu
    · cases hu; exact hk
    · exact okK_unwind hk hu

section
variable {E : Env} {G : Nat}
theorem Seg1.mono (hE : Plain E G) {K fr d h K1 fr1 d1 h1} (s : Seg1 E K fr d h K1 fr1 d1 h1) : h.nx ≤ h1.nx := by
  cases s with
  | val _ _ _ _ _ _ _ _ hw hs hk => exact step_nx hs
  | call _ _ _ _ _ _ _ _ _ _ hw hs hc hk => exact ((ev_ren hE).2.1 _ _ _ _ hc).1
  | _ => exact Nat.le_refl _
theorem Seg.mono (hE : Plain E G) {K fr d h K1 fr1 d1 h1} (s : Seg E K fr d h K1 fr1 d1 h1) : h.nx ≤ h1.nx := by
  induction s with
  | refl => exact Nat.le_refl _
  | step a _ ih => exact Nat.le_trans (a.mono hE) ih
variable {ι : Nm} {B n0 N0 : Nat} {S : Nat → Prop} {h0 : H}
theorem Seg1.ren (hE : Plain E G) (hG : ∀ g, g < G → ι.i g = g ∧ ι.d g = 0) (lock : ∀ k, n0 ≤ k → k < B → ι.i k = N0 + (k - n0) ∧ ι.d k = 0)
    {K fr d hs K1 fr1 d1 hs1 h} (s : Seg1 E K fr d hs K1 fr1 d1 hs1) (hok : okK G K = true) (r : RelH ι B n0 N0 S h0 hs h) (hB : hs1.nx ≤ B) :
    okK G K1 = true ∧ ∃ h1, Seg1 E K (rens ι fr) (renD ι d) h K1 (rens ι fr1) (renD ι d1) h1 ∧ RelH ι B n0 N0 S h0 hs1 h1 := by
  cases s with
  | skip => simp only [okK, Bool.and_eq_true] at hok; exact ⟨hok.2, h, .skip .., r⟩
  | nil => simp only [okK, Bool.and_eq_true] at hok; exact ⟨hok.2, h, .nil .., r⟩
  | exit i K _ _ _ _ hu => simp only [okK, Bool.and_eq_true] at hok; exact ⟨okK_unwind hok.2 hu, h, .exit _ _ _ _ _ _ hu, r⟩
  | seq a b => simp only [okK, okAC, Bool.and_eq_true] at hok ⊢; exact ⟨⟨hok.1.1, hok.1.2, hok.2⟩, h, .seq .., r⟩
  | yes _ _ _ _ _ _ _ hc =>
    simp only [okK, okAC, Bool.and_eq_true] at hok ⊢
    exact ⟨⟨hok.1.2.1, hok.2⟩, h, .yes _ _ _ _ _ _ _ (by rw [ren_opd hG hok.1.1, hc]; rfl), r⟩
  | no _ _ _ _ _ _ _ hc =>
    simp only [okK, okAC, Bool.and_eq_true] at hok ⊢
    exact ⟨⟨hok.1.2.2, hok.2⟩, h, .no _ _ _ _ _ _ _ (by rw [ren_opd hG hok.1.1, hc]; rfl), r⟩
  | block => simp only [okK, okAC, Bool.and_eq_true] at hok ⊢; exact ⟨hok, h, .block .., r⟩
  | loop m a K fr => 
    simp only [okK, okAC, Bool.and_eq_true] at hok ⊢
    refine ⟨⟨hok.1, hok.1, hok.2⟩, h, ?_, r⟩
    rw [← rens_mask]; exact .loop ..
  | lp => simp only [okK, okAC, Bool.and_eq_true] at hok ⊢; exact ⟨hok, h, .lp .., r⟩
  | blk => simp only [okK] at hok; exact ⟨hok, h, .blk .., r⟩
  | off i l _ _ _ _ hw =>
    simp only [okK, okAC, okL, Bool.and_eq_true] at hok ⊢
    refine ⟨⟨hok.1.2, hok.2⟩, h, ?_, r⟩
    rw [rens_putD]
    exact .off _ _ _ _ _ _ (wanted_ren fr _ hw)
  | val i l _ _ _ _ _ _ hw hs1 hk =>
    simp only [okK, okAC, okL, okIc, Bool.and_eq_true] at hok ⊢
    obtain ⟨g, g1, g2⟩ := step_ren hG lock r hok.1.1.1 hs1 hB
    refine ⟨⟨hok.1.2, hok.2⟩, g, ?_, g2⟩
    rw [rens_putD]
    exact .val _ _ _ _ _ _ _ _ (wanted_ren fr _ hw) g1 (agains_ren hG lock g2 hB hok.1.1.2 hk)
  | call i l _ _ _ _ f args x h' hw hs1 hc hk =>
    simp only [okK, okAC, okL, okIc, Bool.and_eq_true] at hok ⊢
    have g1 := step_ren hG lock r hok.1.1.1 hs1 trivial
    obtain ⟨g, g2, g3⟩ := ((ev_ren hE).2.1 _ _ _ _ hc).2 ι B n0 N0 S h0 h hG lock r hB
    refine ⟨⟨hok.1.2, hok.2⟩, g, ?_, g3⟩
    rw [rens_putD]
    exact .call _ _ _ _ _ _ _ _ _ _ (wanted_ren fr _ hw) g1 g2 (agains_ren hG lock g3 hB hok.1.1.2 hk)
theorem Seg.ren (hE : Plain E G) (hG : ∀ g, g < G → ι.i g = g ∧ ι.d g = 0) (lock : ∀ k, n0 ≤ k → k < B → ι.i k = N0 + (k - n0) ∧ ι.d k = 0)
    {K fr d hs K1 fr1 d1 hs1} (s : Seg E K fr d hs K1 fr1 d1 hs1) : ∀ {h}, okK G K = true → RelH ι B n0 N0 S h0 hs h → hs1.nx ≤ B →
    ∃ h1, Seg E K (rens ι fr) (renD ι d) h K1 (rens ι fr1) (renD ι d1) h1 ∧ RelH ι B n0 N0 S h0 hs1 h1 := by
  induction s with
  | refl => intro h hok r hB; exact ⟨h, .refl .., r⟩
  | step a b ih =>
    intro h hok r hB
    obtain ⟨k1, g, g1, g2⟩ := a.ren hE hG lock hok r (Nat.le_trans (b.mono hE) hB)
    obtain ⟨g', g3, g4⟩ := ih k1 g2 hB
    exact ⟨g', .step g1 g3, g4⟩
end

end Go.Kx
/- SCRIPTED RUNS, part 4: the small heap in the great one; what is not needed any more is left out; chains. -/
namespace Go.Kx
open Go

/- the names of a value lie below n -/
mutual
def below (n : Nat) : AV → Bool
  | .ptr i _ _ => Nat.blt i n
  | .slice i _ _ _ _ _ => Nat.blt i n
  | .map i => Nat.blt i n
  | .func _ a b => belows n a && belows n b
  | .iface _ x => below n x
  | .agg l => belows n l
  | .tup l => belows n l
  | _ => true
def belows (n : Nat) : List AV → Bool
  | [] => true
  | x :: l => below n x && belows n l
end
mutual
theorem ren_cong {ι κ : Nm} {n : Nat} (he : ∀ i, i < n → ι.i i = κ.i i ∧ ι.d i = κ.d i) : ∀ {x : AV}, below n x = true → ren ι x = ren κ x
  | .undef, _ => rfl
  | .bool _, _ => rfl
  | .int _ _, _ => rfl
  | .str _, _ => rfl
  | .nil, _ => rfl
  | .ptr i v o, h => by
    simp only [below, Nat.blt_eq] at h
    simp only [ren, (he i h).1, (he i h).2]
  | .nilS, _ => rfl
  | .slice i v o n sz f, h => by
    simp only [below, Nat.blt_eq] at h
    simp only [ren, (he i h).1, (he i h).2]
  | .nilM, _ => rfl
  | .map i, h => by
    simp only [below, Nat.blt_eq] at h
    simp only [ren, (he i h).1]
  | .nilF, _ => rfl
  | .func f a b, h => by
    simp only [below, Bool.and_eq_true] at h
    simp only [ren, rens_cong he h.1, rens_cong he h.2]
  | .nilI, _ => rfl
  | .iface t x, h => by
    simp only [below] at h
    simp only [ren, ren_cong he h]
  | .agg l, h => by
    simp only [below] at h
    simp only [ren, rens_cong he h]
  | .tup l, h => by
    simp only [below] at h
    simp only [ren, rens_cong he h]
theorem rens_cong {ι κ : Nm} {n : Nat} (he : ∀ i, i < n → ι.i i = κ.i i ∧ ι.d i = κ.d i) : ∀ {l : List AV}, belows n l = true → rens ι l = rens κ l
  | [], _ => rfl
  | x :: l, h => by
    simp only [belows, Bool.and_eq_true] at h
    simp only [rens, ren_cong he h.1, rens_cong he h.2]
end

mutual
theorem ren_comp {ι κ μ : Nm} {n : Nat} (he : ∀ i, i < n → μ.i i = ι.i (κ.i i) ∧ μ.d i = κ.d i + ι.d (κ.i i)) : ∀ {x : AV}, below n x = true → ren μ x = ren ι (ren κ x)
  | .undef, _ => rfl
  | .bool _, _ => rfl
  | .int _ _, _ => rfl
  | .str _, _ => rfl
  | .nil, _ => rfl
  | .ptr i v o, h => by
    simp only [below, Nat.blt_eq] at h
    simp only [ren, (he i h).1, (he i h).2, Nat.add_assoc]
  | .nilS, _ => rfl
  | .slice i v o n sz f, h => by
    simp only [below, Nat.blt_eq] at h
    simp only [ren, (he i h).1, (he i h).2, Nat.add_assoc]
  | .nilM, _ => rfl
  | .map i, h => by
    simp only [below, Nat.blt_eq] at h
    simp only [ren, (he i h).1]
  | .nilF, _ => rfl
  | .func f a b, h => by
    simp only [below, Bool.and_eq_true] at h
    simp only [ren, rens_comp he h.1, rens_comp he h.2]
  | .nilI, _ => rfl
  | .iface t x, h => by
    simp only [below] at h
    simp only [ren, ren_comp he h]
  | .agg l, h => by
    simp only [below] at h
    simp only [ren, rens_comp he h]
  | .tup l, h => by
    simp only [below] at h
    simp only [ren, rens_comp he h]
theorem rens_comp {ι κ μ : Nm} {n : Nat} (he : ∀ i, i < n → μ.i i = ι.i (κ.i i) ∧ μ.d i = κ.d i + ι.d (κ.i i)) : ∀ {l : List AV}, belows n l = true → rens μ l = rens ι (rens κ l)
  | [], _ => rfl
  | x :: l, h => by
    simp only [belows, Bool.and_eq_true] at h
    simp only [rens, ren_comp he h.1, rens_comp he h.2]
end
def belowE (n : Nat) : List (AV × AV) → Bool
  | [] => true
  | (k, x) :: l => below n k && (below n x && belowE n l)
theorem renE_comp {ι κ μ : Nm} {n : Nat} (he : ∀ i, i < n → μ.i i = ι.i (κ.i i) ∧ μ.d i = κ.d i + ι.d (κ.i i)) : ∀ {l : List (AV × AV)}, belowE n l = true → renE μ l = renE ι (renE κ l)
  | [], _ => rfl
  | (k, x) :: l, h => by
    simp only [belowE, Bool.and_eq_true] at h
    simp only [renE, ren_comp he h.1, ren_comp he h.2.1, renE_comp he h.2.2]
theorem renO_comp {ι κ μ : Nm} {n : Nat} (he : ∀ i, i < n → μ.i i = ι.i (κ.i i) ∧ μ.d i = κ.d i + ι.d (κ.i i)) {a b : Nat} {o : Obj} (h : belows n o.l = true) : renO μ (a + b) o = renO ι b (renO κ a o) := by
  simp only [renO, rens_comp he h, Nat.add_assoc]

/- THE EMBEDDING: the small heap lies in the great one -/
structure Emb (G : Nat) (ι : Nm) (hs h : H) : Prop where
  fix : ∀ g, g < G → ι.i g = g ∧ ι.d g = 0
  up : ∀ k, hs.nx ≤ k → ι.i k = h.nx + (k - hs.nx) ∧ ι.d k = 0
  lt : ∀ i ob, hs.get i = some ob → ι.i i < h.nx
  cs : ∀ i ob, hs.get i = some ob → h.get (ι.i i) = some (renO ι (ι.d i) ob)
  inj : ∀ i j ob ob', hs.get i = some ob → hs.get j = some ob' → ι.i i = ι.i j → i = j
  dz : ∀ i ob, hs.get i = some ob → ob.hi = 0 → ι.d i = 0
  ltm : ∀ i es, hs.gm i = some es → ι.i i < h.nx
  ms : ∀ i es, hs.gm i = some es → h.gm (ι.i i) = some (renE ι es)
  injm : ∀ i j es es', hs.gm i = some es → hs.gm j = some es' → ι.i i = ι.i j → i = j

theorem Emb.rel {G : Nat} {ι : Nm} {hs h : H} (e : Emb G ι hs h) : RelH ι 0 hs.nx h.nx (fun _ => True) h hs h where
  n0le := Nat.le_refl _
  nx := by omega
  lt := e.lt
  cs := e.cs
  inj := e.inj
  dz := e.dz
  ltm := e.ltm
  ms := e.ms
  injm := e.injm
  own := fun _ _ _ _ => trivial
  ownm := fun _ _ _ _ => trivial
  un := fun _ _ h => absurd trivial h

theorem RelH.toB {ι : Nm} {B n0 N0 : Nat} {S : Nat → Prop} {h0 hs h : H} (r : RelH ι B n0 N0 S h0 hs h) (B' : Nat) : RelH ι B' n0 N0 S h0 hs h := ⟨r.n0le, r.nx, r.lt, r.cs, r.inj, r.dz, r.ltm, r.ms, r.injm, r.own, r.ownm, r.un⟩

/- all that lies in a heap lies below its next id -/
structure WfH (h : H) : Prop where
  lt : ∀ i ob, h.get i = some ob → i < h.nx ∧ belows h.nx ob.l = true
  ltm : ∀ i es, h.gm i = some es → i < h.nx ∧ belowE h.nx es = true


theorem Emb.seg {E : Env} {G : Nat} {ι : Nm} {hs h : H} (hE : Plain E G) (e : Emb G ι hs h) {K fr d K1 fr1 d1 hs1} (hok : okK G K = true) (s : Seg E K fr d hs K1 fr1 d1 hs1) :
    ∃ h1, Seg E K (rens ι fr) (renD ι d) h K1 (rens ι fr1) (renD ι d1) h1 ∧ Emb G ι hs1 h1 := by
  have hm := s.mono hE
  obtain ⟨h1, g1, g2⟩ := s.ren hE e.fix (B := hs1.nx) (n0 := hs.nx) (N0 := h.nx) (fun k hk _ => e.up k hk) hok (e.rel.toB hs1.nx) (Nat.le_refl _)
  refine ⟨h1, g1, e.fix, ?_, g2.lt, g2.cs, g2.inj, g2.dz, g2.ltm, g2.ms, g2.injm⟩
  intro k hk
  obtain ⟨a, b⟩ := e.up k (Nat.le_trans hm hk)
  refine ⟨?_, b⟩
  rw [a, g2.nx]; omega

/- what is needed of a small heap -/
structure Sub (G : Nat) (κ : Nm) (HS hs : H) : Prop where
  le : G ≤ HS.nx
  fix : ∀ g, g < G → κ.i g = g ∧ κ.d g = 0
  cs : ∀ i ob, HS.get i = some ob → hs.get (κ.i i) = some (renO κ (κ.d i) ob)
  inj : ∀ i j ob ob', HS.get i = some ob → HS.get j = some ob' → κ.i i = κ.i j → i = j
  dz : ∀ i ob, HS.get i = some ob → ob.hi = 0 → κ.d i = 0
  ms : ∀ i es, HS.gm i = some es → hs.gm (κ.i i) = some (renE κ es)
  injm : ∀ i j es es', HS.gm i = some es → HS.gm j = some es' → κ.i i = κ.i j → i = j

def comp (ι κ : Nm) (n N : Nat) : Nm := ⟨fun k => if k < n then ι.i (κ.i k) else N + (k - n), fun k => if k < n then κ.d k + ι.d (κ.i k) else 0⟩
theorem comp_lt (ι κ : Nm) (n N : Nat) : ∀ i, i < n → (comp ι κ n N).i i = ι.i (κ.i i) ∧ (comp ι κ n N).d i = κ.d i + ι.d (κ.i i) := fun i hi => ⟨if_pos hi, if_pos hi⟩

theorem Emb.comp {G : Nat} {ι κ : Nm} {HS hs h : H} (e : Emb G ι hs h) (s : Sub G κ HS hs) (w : WfH HS) : Emb G (comp ι κ HS.nx h.nx) HS h := by
  have cl := comp_lt ι κ HS.nx h.nx
  refine ⟨?_, ?_, ?_, ?_, ?_, ?_, ?_, ?_, ?_⟩
  · intro g hg
    have hgl : g < HS.nx := Nat.lt_of_lt_of_le hg s.le
    obtain ⟨a, b⟩ := s.fix g hg
    obtain ⟨a', b'⟩ := e.fix g hg
    rw [(cl g hgl).1, (cl g hgl).2, a, b, a', b']
    exact ⟨rfl, rfl⟩
  · intro k hk
    exact ⟨if_neg (by omega), if_neg (by omega)⟩
  · intro i ob ho
    rw [(cl i (w.lt i ob ho).1).1]
    exact e.lt _ _ (s.cs i ob ho)
  · intro i ob ho
    obtain ⟨hl, hb⟩ := w.lt i ob ho
    rw [(cl i hl).1, (cl i hl).2, renO_comp cl hb]
    exact e.cs _ _ (s.cs i ob ho)
  · intro i j ob ob' hi hj he
    rw [(cl i (w.lt i ob hi).1).1, (cl j (w.lt j ob' hj).1).1] at he
    exact s.inj i j ob ob' hi hj (e.inj _ _ _ _ (s.cs i ob hi) (s.cs j ob' hj) he)
  · intro i ob ho hz
    have h1 := s.dz i ob ho hz
    have h2 := e.dz _ _ (s.cs i ob ho) (by simp only [renO, hz, h1])
    rw [(cl i (w.lt i ob ho).1).2, h1, h2]
  · intro i es ho
    rw [(cl i (w.ltm i es ho).1).1]
    exact e.ltm _ _ (s.ms i es ho)
  · intro i es ho
    obtain ⟨hl, hb⟩ := w.ltm i es ho
    rw [(cl i hl).1, renE_comp cl hb]
    exact e.ms _ _ (s.ms i es ho)
  · intro i j es es' hi hj he
    rw [(cl i (w.ltm i es hi).1).1, (cl j (w.ltm j es' hj).1).1] at he
    exact s.injm i j es es' hi hj (e.injm _ _ _ _ (s.ms i es hi) (s.ms j es' hj) he)

/- it comes well, from each heap that holds the small one -/
def Good (E : Env) (G : Nat) (K : List KI) (FR : List AV) (HS : H) (Q : Res → Prop) : Prop := ∀ (ι : Nm) (h : H), Emb G ι HS h → ∃ r, conK E K ⟨.normal, rens ι FR, [], h⟩ = some r ∧ Q r

section
variable {E : Env} {G : Nat}
theorem Good.seg (hE : Plain E G) {K K1 : List KI} {FR FR1 fr1 : List AV} {HS HS1 hs1 : H} {κ : Nm} {Q : Res → Prop} (s : Seg E K FR [] HS K1 fr1 [] hs1) (hok : okK G K = true) (hs : Sub G κ HS1 hs1) (w : WfH HS1)
    (hf : fr1 = rens κ FR1) (hb : belows HS1.nx FR1 = true) (g : Good E G K1 FR1 HS1 Q) : Good E G K FR HS Q := by
  intro ι h e
  obtain ⟨h1, s1, e1⟩ := e.seg hE hok s
  obtain ⟨r, hr, hq⟩ := g _ h1 (e1.comp hs w)
  refine ⟨r, ?_, hq⟩
  have := s1.con
  simp only [renD, List.map_nil] at this
  rw [this, hf, ← rens_comp (comp_lt ι κ HS1.nx h1.nx) hb]
  exact hr
theorem Good.step (hE : Plain E G) {K K1 : List KI} {FR fr1 : List AV} {HS hs1 : H} {Q : Res → Prop} (s : Seg E K FR [] HS K1 fr1 [] hs1) (hok : okK G K = true) (g : Good E G K1 fr1 hs1 Q) : Good E G K FR HS Q := by
  intro ι h e
  obtain ⟨h1, s1, e1⟩ := e.seg hE hok s
  obtain ⟨r, hr, hq⟩ := g _ h1 e1
  refine ⟨r, ?_, hq⟩
  have := s1.con
  simp only [renD, List.map_nil] at this
  rw [this]
  exact hr
theorem Good.ret (hE : Plain E G) {K K' : List KI} {FR fr1 : List AV} {d1 : List Df} {HS hs1 : H} {Q : Res → Prop} (s : Seg E K FR [] HS (.c .ret :: K') fr1 d1 hs1) (hok : okK G K = true)
    (hq : ∀ ι h, Emb G ι hs1 h → Q ⟨.ret, rens ι fr1, renD ι d1, h⟩) : Good E G K FR HS Q := by
  intro ι h e
  obtain ⟨h1, s1, e1⟩ := e.seg hE hok s
  exact ⟨_, con_of_ret (d := []) s1, hq ι h1 e1⟩
end

/- heaps out of lists -/
def trL {α : Type} : List (Nat × α) → Tr α
  | [] => .leaf
  | p :: l => (trL l).set p.1 p.2
theorem trL_get {α : Type} : ∀ {l : List (Nat × α)} {i : Nat} {x : α}, (trL l).get i = some x → (i, x) ∈ l
  | [], i, x, h => by simp only [trL, Tr.get_leaf] at h; cases h
  | p :: l, i, x, h => by
    simp only [trL] at h
    by_cases e : i = p.1
    · subst e
      rw [Tr.get_set_same] at h
      cases h; exact List.mem_cons_self
    · rw [Tr.get_set_ne _ _ _ _ e] at h
      exact List.mem_cons_of_mem _ (trL_get h)
def mkH (nx : Nat) (L : List (Nat × Obj)) (M : List (Nat × List (AV × AV))) : H := ⟨nx, trL L, trL M⟩
theorem WfH.mk' {nx : Nat} {L : List (Nat × Obj)} {M : List (Nat × List (AV × AV))} (hL : ∀ p ∈ L, p.1 < nx ∧ belows nx p.2.l = true) (hM : ∀ p ∈ M, p.1 < nx ∧ belowE nx p.2 = true) : WfH (mkH nx L M) :=
  ⟨fun _ _ h => hL _ (trL_get h), fun _ _ h => hM _ (trL_get h)⟩

/- the same names apart, the ids in step -/
def idsB (κ : Nat → Nat) : List Nat → Bool
  | [] => true
  | i :: l => l.all (fun j => Nat.beq i j || !Nat.beq (κ i) (κ j)) && idsB κ l
theorem idsB_spec {κ : Nat → Nat} : ∀ {l : List Nat}, idsB κ l = true → ∀ i j, i ∈ l → j ∈ l → κ i = κ j → i = j
  | [], _, i, j, hi, _, _ => by cases hi
  | a :: l, hb, i, j, hi, hj, he => by
    simp only [idsB, Bool.and_eq_true, List.all_eq_true, Bool.or_eq_true, Nat.beq_eq_true_eq, Bool.not_eq_true'] at hb
    obtain ⟨h1, h2⟩ := hb
    have key : ∀ x ∈ l, κ a = κ x → a = x := by
      intro x hx hxe
      rcases h1 x hx with h | h
      · exact Nat.eq_of_beq_eq_true h
      · have : Nat.beq (κ a) (κ x) = true := by rw [hxe]; exact Nat.beq_refl _
        rw [this] at h; cases h
    rcases List.mem_cons.1 hi with e1 | hi' <;> rcases List.mem_cons.1 hj with e2 | hj'
    · rw [e1, e2]
    · subst e1; exact key j hj' he
    · subst e2; exact (key i hi' he.symm).symm
    · exact idsB_spec h2 i j hi' hj' he
theorem Sub.mk' {G : Nat} {κ : Nm} {nx : Nat} {L : List (Nat × Obj)} {M : List (Nat × List (AV × AV))} {hs : H} (hle : G ≤ nx) (hfix : ∀ g, g < G → κ.i g = g ∧ κ.d g = 0)
    (hcs : ∀ p ∈ L, hs.get (κ.i p.1) = some (renO κ (κ.d p.1) p.2)) (hms : ∀ p ∈ M, hs.gm (κ.i p.1) = some (renE κ p.2))
    (hi : idsB κ.i (L.map (·.1)) = true) (him : idsB κ.i (M.map (·.1)) = true) (hz : ∀ p ∈ L, p.2.hi = 0 → κ.d p.1 = 0) : Sub G κ (mkH nx L M) hs where
  le := hle
  fix := hfix
  cs := fun _ _ h => hcs _ (trL_get h)
  inj := fun i j ob ob' h1 h2 he => idsB_spec hi i j (List.mem_map.2 ⟨_, trL_get h1, rfl⟩) (List.mem_map.2 ⟨_, trL_get h2, rfl⟩) he
  dz := fun _ _ h hh => hz _ (trL_get h) hh
  ms := fun _ _ h => hms _ (trL_get h)
  injm := fun i j ob ob' h1 h2 he => idsB_spec him i j (List.mem_map.2 ⟨_, trL_get h1, rfl⟩) (List.mem_map.2 ⟨_, trL_get h2, rfl⟩) he

/- a naming: below G nothing turns; then a list -/
def nmL (G : Nat) (l : List (Nat × Nat)) : Nm := ⟨fun k => if k < G then k else (l.getD (k - G) (0, 0)).1, fun k => if k < G then 0 else (l.getD (k - G) (0, 0)).2⟩
theorem nmL_fix (G : Nat) (l : List (Nat × Nat)) : ∀ g, g < G → (nmL G l).i g = g ∧ (nmL G l).d g = 0 := fun _ hg => ⟨if_pos hg, if_pos hg⟩
end Go.Kx
/- SCRIPTED RUNS, part 5: what a printed run gives; calls; obligations. -/
namespace Go.Kx
open Go

/- where code is left: by the way to it -/
def nav : AC → List Nat → List KI → List KI
  | .seq a b, p, K => match p with
    | [] => .c (.seq a b) :: K
    | 0 :: p => nav a p (.c b :: K)
    | _ :: p => nav b p K
  | .cond c a b, p, K => match p with
    | [] => .c (.cond c a b) :: K
    | 0 :: p => nav a p K
    | _ :: p => nav b p K
  | .block i a, p, K => match p with
    | [] => .c (.block i a) :: K
    | _ :: p => nav a p (.blk i :: K)
  | .loop m a, p, K => match p with
    | [] => .c (.loop m a) :: K
    | _ :: p => nav a p (.lp m a :: K)
  | .ops l, p, K => match p with
    | [] => .c (.ops l) :: K
    | k :: _ => .c (.ops (l.drop k)) :: K
  | a, _, K => .c a :: K

abbrev View := List KI × List AV × List Df × List (Option Obj) × List (Option (List (AV × AV))) × Option Ex × List Prop
def viewS (κ : Nm) (L : List (Nat × Obj)) (M : List (Nat × List (AV × AV))) (r : Option St) : Option View := match r with
  | some s => some (s.K, s.fr, s.d, L.map (fun p => s.h.get (κ.i p.1)), M.map (fun p => s.h.gm (κ.i p.1)), s.x, s.ob)
  | none => none
def objs (κ : Nm) (L : List (Nat × Obj)) : List (Option Obj) := L.map fun p => some (renO κ (κ.d p.1) p.2)
def maps (κ : Nm) (M : List (Nat × List (AV × AV))) : List (Option (List (AV × AV))) := M.map fun p => some (renE κ p.2)

theorem map_eq_all {α β : Type} {f g : α → β} : ∀ {l : List α}, l.map f = l.map g → ∀ p ∈ l, f p = g p
  | [], _, p, hp => by cases hp
  | a :: l, h, p, hp => by
    simp only [List.map_cons, List.cons.injEq] at h
    rcases List.mem_cons.1 hp with e | hp
    · rw [e]; exact h.1
    · exact map_eq_all h.2 p hp

/- what a Bool says of a list of objects -/
def wfB (nx : Nat) (L : List (Nat × Obj)) (M : List (Nat × List (AV × AV))) : Bool := L.all (fun p => Nat.blt p.1 nx && belows nx p.2.l) && M.all fun p => Nat.blt p.1 nx && belowE nx p.2
def subB (κ : Nm) (L : List (Nat × Obj)) (M : List (Nat × List (AV × AV))) : Bool := idsB κ.i (L.map (·.1)) && (idsB κ.i (M.map (·.1)) && L.all fun p => !Nat.beq p.2.hi 0 || Nat.beq (κ.d p.1) 0)
theorem wf_of {nx : Nat} {L : List (Nat × Obj)} {M : List (Nat × List (AV × AV))} (h : wfB nx L M = true) : WfH (mkH nx L M) := by
  simp only [wfB, Bool.and_eq_true, List.all_eq_true, Nat.blt_eq] at h
  exact WfH.mk' h.1 h.2
theorem wf_cons {nx i : Nat} {ob : Obj} {L : List (Nat × Obj)} {M : List (Nat × List (AV × AV))} (hi : Nat.blt i nx = true) (ho : belows nx ob.l = true) (h : wfB nx L M = true) : WfH (mkH nx ((i, ob) :: L) M) := by
  simp only [wfB, Bool.and_eq_true, List.all_eq_true, Nat.blt_eq] at h
  refine WfH.mk' ?_ h.2
  intro p hp
  rcases List.mem_cons.1 hp with e | hp
  · rw [e]; exact ⟨by simpa [Nat.blt_eq] using hi, ho⟩
  · exact h.1 p hp
theorem sub_of {G nx : Nat} {l : List (Nat × Nat)} {L : List (Nat × Obj)} {M : List (Nat × List (AV × AV))} {hs : H} (hle : Nat.ble G nx = true) (hb : subB (nmL G l) L M = true)
    (hc : L.map (fun p => hs.get ((nmL G l).i p.1)) = objs (nmL G l) L) (hm : M.map (fun p => hs.gm ((nmL G l).i p.1)) = maps (nmL G l) M) : Sub G (nmL G l) (mkH nx L M) hs := by
  simp only [subB, Bool.and_eq_true, List.all_eq_true, Bool.or_eq_true, Bool.not_eq_true', Nat.beq_eq] at hb
  refine Sub.mk' (Nat.le_of_ble_eq_true hle) (nmL_fix G l) (map_eq_all hc) (map_eq_all hm) hb.1 hb.2.1 ?_
  intro p hp h0
  rcases hb.2.2 p hp with h | h
  · rw [h0] at h; cases h
  · simpa using h

section
variable {E : Env} {G : Nat}
/- from a printed run that stops -/
theorem good_run (hE : Plain E G) {fuel : Nat} {K K1 : List KI} {FR FR1 : List AV} {HS : H} {g nx : Nat} {sc : List (Sc × Nat)} {l : List (Nat × Nat)} {L : List (Nat × Obj)} {M : List (Nat × List (AV × AV))} {ob : List Prop} {Q : Res → Prop}
    (hr : viewS (nmL G l) L M (runS E fuel K FR [] HS g sc []) = some (K1, rens (nmL G l) FR1, [], objs (nmL G l) L, maps (nmL G l) M, none, ob))
    (hob : ∀ p ∈ ob, p) (hok : okK G K = true) (hle : Nat.ble G nx = true) (hb : subB (nmL G l) L M = true) (w : WfH (mkH nx L M)) (hf : belows nx FR1 = true) (gd : Good E G K1 FR1 (mkH nx L M) Q) : Good E G K FR HS Q := by
  unfold viewS at hr
  split at hr
  · rename_i s hs
    simp only [Option.some.injEq, Prod.mk.injEq] at hr
    obtain ⟨e1, e2, e3, e4, e5, e6, e7⟩ := hr
    obtain ⟨_, o2⟩ := runS_ok hE.hook _ _ _ _ _ _ _ _ _ hs (by rw [e7]; exact hob)
    rw [e6] at o2
    simp only [e1, e2, e3] at o2
    exact Good.seg hE o2 hok (sub_of hle hb e4 e5) w rfl hf gd
  · cases hr
/- from a printed run that comes to its end -/
theorem good_end (hE : Plain E G) {fuel : Nat} {K : List KI} {FR fr1 : List AV} {HS : H} {g nx : Nat} {sc : List (Sc × Nat)} {l : List (Nat × Nat)} {L : List (Nat × Obj)} {M : List (Nat × List (AV × AV))} {ob : List Prop} {Q : Res → Prop}
    (hr : (match runS E fuel K FR [] HS g sc [] with | some s => some (s.fr, s.d, s.x, s.ob, L.map (fun p => s.h.get ((nmL G l).i p.1)), M.map (fun p => s.h.gm ((nmL G l).i p.1))) | none => none) = some (fr1, [], some .ret, ob, objs (nmL G l) L, maps (nmL G l) M))
    (hob : ∀ p ∈ ob, p) (hok : okK G K = true) (hle : Nat.ble G nx = true) (hb : subB (nmL G l) L M = true) (w : WfH (mkH nx L M))
    (hq : ∀ hs1 ι h, Sub G (nmL G l) (mkH nx L M) hs1 → Emb G ι hs1 h → Emb G (comp ι (nmL G l) nx h.nx) (mkH nx L M) h → Q ⟨.ret, rens ι fr1, [], h⟩) : Good E G K FR HS Q := by
  split at hr
  · rename_i s hs
    simp only [Option.some.injEq, Prod.mk.injEq] at hr
    obtain ⟨e1, e0, e2, e3, e4, e5⟩ := hr
    obtain ⟨_, o2⟩ := runS_ok hE.hook _ _ _ _ _ _ _ _ _ hs (by rw [e3]; exact hob)
    rw [e2] at o2
    obtain ⟨K', o2⟩ := o2
    rw [e1, e0] at o2
    exact Good.ret hE o2 hok (fun ι h e => hq _ _ _ (sub_of hle hb e4 e5) e (e.comp (sub_of hle hb e4 e5) w))
  · cases hr

/- a call: what is left behind it -/
def CallQ (G1 : Nat) (b : AFn) (V : AV) (HS1 : H) (r : Res) : Prop := r.x = .ret ∧ r.d = [] ∧ ∃ ι, Emb G1 ι HS1 r.h ∧ results b r.fr r.h = some (ren ι V)
mutual
theorem ren_id {ι : Nm} {n : Nat} (he : ∀ i, i < n → ι.i i = i ∧ ι.d i = 0) : ∀ {x : AV}, below n x = true → ren ι x = x
  | .undef, _ => rfl
  | .bool _, _ => rfl
  | .int _ _, _ => rfl
  | .str _, _ => rfl
  | .nil, _ => rfl
  | .ptr i v o, h => by
    simp only [below, Nat.blt_eq] at h
    simp only [ren, (he i h).1, (he i h).2, Nat.add_zero]
  | .nilS, _ => rfl
  | .slice i v o n sz f, h => by
    simp only [below, Nat.blt_eq] at h
    simp only [ren, (he i h).1, (he i h).2, Nat.add_zero]
  | .nilM, _ => rfl
  | .map i, h => by
    simp only [below, Nat.blt_eq] at h
    simp only [ren, (he i h).1]
  | .nilF, _ => rfl
  | .func f a b, h => by
    simp only [below, Bool.and_eq_true] at h
    simp only [ren, rens_id he h.1, rens_id he h.2]
  | .nilI, _ => rfl
  | .iface t x, h => by
    simp only [below] at h
    simp only [ren, ren_id he h]
  | .agg l, h => by
    simp only [below] at h
    simp only [ren, rens_id he h]
  | .tup l, h => by
    simp only [below] at h
    simp only [ren, rens_id he h]
theorem rens_id {ι : Nm} {n : Nat} (he : ∀ i, i < n → ι.i i = i ∧ ι.d i = 0) : ∀ {l : List AV}, belows n l = true → rens ι l = l
  | [], _ => rfl
  | x :: l, h => by
    simp only [belows, Bool.and_eq_true] at h
    simp only [rens, ren_id he h.1, rens_id he h.2]
end
theorem renE_id {ι : Nm} {n : Nat} (he : ∀ i, i < n → ι.i i = i ∧ ι.d i = 0) : ∀ {l : List (AV × AV)}, belowE n l = true → renE ι l = l
  | [], _ => rfl
  | (k, x) :: l, h => by
    simp only [belowE, Bool.and_eq_true] at h
    simp only [renE, ren_id he h.1, ren_id he h.2.1, renE_id he h.2.2]
def idN : Nm := ⟨fun k => k, fun _ => 0⟩
theorem Emb.id {h : H} (w : WfH h) (G : Nat) : Emb G idN h h where
  fix := fun _ _ => ⟨rfl, rfl⟩
  up := fun k hk => ⟨by simp only [idN]; omega, rfl⟩
  lt := fun i ob ho => (w.lt i ob ho).1
  cs := fun i ob ho => by
    show h.get i = some (renO idN 0 ob)
    rw [ho]; simp only [renO, rens_id (ι := idN) (n := h.nx) (fun _ _ => ⟨rfl, rfl⟩) (w.lt i ob ho).2, Nat.add_zero]
  inj := fun _ _ _ _ _ _ he => he
  dz := fun _ _ _ _ => rfl
  ltm := fun i es ho => (w.ltm i es ho).1
  ms := fun i es ho => by
    show h.gm i = some (renE idN es)
    rw [ho, renE_id (ι := idN) (n := h.nx) (fun _ _ => ⟨rfl, rfl⟩) (w.ltm i es ho).2]
  injm := fun _ _ _ _ _ _ he => he
theorem Emb.sub {G G1 : Nat} {ι : Nm} {HS h : H} (e : Emb G1 ι HS h) (hG : G ≤ G1) (hn : G ≤ HS.nx) : Sub G ι HS h := ⟨hn, fun g hg => e.fix g (Nat.lt_of_lt_of_le hg hG), e.cs, e.inj, e.dz, e.ms, e.injm⟩

mutual
theorem below_mono {n m : Nat} (h : n ≤ m) : ∀ {x : AV}, below n x = true → below m x = true
  | .undef, _ => rfl
  | .bool _, _ => rfl
  | .int _ _, _ => rfl
  | .str _, _ => rfl
  | .nil, _ => rfl
  | .ptr i v o, hh => by simp only [below, Nat.blt_eq] at hh ⊢; omega
  | .nilS, _ => rfl
  | .slice i v o n sz f, hh => by simp only [below, Nat.blt_eq] at hh ⊢; omega
  | .nilM, _ => rfl
  | .map i, hh => by simp only [below, Nat.blt_eq] at hh ⊢; omega
  | .nilF, _ => rfl
  | .func f a b, hh => by simp only [below, Bool.and_eq_true] at hh ⊢; exact ⟨belows_mono h hh.1, belows_mono h hh.2⟩
  | .nilI, _ => rfl
  | .iface t x, hh => by simp only [below] at hh ⊢; exact below_mono h hh
  | .agg l, hh => by simp only [below] at hh ⊢; exact belows_mono h hh
  | .tup l, hh => by simp only [below] at hh ⊢; exact belows_mono h hh
theorem belows_mono {n m : Nat} (h : n ≤ m) : ∀ {l : List AV}, belows n l = true → belows m l = true
  | [], _ => rfl
  | x :: l, hh => by simp only [belows, Bool.and_eq_true] at hh ⊢; exact ⟨below_mono h hh.1, belows_mono h hh.2⟩
end
theorem belows_setN {n : Nat} {x : AV} : ∀ {l : List AV} (t : Nat), belows n l = true → below n x = true → belows n (setN l t x) = true
  | [], _, _, _ => rfl
  | y :: l, 0, hl, hx => by simp only [belows, setN, Bool.and_eq_true] at hl ⊢; exact ⟨hx, hl.2⟩
  | y :: l, t + 1, hl, hx => by simp only [belows, setN, Bool.and_eq_true] at hl ⊢; exact ⟨hl.1, belows_setN t hl.2 hx⟩
theorem belows_putD {n : Nat} {x : AV} {l : List AV} (d : Option Nat) (hl : belows n l = true) (hx : below n x = true) : belows n (putD l d x) = true := by
  cases d with
  | none => exact hl
  | some t => exact belows_setN t hl hx

theorem good_call (hE : Plain E G) {G1 : Nat} {i : ItemC} {l : List ItemC} {K : List KI} {FR args : List AV} {HS HS1 : H} {f : FuncId} {b : AFn} {V : AV} {Q : Res → Prop} (hG : G ≤ G1) (hn : G ≤ HS1.nx) (hG1 : G1 ≤ HS1.nx)
    (hw : wanted FR i.it.guard = some true) (hs : step i.it.op FR HS = some (.call f args)) (hk : i.chk = []) (hb : E.body f = some b) (ha : Nat.ble args.length b.ntmps = true) (w : WfH HS) (w1 : WfH HS1)
    (hc : Good E G1 [.c b.code] (pad b.ntmps args) HS (CallQ G1 b V HS1)) (har : belows G1 (pad b.ntmps args) = true) (hf : belows G1 FR = true) (hV : below HS1.nx V = true) (hok : okK G (.c (.ops (i :: l)) :: K) = true)
    (gd : Good E G (.c (.ops l) :: K) (putD FR i.it.dst V) HS1 Q) : Good E G (.c (.ops (i :: l)) :: K) FR HS Q := by
  obtain ⟨⟨x, fr, d, h'⟩, hr, hx, hd, ι, e1, hv⟩ := hc idN HS (Emb.id w G1)
  simp only at hx hd e1 hv
  subst hx
  subst hd
  rw [rens_id (ι := idN) (n := G1) (fun _ _ => ⟨rfl, rfl⟩) har] at hr
  have ha' : ¬ b.ntmps < args.length := by have := Nat.le_of_ble_eq_true ha; omega
  have hcall : call E f args HS = some (ren ι V, h') := call_con hE.hook hb ha' (by intro i h; cases h) hr hv
  have seg : Seg E (.c (.ops (i :: l)) :: K) FR [] HS (.c (.ops l) :: K) (putD FR i.it.dst (ren ι V)) [] h' :=
    .step (.call i l K FR [] HS f args (ren ι V) h' hw hs hcall (by rw [hk]; rfl)) (.refl ..)
  refine Good.seg hE seg hok (e1.sub hG hn) w1 ?_ ?_ gd
  · rw [rens_putD, rens_id e1.fix hf]
  · exact belows_putD _ (belows_mono hG1 hf) hV
end
end Go.Kx
