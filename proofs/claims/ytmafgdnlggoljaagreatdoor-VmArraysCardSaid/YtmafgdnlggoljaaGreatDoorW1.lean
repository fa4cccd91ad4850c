/- What a row's list says of laid tables: the cells of an array of strings, and of an array of pairs of a string and a number. -/
import Derived.Lib.LaidTab
import Derived.Test.YtmafgdnlggoljaaGreatDoorE5
import Derived.Test.YtmafgdnlggoljaaGreatDoorS2
namespace Go.Kx
open Go

theorem str_cell {H : Type} {enc : TypeId × Value → H} {P : Program} {w : World} {base : Nat} {sp : Nat → Bool} {held : Bool} {fuel : Nat} {t : TypeId} {cs : List Value} {d : DataW H} {p : List MemPlace}
    (ht : P.underlying t = some .string) (h : DataW.trod enc P w base sp held fuel t cs = some (d, p)) : ∃ s, cs = [.string s] ∧ d = .lit (.string s.data.toList) := by
  cases fuel with
  | zero => simp [DataW.trod] at h
  | succ fuel =>
    simp only [DataW.trod, ht] at h
    split at h <;> (try (rename_i h1 _; cases h1; done)) <;> (try (cases h; done))
    all_goals first
      | (rename_i s h1
         split at h
         · cases h; exact ⟨_, rfl, rfl⟩
         · cases h)
      | simp_all

theorem arr_cells {H : Type} {enc : TypeId × Value → H} {P : Program} {w : World} {base : Nat} {sp : Nat → Bool} {held : Bool} {fuel : Nat} {t e : TypeId} {n : Nat} {cs : List Value} {ds : List (DataW H)} {p : List MemPlace}
    (ht : P.underlying t = some (.array n e)) (h : DataW.trod enc P w base sp held fuel t cs = some (.agg ds, p)) :
    cs.length = P.cellsOf t ∧ ds.length = n ∧ ∀ i d, ds[i]? = some d → ∃ fuel' q, DataW.trod enc P w base sp held fuel' e ((cs.drop (i * P.cellsOf e)).take (P.cellsOf e)) = some (d, q) := by
  cases fuel with
  | zero => simp [DataW.trod] at h
  | succ fuel =>
    simp only [DataW.trod, ht] at h
    split at h
    · rename_i hl
      obtain ⟨xs, hm, hx⟩ := Option.map_eq_some_iff.1 h
      have hxs : xs.map (·.1) = ds := by
        have := congrArg Prod.fst hx
        simpa using this
      have hxl : xs.length = n := by simpa using Lib.mapM_length hm
      refine ⟨hl, by rw [← hxs]; simpa using hxl, ?_⟩
      intro i d hd
      rw [← hxs, List.getElem?_map, Option.map_eq_some_iff] at hd
      obtain ⟨x, hxi, rfl⟩ := hd
      have hi : i < n := by
        have := (List.getElem?_eq_some_iff.1 hxi).1
        omega
      obtain ⟨b, hb, hf⟩ := Lib.mapM_at hm i i (by simp [hi])
      rw [hxi] at hb
      cases hb
      exact ⟨fuel, x.2, hf⟩
    · cases h

theorem pair_cells {H : Type} {enc : TypeId × Value → H} {P : Program} {w : World} {base : Nat} {sp : Nat → Bool} {held : Bool} {fuel : Nat} {t a b : TypeId} {k : IntKind} {fs : Array Field} {cs : List Value} {ds : List (DataW H)} {p : List MemPlace}
    (ht : P.underlying t = some (.struct fs)) (hf : fs.toList.map (fun f => (f.offset, f.type)) = [(0, a), (1, b)]) (ha : P.underlying a = some .string) (hb : P.underlying b = some (.int k)) (ca : P.cellsOf a = 1) (cb : P.cellsOf b = 1) (ct : P.cellsOf t = 2)
    (h : DataW.trod enc P w base sp held fuel t cs = some (.agg ds, p)) : ∃ s n, cs = [.string s, .int k n] ∧ ds = [.lit (.string s.data.toList), .lit (.int k n)] := by
  cases fuel with
  | zero => simp [DataW.trod] at h
  | succ fuel =>
    simp only [DataW.trod, ht, ct] at h
    split at h
    · rename_i hl
      obtain ⟨xs, hm, hx⟩ := Option.map_eq_some_iff.1 h
      have hxs : xs.map (·.1) = ds := by
        have := congrArg Prod.fst hx
        simpa using this
      match hfs : fs.toList, hf with
      | [f, g], hf =>
        simp only [List.map_cons, List.map_nil, List.cons.injEq, Prod.mk.injEq, and_true] at hf
        obtain ⟨⟨f1, f2⟩, g1, g2⟩ := hf
        rw [hfs] at hm
        have hxl : xs.length = 2 := by simpa using Lib.mapM_length hm
        obtain ⟨x, hx0, hf0⟩ := Lib.mapM_at hm 0 f rfl
        obtain ⟨y, hx1, hf1⟩ := Lib.mapM_at hm 1 g rfl
        match cs, hl with
        | [u, v], _ =>
          rw [f1, f2, ca] at hf0
          rw [g1, g2, cb] at hf1
          simp only [List.drop_zero, List.take_succ_cons, List.take_zero, List.drop_succ_cons] at hf0 hf1
          obtain ⟨s, e1, e2⟩ := str_cell ha (d := x.1) (p := x.2) hf0
          obtain ⟨n, e3, e4, _⟩ := DataW.trod_int hb hf1
          cases e1
          cases e3
          refine ⟨s, n, rfl, ?_⟩
          match xs, hxl, hx0, hx1, hxs with
          | [x', y'], _, hx0, hx1, hxs =>
            simp only [List.getElem?_cons_zero, List.getElem?_cons_succ, Option.some.injEq] at hx0 hx1
            rw [← hxs]
            simp [hx0, hx1, e2, e4]
      | [], hf => simp at hf
      | [_], hf => simp at hf
      | _ :: _ :: _ :: _, hf => simp at hf
    · cases h
end Go.Kx
/- Where the law's call begins: the laid tables as the small heap has them. -/
namespace Go.Kx
open Go

def flatP : List (List UInt8 × Int) → List AV
  | [] => []
  | (b, n) :: r => .str b :: .int .i32 n :: flatP r
theorem flatP_get : ∀ {l : List (List UInt8 × Int)} {j : Nat} {x : AV}, (flatP l)[j]? = some x → ∃ i b n, l[i]? = some (b, n) ∧ ((j = 2 * i ∧ x = .str b) ∨ (j = 2 * i + 1 ∧ x = .int .i32 n))
  | [], j, x, h => by simp [flatP] at h
  | (b, n) :: r, 0, x, h => by simp only [flatP, List.getElem?_cons_zero, Option.some.injEq] at h; exact ⟨0, b, n, rfl, .inl ⟨rfl, h.symm⟩⟩
  | (b, n) :: r, 1, x, h => by simp only [flatP, List.getElem?_cons_succ, List.getElem?_cons_zero, Option.some.injEq] at h; exact ⟨0, b, n, rfl, .inr ⟨rfl, h.symm⟩⟩
  | (b, n) :: r, j + 2, x, h => by
    simp only [flatP, List.getElem?_cons_succ] at h
    obtain ⟨i, b', n', h1, h2⟩ := flatP_get h
    refine ⟨i + 1, b', n', by simpa using h1, ?_⟩
    rcases h2 with ⟨e, e'⟩ | ⟨e, e'⟩
    · exact .inl ⟨by omega, e'⟩
    · exact .inr ⟨by omega, e'⟩

section
variable {H : Type} {enc : TypeId × Value → H} {P : Program} {w : World} {base : Nat} {sp : Nat → Bool} {held : Bool} {fuel : Nat} {t e : TypeId} {n : Nat} {cs : List Value} {p : List MemPlace}
theorem strs_ok (R : Rl) {bss : List (List UInt8)} (ht : P.underlying t = some (.array n e)) (he : P.underlying e = some .string) (ce : P.cellsOf e = 1)
    (h : DataW.trod enc P w base sp held fuel t cs = some (.agg (bss.map fun b => .lit (.string b)), p)) : cs.length = P.cellsOf t ∧ ∀ (j : Nat) (x : AV), (bss.map AV.str)[j]? = some x → ∃ c, cs[j]? = some c ∧ VR R x c := by
  obtain ⟨h1, h2, h3⟩ := arr_cells ht h
  refine ⟨h1, ?_⟩
  intro j x hx
  rw [List.getElem?_map, Option.map_eq_some_iff] at hx
  obtain ⟨b, hb, rfl⟩ := hx
  obtain ⟨f, q, hq⟩ := h3 j (.lit (.string b)) (by rw [List.getElem?_map, hb]; rfl)
  rw [ce, Nat.mul_one] at hq
  obtain ⟨s, e1, e2⟩ := str_cell he hq
  refine ⟨.string s, ?_, .str _ _ ?_⟩
  · have := congrArg (·[0]?) e1
    simpa [List.getElem?_take, List.getElem?_drop] using this
  · simp only [DataW.lit.injEq, Lit.string.injEq] at e2
    exact e2.symm
theorem pairs_ok (R : Rl) {a b : TypeId} {fs : Array Field} {prs : List (List UInt8 × Int)} (ht : P.underlying t = some (.array n e)) (he : P.underlying e = some (.struct fs)) (ce : P.cellsOf e = 2)
    (hf : fs.toList.map (fun f => (f.offset, f.type)) = [(0, a), (1, b)]) (ha : P.underlying a = some .string) (hb : P.underlying b = some (.int .i32)) (ca : P.cellsOf a = 1) (cb : P.cellsOf b = 1)
    (h : DataW.trod enc P w base sp held fuel t cs = some (.agg (prs.map fun x => .agg [.lit (.string x.1), .lit (.int .i32 x.2)]), p)) : cs.length = P.cellsOf t ∧ ∀ (j : Nat) (x : AV), (flatP prs)[j]? = some x → ∃ c, cs[j]? = some c ∧ VR R x c := by
  obtain ⟨h1, h2, h3⟩ := arr_cells ht h
  refine ⟨h1, ?_⟩
  intro j x hx
  obtain ⟨i, s0, m, hi, hj⟩ := flatP_get hx
  obtain ⟨f, q, hq⟩ := h3 i (.agg [.lit (.string s0), .lit (.int .i32 m)]) (by rw [List.getElem?_map, hi]; rfl)
  rw [ce] at hq
  obtain ⟨s, m', e1, e2⟩ := pair_cells he hf ha hb ca cb ce hq
  simp only [List.cons.injEq, DataW.lit.injEq, Lit.string.injEq, Lit.int.injEq, and_true, true_and] at e2
  have g0 : cs[i * 2]? = some (.string s) := by
    have := congrArg (·[0]?) e1
    simpa [List.getElem?_take, List.getElem?_drop] using this
  have g1 : cs[i * 2 + 1]? = some (.int .i32 m') := by
    have := congrArg (·[1]?) e1
    simpa [List.getElem?_take, List.getElem?_drop] using this
  rcases hj with ⟨rfl, rfl⟩ | ⟨rfl, rfl⟩
  · exact ⟨_, by rw [Nat.mul_comm]; exact g0, .str _ _ e2.1.symm⟩
  · refine ⟨_, by rw [Nat.mul_comm]; exact g1, ?_⟩
    rw [e2.2]; exact .int _ _
end
theorem var_heap {P : Program} {w : World} {name : String} {g : Nat} {cs : Array Value} (hg : P.globalNamed name = some g) (h : w.var? P name = some cs) : ∃ T fz, w.heap[g]? = some (.cells cs T fz) := by
  unfold World.var? at h
  rw [hg] at h
  simp only [Option.bind_some] at h
  split at h
  · rename_i c T fz hh
    cases h
    exact ⟨T, fz, hh⟩
  · cases h

/- three globals, of which the first and the third are laid, and may be read alone -/
def R3 (a b c : Nat) : Rl := ⟨fun i v => match i, v with
  | 0, 0 => some (0, 0, a, a)
  | 1, 0 => some (1, 0, b, b)
  | 2, 0 => some (2, 0, c, c)
  | _, _ => none, fun _ => none⟩
theorem R3_some {a b c i v : Nat} {x : Nat × Nat × Nat × Nat} (h : (R3 a b c).c i v = some x) : v = 0 ∧ ((i = 0 ∧ x = (0, 0, a, a)) ∨ (i = 1 ∧ x = (1, 0, b, b)) ∨ (i = 2 ∧ x = (2, 0, c, c))) := by
  simp only [R3] at h
  split at h <;> first
    | (cases h; simp)
    | cases h
theorem start3 {w : World} {l0 l2 : List AV} {c0 c2 : Array Value} {T0 T2 : TypeId} {z0 z2 : Nat × Nat} (b : Nat) (h0 : w.heap[0]? = some (.cells c0 T0 z0)) (h2 : w.heap[2]? = some (.cells c2 T2 z2))
    (s0 : c0.size = l0.length) (s2 : c2.size = l2.length) (o0 : l0.all AV.one = true) (o2 : l2.all AV.one = true)
    (v0 : ∀ (j : Nat) (x : AV), l0[j]? = some x → ∃ c, c0[j]? = some c ∧ VR (R3 l0.length b l2.length) x c) (v2 : ∀ (j : Nat) (x : AV), l2[j]? = some x → ∃ c, c2[j]? = some c ∧ VR (R3 l0.length b l2.length) x c) :
    WR 3 (R3 l0.length b l2.length) (mkH 3 [(0, ⟨0, 0, true, l0⟩), (2, ⟨0, 0, true, l2⟩)] []) w := by
  have get : ∀ i ob, (mkH 3 [(0, ⟨0, 0, true, l0⟩), (2, ⟨0, 0, true, l2⟩)] []).get i = some ob → (i = 0 ∧ ob = ⟨0, 0, true, l0⟩) ∨ (i = 2 ∧ ob = ⟨0, 0, true, l2⟩) := by
    intro i ob h
    have := trL_get h
    simpa using this
  have gm : ∀ i es, (mkH 3 [(0, ⟨0, 0, true, l0⟩), (2, ⟨0, 0, true, l2⟩)] []).gm i = some es → False := by
    intro i es h
    have := trL_get (l := []) h
    cases this
  refine ⟨?_, ?_, ?_, ?_, ?_, ?_, ?_, ?_, ?_, ?_, ?_⟩
  · intro i v b' sh ps L ob hc ho hlo
    obtain ⟨hv, hc2⟩ := R3_some hc
    subst hv
    rcases get i ob ho with ⟨hi, hob⟩ | ⟨hi, hob⟩
    · rcases hc2 with ⟨hj, hx⟩ | ⟨hj, hx⟩ | ⟨hj, hx⟩
      · simp only [Prod.mk.injEq] at hx
        obtain ⟨rfl, rfl, rfl, rfl⟩ := hx
        subst hob
        subst hj
        exact ⟨c0, T0, z0, h0, s0, by omega, Nat.le_refl _, fun _ => rfl, fun h => (by cases h), fun j x _ hx => by simpa using v0 j x hx⟩
      · omega
      · omega
    · rcases hc2 with ⟨hj, hx⟩ | ⟨hj, hx⟩ | ⟨hj, hx⟩
      · omega
      · omega
      · simp only [Prod.mk.injEq] at hx
        obtain ⟨rfl, rfl, rfl, rfl⟩ := hx
        subst hob
        subst hj
        exact ⟨c2, T2, z2, h2, s2, by omega, Nat.le_refl _, fun _ => rfl, fun h => (by cases h), fun j x _ hx => by simpa using v2 j x hx⟩
  · intro i v x ob hc ho
    obtain ⟨rfl, _⟩ := R3_some hc
    exact Nat.zero_le _
  · intro i v i' v' b' sh sh' ps ps' L L' h1 h2 _ _
    obtain ⟨_, g1⟩ := R3_some h1
    obtain ⟨_, g2⟩ := R3_some h2
    simp only [Prod.mk.injEq] at g1 g2
    omega
  · intro i b' es hm; cases hm
  · intro i j b' hm; cases hm
  · intro i v x hc
    obtain ⟨_, h⟩ := R3_some hc
    show i < 3
    rcases h with ⟨rfl, _⟩ | ⟨rfl, _⟩ | ⟨rfl, _⟩ <;> omega
  · intro i b' hm; cases hm
  · intro i b' hm; cases hm
  · intro i ob ho
    rcases get i ob ho with ⟨_, rfl⟩ | ⟨_, rfl⟩ <;> exact Nat.le_refl _
  · intro i ob ho
    rcases get i ob ho with ⟨_, rfl⟩ | ⟨_, rfl⟩
    · exact o0
    · exact o2
  · intro g hg
    match g, hg with
    | 0, _ => exact ⟨_, _, rfl⟩
    | 1, _ => exact ⟨_, _, rfl⟩
    | 2, _ => exact ⟨_, _, rfl⟩
end Go.Kx
