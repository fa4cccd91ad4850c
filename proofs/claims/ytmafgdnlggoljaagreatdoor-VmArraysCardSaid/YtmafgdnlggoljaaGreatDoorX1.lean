/- VmArrays: the loops by induction, the calls one in the other, the whole law's call. -/
import Derived.Test.YtmafgdnlggoljaaGreatDoorG1
import Derived.Test.YtmafgdnlggoljaaGreatDoorG2
import Derived.Test.YtmafgdnlggoljaaGreatDoorW1
namespace Go.Kx
open Go

theorem Good.mono' {E : Env} {G : Nat} {K : List KI} {FR : List AV} {HS : H} {Q Q' : Res → Prop} (h : Good E G K FR HS Q) (hq : ∀ r, Q r → Q' r) : Good E G K FR HS Q' := by
  intro ι hh e
  obtain ⟨r, a, b⟩ := h ι hh e
  exact ⟨r, a, hq r b⟩
def sumF (f : Nat → Int) : Nat → Int
  | 0 => 0
  | n + 1 => sumF f n + f n
structure JP where
  s : Int
  S : Int
  g : Int
  S' : Int
  b : Nat
  f : Nat → Int
  a : Nat → Int
theorem T2_fr_irr (n q x k s S g S' R : Int) (N I b : Nat) (L : List AV) (a : Nat → Int) (g2 s2 : Int) : T2_fr n q x k s S g S' R N I b L a = T2_fr n q x k s S g2 s2 R N I b L a := by kernel_rfl
theorem T2_L_irr (n q x k s S g S' R : Int) (N I b : Nat) (L : List AV) (a : Nat → Int) (g2 s2 : Int) : T2_L n q x k s S g S' R N I b L a = T2_L n q x k s S g2 s2 R N I b L a := by kernel_rfl
theorem T2_M_irr (n q x k s S g S' R : Int) (N I b : Nat) (L : List AV) (a : Nat → Int) (g2 s2 : Int) : T2_M n q x k s S g S' R N I b L a = T2_M n q x k s S g2 s2 R N I b L a := by kernel_rfl

theorem wrap_mod (c : Int) : ∃ m : Int, IntKind.i64.wrap c = c + m * 18446744073709551616 := by
  have hb : IntKind.i64.bits = 64 := rfl
  have hs : IntKind.i64.signed = true := rfl
  unfold IntKind.wrap
  rw [hb, hs]
  have e : (2 : Int) ^ 64 = 18446744073709551616 := by decide
  simp only [e]
  have h := Int.emod_add_mul_ediv c 18446744073709551616
  split
  · exact ⟨- (c / 18446744073709551616) - 1, by omega⟩
  · exact ⟨- (c / 18446744073709551616), by omega⟩
theorem wrap_same {a b : Int} (m : Int) (h : a = b + m * 18446744073709551616) : IntKind.i64.wrap a = IntKind.i64.wrap b := by
  have hb : IntKind.i64.bits = 64 := rfl
  unfold IntKind.wrap
  have e : (2 : Int) ^ 64 = 18446744073709551616 := by decide
  have e2 : a % (2 ^ IntKind.i64.bits : Int) = b % (2 ^ IntKind.i64.bits : Int) := by
    rw [hb, e, h]; exact Int.add_mul_emod_self_right _ _ _
  simp only [e2]
theorem wrap_add (a b : Int) : IntKind.i64.wrap (IntKind.i64.wrap a + b) = IntKind.i64.wrap (a + b) := by
  obtain ⟨m, hm⟩ := wrap_mod a
  exact wrap_same m (by rw [hm]; omega)

section
variable {n q x k R : Int} {N : Nat}
theorem loop1 (hN1 : N ≤ 31) {Q : Res → Prop} (hx : ∀ (s S g S' : Int) (b : Nat) (f a : Nat → Int), s = 1995 - 13 * (N : Int) → (∀ j, j < N → f j = (j : Int)) → Good EV 60 (KP 19 [1, 1, 1, 0, 0, 0, 0, 0, 0]) (T1_fr n q x k s S g S' R N N b (wl f N) a) (mkH 66 (T1_L n q x k s S g S' R N N b (wl f N) a) (T1_M n q x k s S g S' R N N b (wl f N) a)) Q) :
    ∀ (m I : Nat) (s S g S' : Int) (b : Nat) (f a : Nat → Int), I + m = N → s = 1995 - 13 * (I : Int) → (∀ j, j < I → f j = (j : Int)) → Good EV 60 (KP 19 [1, 1, 1, 0, 0, 0, 0, 0, 0]) (T1_fr n q x k s S g S' R N I b (wl f N) a) (mkH 66 (T1_L n q x k s S g S' R N I b (wl f N) a) (T1_M n q x k s S g S' R N I b (wl f N) a)) Q
  | 0, I, s, S, g, S', b, f, a, hm, hs, hf => by
    have e : I = N := by omega
    rw [e] at hs hf ⊢
    exact hx s S g S' b f a hs hf
  | m + 1, I, s, S, g, S', b, f, a, hm, hs, hf => by
    have e : splice (wl f N) (0 + (Int.toNat (↑I : Int)) * 2) [(.int .i64 (↑I : Int)), .nil] = wl (fun j => if j = I then (I : Int) else f j) N := by
      rw [Int.toNat_natCast, Nat.zero_add]; exact wl_splice f N I I (by omega)
    refine c1_good n q x k s S g S' R N I b (wl f N) a (by omega) hN1 (by omega) (by omega) (wl_len f N) ?_ ?_
    · rw [e]; exact wl_pure _ _
    · rw [e]
      refine loop1 hN1 hx m (I + 1) (s - 13) S g S' 34 _ _ (by omega) (by omega) ?_
      intro j hj
      by_cases h : j = I
      · rw [if_pos h, h]
      · rw [if_neg h]; exact hf j (by omega)

theorem loop2 (hN1 : N ≤ 31) {f : Nat → Int} {Q : Res → Prop} (hx : ∀ (s S g S' : Int) (b : Nat) (a : Nat → Int), s = 1980 - 28 * (N : Int) → S = IntKind.i64.wrap (sumF f N) → Good EV 60 (KP 19 [1, 1, 1, 0, 0, 0, 0, 0, 0]) (T2_fr n q x k s S g S' R N N b (wl f N) a) (mkH 67 (T2_L n q x k s S g S' R N N b (wl f N) a) (T2_M n q x k s S g S' R N N b (wl f N) a)) Q) :
    ∀ (m I : Nat) (s S g S' : Int) (b : Nat) (a : Nat → Int), I + m = N → s = 1980 - 13 * (N : Int) - 15 * (I : Int) → S = IntKind.i64.wrap (sumF f I) → Good EV 60 (KP 19 [1, 1, 1, 0, 0, 0, 0, 0, 0]) (T2_fr n q x k s S g S' R N I b (wl f N) a) (mkH 67 (T2_L n q x k s S g S' R N I b (wl f N) a) (T2_M n q x k s S g S' R N I b (wl f N) a)) Q
  | 0, I, s, S, g, S', b, a, hm, hs, hf => by
    have e : I = N := by omega
    rw [e] at hs hf ⊢
    exact hx s S g S' b a (by omega) hf
  | m + 1, I, s, S, g, S', b, a, hm, hs, hf => by
    rw [T2_fr_irr n q x k s S g S' R N I b (wl f N) a (f I) (IntKind.i64.wrap (S + f I)), T2_L_irr n q x k s S g S' R N I b (wl f N) a (f I) (IntKind.i64.wrap (S + f I)), T2_M_irr n q x k s S g S' R N I b (wl f N) a (f I) (IntKind.i64.wrap (S + f I))]
    refine c3_good n q x k s S (f I) (IntKind.i64.wrap (S + f I)) R N I b (wl f N) a (by omega) hN1 (by omega) (by omega) rfl ?_ (wl_pure _ _) ?_
    · rw [Int.toNat_natCast, Nat.zero_add]; exact wl_cut f N I (by omega)
    · refine loop2 hN1 hx m (I + 1) (s - 15) _ _ _ 86 _ (by omega) (by omega) ?_
      rw [hf]; exact wrap_add _ _
end

theorem P_C (n q x k s S g S' R : Int) (N I b : Nat) (L : List AV) (a : Nat → Int) (hN1 : N ≤ 31) (hk0 : 0 ≤ k) (hk1 : k < 16) : Good EV 60 (KP 19 []) (C0_fr n q x k s S g S' R N I b L a) (mkH 60 (C0_L n q x k s S g S' R N I b L a) (C0_M n q x k s S g S' R N I b L a)) (fun r => ∃ j : JP, CallQ 60 (bodyOf 19) (Pc_V n q x k j.s j.S j.g j.S' R N N j.b (wl j.f N) j.a) (mkH 64 (Pe_L n q x k j.s j.S j.g j.S' R N N j.b (wl j.f N) j.a) (Pe_M n q x k j.s j.S j.g j.S' R N N j.b (wl j.f N) j.a)) r) := by
  refine c0_good n q x k s S g S' R N I b L a hN1 (by rw [wl_repl]; exact wl_pure _ _) ?_
  rw [wl_repl]
  refine loop1 hN1 ?_ N 0 1995 S g S' 8 _ _ (by omega) (by omega) (fun j hj => absurd hj (Nat.not_lt_zero _))
  intro s S g S' b f a hs _
  exact (Pc_fin n q x k s S g S' R N N b (wl f N) a rfl hN1 (by omega) (by omega) hk0 hk1 (wl_pure _ _)).mono' fun r hr => ⟨⟨s, S, g, S', b, f, a⟩, hr⟩

theorem Q_C (n q x k s S g S' R : Int) (N I b : Nat) (L : List AV) (a : Nat → Int) (hN1 : N ≤ 31) (hk0 : k < 64) (hk1 : (N : Int) ≤ k - 16) : Good EV 60 (KP 19 []) (C0_fr n q x k s S g S' R N I b L a) (mkH 60 (C0_L n q x k s S g S' R N I b L a) (C0_M n q x k s S g S' R N I b L a)) (fun r => ∃ j : JP, CallQ 60 (bodyOf 19) (Qc_V n q x k j.s j.S j.g j.S' R N N j.b (wl j.f N) j.a) (mkH 64 (Qe_L n q x k j.s j.S j.g j.S' R N N j.b (wl j.f N) j.a) (Qe_M n q x k j.s j.S j.g j.S' R N N j.b (wl j.f N) j.a)) r) := by
  refine c0_good n q x k s S g S' R N I b L a hN1 (by rw [wl_repl]; exact wl_pure _ _) ?_
  rw [wl_repl]
  refine loop1 hN1 ?_ N 0 1995 S g S' 8 _ _ (by omega) (by omega) (fun j hj => absurd hj (Nat.not_lt_zero _))
  intro s S g S' b f a hs _
  exact (Qc_fin n q x k s S g S' R N N b (wl f N) a rfl hN1 (by omega) (by omega) hk0 hk1 (wl_pure _ _)).mono' fun r hr => ⟨⟨s, S, g, S', b, f, a⟩, hr⟩

theorem R_C (n q x k s S g S' R : Int) (N I b : Nat) (L : List AV) (a : Nat → Int) (SV : Int) (hN1 : N ≤ 31) (hk0 : 16 ≤ k) (hk1 : k - 16 < N) (hSV : ∀ f : Nat → Int, (∀ j, j < N → f j = if (j : Int) = k - 16 then x else (j : Int)) → IntKind.i64.wrap (sumF f N) = SV) : Good EV 60 (KP 19 []) (C0_fr n q x k s S g S' R N I b L a) (mkH 60 (C0_L n q x k s S g S' R N I b L a) (C0_M n q x k s S g S' R N I b L a)) (fun r => ∃ j : JP, CallQ 60 (bodyOf 19) (Rc_V n q x k j.s SV j.g j.S' R N N j.b (wl j.f N) j.a) (mkH 64 (Re_L n q x k j.s SV j.g j.S' R N N j.b (wl j.f N) j.a) (Re_M n q x k j.s SV j.g j.S' R N N j.b (wl j.f N) j.a)) r) := by
  refine c0_good n q x k s S g S' R N I b L a hN1 (by rw [wl_repl]; exact wl_pure _ _) ?_
  rw [wl_repl]
  refine loop1 hN1 ?_ N 0 1995 S g S' 8 _ _ (by omega) (by omega) (fun j hj => absurd hj (Nat.not_lt_zero _))
  intro s S g S' b f a hs hf
  have e : splice (wl f N) (0 + (Int.toNat (k - 16 : Int)) * 2) [(.int .i64 (x : Int)), .nil] = wl (fun j => if j = Int.toNat (k - 16) then x else f j) N := by
    rw [Nat.zero_add]; exact wl_splice f N _ x (by omega)
  refine c2_good n q x k s S g S' R N N b (wl f N) a rfl hN1 (by omega) (by omega) (wl_len f N) hk0 hk1 ?_ ?_
  · rw [e]; exact wl_pure _ _
  · rw [e]
    refine loop2 hN1 ?_ N 0 (s - 15) 0 g S' 56 _ (by omega) (by omega) (by rfl)
    intro s S g S' b a hs hS
    have hS' : S = SV := by
      rw [hS]
      refine hSV _ ?_
      intro j hj
      by_cases h : j = Int.toNat (k - 16)
      · rw [if_pos h, if_pos (by omega)]
      · rw [if_neg h, if_neg (by omega)]; exact hf j hj
    rw [hS']
    exact (Rc_fin n q x k s SV g S' R N N b (wl _ N) a rfl hN1 (by omega) (by omega) (wl_pure _ _)).mono' fun r hr => ⟨⟨s, 0, g, S', b, _, a⟩, hr⟩
end Go.Kx
/- VmArrays: the calls one in the other, the whole law's call. -/
namespace Go.Kx
open Go

def QF (r : Res) : Prop := r.x = .ret ∧ r.d = [] ∧ results (bodyOf 3) r.fr r.h = some (.bool true)
theorem QF_of {V : AV} {HS : H} {r : Res} (hV : V = .bool true) (h : CallQ 3 (bodyOf 3) V HS r) : QF r := by
  obtain ⟨a, b, ι, _, c⟩ := h
  rw [hV] at c
  exact ⟨a, b, c⟩

theorem y_chain (n q x k s S g S' R : Int) (N I b : Nat) (L : List AV) (a : Nat → Int) : Good EV 5 (KP 8 []) (Y0_fr n q x k s S g S' R N I b L a) (mkH 5 (Y0_L n q x k s S g S' R N I b L a) (Y0_M n q x k s S g S' R N I b L a)) (fun r => ∃ _ : Unit, CallQ 5 (bodyOf 8) (y4_V n q x k s S g S' R N I b L a) (mkH 33 (Y5_L n q x k s S g S' R N I b L a) (Y5_M n q x k s S g S' R N I b L a)) r) :=
  y0_good n q x k s S g S' R N I b L a (y1_good n q x k s S g S' R N I b L a (y2_good n q x k s S g S' R N I b L a (y3_good n q x k s S g S' R N I b L a ((y4_fin n q x k s S g S' R N I b L a).mono' fun _ h => ⟨(), h⟩))))
theorem X1_F (n q x k s S g S' R : Int) (N I b : Nat) (L : List AV) (a : Nat → Int) : putD (X1_fr n q x k s S g S' R N I b L a) (some 25) (y4_V n q x k s S g S' R N I b L a) = X2_fr n q x k s S g S' R N I b L a := by kernel_rfl
theorem x_chain (n q x k s S g S' R : Int) (N I b : Nat) (L : List AV) (a : Nat → Int) : Good EV 4 (KP 5 []) (X0_fr n q x k s S g S' R N I b L a) (mkH 4 (X0_L n q x k s S g S' R N I b L a) (X0_M n q x k s S g S' R N I b L a)) (fun r => ∃ _ : Unit, CallQ 4 (bodyOf 5) (x6_V n q x k s S g S' R N I b L a) (mkH 38 (X7_L n q x k s S g S' R N I b L a) (X7_M n q x k s S g S' R N I b L a)) r) :=
  x0_good n q x k s S g S' R N I b L a (callK (J := Unit) (G1 := 5) (FR1 := fun _ => X2_fr n q x k s S g S' R N I b L a) (HS1 := fun _ => (mkH 33 (Y5_L n q x k s S g S' R N I b L a) (Y5_M n q x k s S g S' R N I b L a))) (V := fun _ => y4_V n q x k s S g S' R N I b L a) (EV_plain.mono rfl) rfl (fun _ => rfl) (X1_at n q x k s S g S' R N I b L a) X1_body X1_ble (x0_wf n q x k s S g S' R N I b L a) (fun _ => y4_wf n q x k s S g S' R N I b L a) (by rw [X1_pad n q x k s S g S' R N I b L a, X1_K]; exact y_chain n q x k s S g S' R N I b L a) (by rw [X1_pad n q x k s S g S' R N I b L a]; exact X1_har n q x k s S g S' R N I b L a) (X1_hf n q x k s S g S' R N I b L a) (fun _ => y4_vb n q x k s S g S' R N I b L a) X1_okK (fun _ => X1_F n q x k s S g S' R N I b L a) (fun _ => x2_good n q x k s S g S' R N I b L a (x3_good n q x k s S g S' R N I b L a (x4_good n q x k s S g S' R N I b L a (x5_good n q x k s S g S' R N I b L a ((x6_fin n q x k s S g S' R N I b L a).mono' fun _ h => ⟨(), h⟩))))))
theorem A3_F (n q x k s S g S' R : Int) (N I b : Nat) (L : List AV) (a : Nat → Int) : putD (A3_fr n q x k s S g S' R N I b L a) (some 24) (x6_V n q x k s S g S' R N I b L a) = A4_fr n q x k s S g S' R N I b L a := by kernel_rfl
theorem law_good (n q x k s S g S' R : Int) (N I b : Nat) (L : List AV) (a : Nat → Int) (hN : binA .and .no (.int .i64 n) (.int .i64 31) = some (.int .i64 (↑N : Int))) (hk : binA .and .no (.int .i64 q) (.int .i64 63) = some (.int .i64 (k : Int))) (hk0 : 0 ≤ k) (hk1 : k < 64) {Q : Res → Prop}
    (h : Good EV 3 (KP 3 [1, 1, 1, 1, 1, 1, 1, 1, 0, 6]) (A7_fr n q x k s S g S' R N I b L a) (mkH 52 (A7_L n q x k s S g S' R N I b L a) (A7_M n q x k s S g S' R N I b L a)) Q) : Good EV 3 (KP 3 []) (A0_fr n q x k s S g S' R N I b L a) (mkH 3 (A0_L n q x k s S g S' R N I b L a) (A0_M n q x k s S g S' R N I b L a)) Q :=
  a0_good n q x k s S g S' R N I b L a (a1_good n q x k s S g S' R N I b L a (a2_good n q x k s S g S' R N I b L a hN hk hk0 hk1 (callK (J := Unit) (G1 := 4) (FR1 := fun _ => A4_fr n q x k s S g S' R N I b L a) (HS1 := fun _ => (mkH 38 (X7_L n q x k s S g S' R N I b L a) (X7_M n q x k s S g S' R N I b L a))) (V := fun _ => x6_V n q x k s S g S' R N I b L a) EV_plain rfl (fun _ => rfl) (A3_at n q x k s S g S' R N I b L a) A3_body A3_ble (a2_wf n q x k s S g S' R N I b L a) (fun _ => x6_wf n q x k s S g S' R N I b L a) (by rw [A3_pad n q x k s S g S' R N I b L a, A3_K]; exact x_chain n q x k s S g S' R N I b L a) (by rw [A3_pad n q x k s S g S' R N I b L a]; exact A3_har n q x k s S g S' R N I b L a) (A3_hf n q x k s S g S' R N I b L a) (fun _ => x6_vb n q x k s S g S' R N I b L a) A3_okK (fun _ => A3_F n q x k s S g S' R N I b L a) (fun _ => a4_good n q x k s S g S' R N I b L a (a5_good n q x k s S g S' R N I b L a (a6_good n q x k s S g S' R N I b L a h))))))

theorem P_F1 (n q x k s S g S' R : Int) (N I b : Nat) (L : List AV) (a : Nat → Int)  (j : JP) : putD (B1_fr n q x k s S g S' R N I b L a) (some 77) (Pc_V n q x k j.s j.S j.g j.S' R N N j.b (wl j.f N) j.a) = Pb_fr n q x k j.s j.S j.g j.S' R N N j.b (wl j.f N) j.a := by kernel_rfl
theorem P_F2 (n q x k s S g S' R : Int) (N I b : Nat) (L : List AV) (a : Nat → Int)  (j : JP) : putD (A7_fr n q x k s S g S' R N I b L a) (some 46) (Pd_V n q x k j.s j.S j.g j.S' R N N j.b (wl j.f N) j.a) = Pa_fr n q x k j.s j.S j.g j.S' R N N j.b (wl j.f N) j.a := by kernel_rfl
theorem P_B (n q x k s S g S' R : Int) (N I b : Nat) (L : List AV) (a : Nat → Int)  (hN1 : N ≤ 31) (hk0 : 0 ≤ k) (hk1 : k < 16) : Good EV 52 (KP 7 []) (B0_fr n q x k s S g S' R N I b L a) (mkH 52 (B0_L n q x k s S g S' R N I b L a) (B0_M n q x k s S g S' R N I b L a)) (fun r => ∃ j : JP, CallQ 52 (bodyOf 7) (Pd_V n q x k j.s j.S j.g j.S' R N N j.b (wl j.f N) j.a) (mkH 53 (Pf_L n q x k j.s j.S j.g j.S' R N N j.b (wl j.f N) j.a) (Pf_M n q x k j.s j.S j.g j.S' R N N j.b (wl j.f N) j.a)) r) :=
  b0_good n q x k s S g S' R N I b L a (callK (J := JP) (G1 := 60) (FR1 := fun j => Pb_fr n q x k j.s j.S j.g j.S' R N N j.b (wl j.f N) j.a) (HS1 := fun j => (mkH 64 (Pe_L n q x k j.s j.S j.g j.S' R N N j.b (wl j.f N) j.a) (Pe_M n q x k j.s j.S j.g j.S' R N N j.b (wl j.f N) j.a))) (V := fun j => Pc_V n q x k j.s j.S j.g j.S' R N N j.b (wl j.f N) j.a) (EV_plain.mono rfl) rfl (fun _ => rfl) (B1_at n q x k s S g S' R N I b L a) B1_body B1_ble (b0_wf n q x k s S g S' R N I b L a) (fun j => Pc_wf n q x k j.s j.S j.g j.S' R N N j.b (wl j.f N) j.a (wl_pure _ _)) (by rw [B1_pad n q x k s S g S' R N I b L a, B1_K]; exact P_C n q x k s S g S' R N I b L a hN1 hk0 hk1) (by rw [B1_pad n q x k s S g S' R N I b L a]; exact B1_har n q x k s S g S' R N I b L a) (B1_hf n q x k s S g S' R N I b L a) (fun j => Pc_vb n q x k j.s j.S j.g j.S' R N N j.b (wl j.f N) j.a) B1_okK (fun j => P_F1 n q x k s S g S' R N I b L a j) (fun j => (Pd_fin n q x k j.s j.S j.g j.S' R N N j.b (wl j.f N) j.a).mono' fun r hr => ⟨j, hr⟩))
theorem P_A (n q x k s S g S' R : Int) (N I b : Nat) (L : List AV) (a : Nat → Int)  (hN1 : N ≤ 31) (hk0 : 0 ≤ k) (hk1 : k < 16)  : Good EV 3 (KP 3 [1, 1, 1, 1, 1, 1, 1, 1, 0, 6]) (A7_fr n q x k s S g S' R N I b L a) (mkH 52 (A7_L n q x k s S g S' R N I b L a) (A7_M n q x k s S g S' R N I b L a)) QF :=
  callK (J := JP) (G1 := 52) (FR1 := fun j => Pa_fr n q x k j.s j.S j.g j.S' R N N j.b (wl j.f N) j.a) (HS1 := fun j => (mkH 53 (Pf_L n q x k j.s j.S j.g j.S' R N N j.b (wl j.f N) j.a) (Pf_M n q x k j.s j.S j.g j.S' R N N j.b (wl j.f N) j.a))) (V := fun j => Pd_V n q x k j.s j.S j.g j.S' R N N j.b (wl j.f N) j.a) EV_plain rfl (fun _ => rfl) (A7_at n q x k s S g S' R N I b L a) A7_body A7_ble (a6_wf n q x k s S g S' R N I b L a) (fun j => Pd_wf n q x k j.s j.S j.g j.S' R N N j.b (wl j.f N) j.a) (by rw [A7_pad n q x k s S g S' R N I b L a, A7_K]; exact P_B n q x k s S g S' R N I b L a hN1 hk0 hk1) (by rw [A7_pad n q x k s S g S' R N I b L a]; exact A7_har n q x k s S g S' R N I b L a) (A7_hf n q x k s S g S' R N I b L a) (fun j => Pd_vb n q x k j.s j.S j.g j.S' R N N j.b (wl j.f N) j.a) A7_okK (fun j => P_F2 n q x k s S g S' R N I b L a j) (fun j => (Pg_fin n q x k j.s j.S j.g j.S' R N N j.b (wl j.f N) j.a hk0 hk1).mono' fun r hr => QF_of rfl hr)

theorem Q_F1 (n q x k s S g S' R : Int) (N I b : Nat) (L : List AV) (a : Nat → Int)  (j : JP) : putD (B1_fr n q x k s S g S' R N I b L a) (some 77) (Qc_V n q x k j.s j.S j.g j.S' R N N j.b (wl j.f N) j.a) = Qb_fr n q x k j.s j.S j.g j.S' R N N j.b (wl j.f N) j.a := by kernel_rfl
theorem Q_F2 (n q x k s S g S' R : Int) (N I b : Nat) (L : List AV) (a : Nat → Int)  (j : JP) : putD (A7_fr n q x k s S g S' R N I b L a) (some 46) (Qd_V n q x k j.s j.S j.g j.S' R N N j.b (wl j.f N) j.a) = Qa_fr n q x k j.s j.S j.g j.S' R N N j.b (wl j.f N) j.a := by kernel_rfl
theorem Q_B (n q x k s S g S' R : Int) (N I b : Nat) (L : List AV) (a : Nat → Int)  (hN1 : N ≤ 31) (hk0 : k < 64) (hk1 : (N : Int) ≤ k - 16) : Good EV 52 (KP 7 []) (B0_fr n q x k s S g S' R N I b L a) (mkH 52 (B0_L n q x k s S g S' R N I b L a) (B0_M n q x k s S g S' R N I b L a)) (fun r => ∃ j : JP, CallQ 52 (bodyOf 7) (Qd_V n q x k j.s j.S j.g j.S' R N N j.b (wl j.f N) j.a) (mkH 53 (Qf_L n q x k j.s j.S j.g j.S' R N N j.b (wl j.f N) j.a) (Qf_M n q x k j.s j.S j.g j.S' R N N j.b (wl j.f N) j.a)) r) :=
  b0_good n q x k s S g S' R N I b L a (callK (J := JP) (G1 := 60) (FR1 := fun j => Qb_fr n q x k j.s j.S j.g j.S' R N N j.b (wl j.f N) j.a) (HS1 := fun j => (mkH 64 (Qe_L n q x k j.s j.S j.g j.S' R N N j.b (wl j.f N) j.a) (Qe_M n q x k j.s j.S j.g j.S' R N N j.b (wl j.f N) j.a))) (V := fun j => Qc_V n q x k j.s j.S j.g j.S' R N N j.b (wl j.f N) j.a) (EV_plain.mono rfl) rfl (fun _ => rfl) (B1_at n q x k s S g S' R N I b L a) B1_body B1_ble (b0_wf n q x k s S g S' R N I b L a) (fun j => Qc_wf n q x k j.s j.S j.g j.S' R N N j.b (wl j.f N) j.a (wl_pure _ _)) (by rw [B1_pad n q x k s S g S' R N I b L a, B1_K]; exact Q_C n q x k s S g S' R N I b L a hN1 hk0 hk1) (by rw [B1_pad n q x k s S g S' R N I b L a]; exact B1_har n q x k s S g S' R N I b L a) (B1_hf n q x k s S g S' R N I b L a) (fun j => Qc_vb n q x k j.s j.S j.g j.S' R N N j.b (wl j.f N) j.a) B1_okK (fun j => Q_F1 n q x k s S g S' R N I b L a j) (fun j => (Qd_fin n q x k j.s j.S j.g j.S' R N N j.b (wl j.f N) j.a).mono' fun r hr => ⟨j, hr⟩))
theorem Q_A (n q x k s S g S' R : Int) (N I b : Nat) (L : List AV) (a : Nat → Int)  (hN1 : N ≤ 31) (hk0 : k < 64) (hk1 : (N : Int) ≤ k - 16)  : Good EV 3 (KP 3 [1, 1, 1, 1, 1, 1, 1, 1, 0, 6]) (A7_fr n q x k s S g S' R N I b L a) (mkH 52 (A7_L n q x k s S g S' R N I b L a) (A7_M n q x k s S g S' R N I b L a)) QF :=
  callK (J := JP) (G1 := 52) (FR1 := fun j => Qa_fr n q x k j.s j.S j.g j.S' R N N j.b (wl j.f N) j.a) (HS1 := fun j => (mkH 53 (Qf_L n q x k j.s j.S j.g j.S' R N N j.b (wl j.f N) j.a) (Qf_M n q x k j.s j.S j.g j.S' R N N j.b (wl j.f N) j.a))) (V := fun j => Qd_V n q x k j.s j.S j.g j.S' R N N j.b (wl j.f N) j.a) EV_plain rfl (fun _ => rfl) (A7_at n q x k s S g S' R N I b L a) A7_body A7_ble (a6_wf n q x k s S g S' R N I b L a) (fun j => Qd_wf n q x k j.s j.S j.g j.S' R N N j.b (wl j.f N) j.a) (by rw [A7_pad n q x k s S g S' R N I b L a, A7_K]; exact Q_B n q x k s S g S' R N I b L a hN1 hk0 hk1) (by rw [A7_pad n q x k s S g S' R N I b L a]; exact A7_har n q x k s S g S' R N I b L a) (A7_hf n q x k s S g S' R N I b L a) (fun j => Qd_vb n q x k j.s j.S j.g j.S' R N N j.b (wl j.f N) j.a) A7_okK (fun j => Q_F2 n q x k s S g S' R N I b L a j) (fun j => (Qg_fin n q x k j.s j.S j.g j.S' R N N j.b (wl j.f N) j.a hk0 hk1).mono' fun r hr => QF_of rfl hr)

theorem R_F1 (n q x k s S g S' R : Int) (N I b : Nat) (L : List AV) (a : Nat → Int) (SV : Int) (j : JP) : putD (B1_fr n q x k s S g S' R N I b L a) (some 77) (Rc_V n q x k j.s SV j.g j.S' R N N j.b (wl j.f N) j.a) = Rb_fr n q x k j.s SV j.g j.S' R N N j.b (wl j.f N) j.a := by kernel_rfl
theorem R_F2 (n q x k s S g S' R : Int) (N I b : Nat) (L : List AV) (a : Nat → Int) (SV : Int) (j : JP) : putD (A7_fr n q x k s S g S' R N I b L a) (some 46) (Rd_V n q x k j.s SV j.g j.S' R N N j.b (wl j.f N) j.a) = Ra_fr n q x k j.s SV j.g j.S' R N N j.b (wl j.f N) j.a := by kernel_rfl
theorem R_B (n q x k s S g S' R : Int) (N I b : Nat) (L : List AV) (a : Nat → Int) (SV : Int) (hN1 : N ≤ 31) (hk0 : 16 ≤ k) (hk1 : k - 16 < N) (hSV : ∀ f : Nat → Int, (∀ j, j < N → f j = if (j : Int) = k - 16 then x else (j : Int)) → IntKind.i64.wrap (sumF f N) = SV) : Good EV 52 (KP 7 []) (B0_fr n q x k s S g S' R N I b L a) (mkH 52 (B0_L n q x k s S g S' R N I b L a) (B0_M n q x k s S g S' R N I b L a)) (fun r => ∃ j : JP, CallQ 52 (bodyOf 7) (Rd_V n q x k j.s SV j.g j.S' R N N j.b (wl j.f N) j.a) (mkH 53 (Rf_L n q x k j.s SV j.g j.S' R N N j.b (wl j.f N) j.a) (Rf_M n q x k j.s SV j.g j.S' R N N j.b (wl j.f N) j.a)) r) :=
  b0_good n q x k s S g S' R N I b L a (callK (J := JP) (G1 := 60) (FR1 := fun j => Rb_fr n q x k j.s SV j.g j.S' R N N j.b (wl j.f N) j.a) (HS1 := fun j => (mkH 64 (Re_L n q x k j.s SV j.g j.S' R N N j.b (wl j.f N) j.a) (Re_M n q x k j.s SV j.g j.S' R N N j.b (wl j.f N) j.a))) (V := fun j => Rc_V n q x k j.s SV j.g j.S' R N N j.b (wl j.f N) j.a) (EV_plain.mono rfl) rfl (fun _ => rfl) (B1_at n q x k s S g S' R N I b L a) B1_body B1_ble (b0_wf n q x k s S g S' R N I b L a) (fun j => Rc_wf n q x k j.s SV j.g j.S' R N N j.b (wl j.f N) j.a (wl_pure _ _)) (by rw [B1_pad n q x k s S g S' R N I b L a, B1_K]; exact R_C n q x k s S g S' R N I b L a SV hN1 hk0 hk1 hSV) (by rw [B1_pad n q x k s S g S' R N I b L a]; exact B1_har n q x k s S g S' R N I b L a) (B1_hf n q x k s S g S' R N I b L a) (fun j => Rc_vb n q x k j.s SV j.g j.S' R N N j.b (wl j.f N) j.a) B1_okK (fun j => R_F1 n q x k s S g S' R N I b L a SV j) (fun j => (Rd_fin n q x k j.s SV j.g j.S' R N N j.b (wl j.f N) j.a).mono' fun r hr => ⟨j, hr⟩))
theorem R_A (n q x k s S g S' R : Int) (N I b : Nat) (L : List AV) (a : Nat → Int) (SV : Int) (hN1 : N ≤ 31) (hk0 : 16 ≤ k) (hk1 : k - 16 < N) (hSV : ∀ f : Nat → Int, (∀ j, j < N → f j = if (j : Int) = k - 16 then x else (j : Int)) → IntKind.i64.wrap (sumF f N) = SV) (hR : R = IntKind.i64.wrap (((Int.tdiv (((↑N : Int) * (↑N - 1 : Int)) : Int) 2) - k + 16 : Int) + x)) (hS : SV = R) (hM0 : 0 ≤ (↑N : Int) * (↑N - 1 : Int)) (hM1 : (↑N : Int) * (↑N - 1 : Int) ≤ 1000) (hT0 : 0 ≤ Int.tdiv ((↑N : Int) * (↑N - 1 : Int)) 2) (hT1 : Int.tdiv ((↑N : Int) * (↑N - 1 : Int)) 2 ≤ 1000) : Good EV 3 (KP 3 [1, 1, 1, 1, 1, 1, 1, 1, 0, 6]) (A7_fr n q x k s S g S' R N I b L a) (mkH 52 (A7_L n q x k s S g S' R N I b L a) (A7_M n q x k s S g S' R N I b L a)) QF :=
  callK (J := JP) (G1 := 52) (FR1 := fun j => Ra_fr n q x k j.s SV j.g j.S' R N N j.b (wl j.f N) j.a) (HS1 := fun j => (mkH 53 (Rf_L n q x k j.s SV j.g j.S' R N N j.b (wl j.f N) j.a) (Rf_M n q x k j.s SV j.g j.S' R N N j.b (wl j.f N) j.a))) (V := fun j => Rd_V n q x k j.s SV j.g j.S' R N N j.b (wl j.f N) j.a) EV_plain rfl (fun _ => rfl) (A7_at n q x k s S g S' R N I b L a) A7_body A7_ble (a6_wf n q x k s S g S' R N I b L a) (fun j => Rd_wf n q x k j.s SV j.g j.S' R N N j.b (wl j.f N) j.a) (by rw [A7_pad n q x k s S g S' R N I b L a, A7_K]; exact R_B n q x k s S g S' R N I b L a SV hN1 hk0 hk1 hSV) (by rw [A7_pad n q x k s S g S' R N I b L a]; exact A7_har n q x k s S g S' R N I b L a) (A7_hf n q x k s S g S' R N I b L a) (fun j => Rd_vb n q x k j.s SV j.g j.S' R N N j.b (wl j.f N) j.a) A7_okK (fun j => R_F2 n q x k s S g S' R N I b L a SV j) (fun j => (Rg_fin n q x k j.s SV j.g j.S' R N N j.b (wl j.f N) j.a hN1 hk0 hk1 hR hS hM0 hM1 hT0 hT1).mono' fun r hr => QF_of rfl hr)

theorem A0_pad (n q x k s S g S' R : Int) (N I b : Nat) (L : List AV) (a : Nat → Int) : pad (bodyOf 3).ntmps [.int .i64 n, .int .i64 q, .int .i64 x] = A0_fr n q x k s S g S' R N I b L a := by kernel_rfl
theorem A0_K : [KI.c (bodyOf 3).code] = KP 3 [] := by kernel_rfl
theorem A0_body : EV.body 3 = some (bodyOf 3) := by kernel_rfl
theorem A0_ble : Nat.ble 3 (bodyOf 3).ntmps = true := by kernel_rfl
theorem A0_wf (n q x k s S g S' R : Int) (N I b : Nat) (L : List AV) (a : Nat → Int) : WfH (mkH 3 (A0_L n q x k s S g S' R N I b L a) (A0_M n q x k s S g S' R N I b L a)) := wf_of (by kernel_rfl)
theorem A0_fb (n q x k s S g S' R : Int) (N I b : Nat) (L : List AV) (a : Nat → Int) : belows 3 (A0_fr n q x k s S g S' R N I b L a) = true := by kernel_rfl
theorem law_call (n q x k s S g S' R : Int) (N I b : Nat) (L : List AV) (a : Nat → Int) (h : Good EV 3 (KP 3 []) (A0_fr n q x k s S g S' R N I b L a) (mkH 3 (A0_L n q x k s S g S' R N I b L a) (A0_M n q x k s S g S' R N I b L a)) QF) : ∃ h', call EV 3 [.int .i64 n, .int .i64 q, .int .i64 x] (mkH 3 (A0_L n q x k s S g S' R N I b L a) (A0_M n q x k s S g S' R N I b L a)) = some (.bool true, h') := by
  obtain ⟨⟨y, fr, d, h'⟩, hr, hx, hd, hv⟩ := h idN _ (Emb.id (A0_wf n q x k s S g S' R N I b L a) 3)
  simp only at hx hd hv
  subst hx
  subst hd
  rw [rens_id (ι := idN) (n := 3) (fun _ _ => ⟨rfl, rfl⟩) (A0_fb n q x k s S g S' R N I b L a), ← A0_pad n q x k s S g S' R N I b L a, ← A0_K] at hr
  exact ⟨h', call_con EV_plain.hook A0_body (by have := Nat.le_of_ble_eq_true A0_ble; simp only [List.length_cons, List.length_nil]; omega) (by intro i h; cases h) hr hv⟩
end Go.Kx
/- VmArrays: for all numbers. -/
namespace Go.Kx
open Go

def marksL : List (List UInt8) := [[61, 61], [33, 61], [60, 61], [38, 38], [124, 124], [43], [45], [42], [47], [37], [60], [61], [33], [40], [41], [91], [93], [123], [125], [59], [44], [46]]
def shapesL : List (List UInt8 × Int) := [([], 0), ([105, 110, 116], 110), ([110, 117, 108, 108], 0), ([108, 111, 99, 97, 108], 108), ([115, 116, 111, 114, 101], 108), ([97, 100, 100], 0), ([115, 117, 98], 0), ([109, 117, 108], 0), ([100, 105, 118], 0), ([109, 111, 100], 0), ([108, 101, 115, 115], 0), ([109, 111, 115, 116], 0), ([115, 97, 109, 101], 0), ([111, 116, 104, 101, 114], 0), ([110, 101, 103], 0), ([110, 111, 116], 0), ([103, 101, 116], 102), ([112, 117, 116], 102), ([110, 101, 119], 99), ([97, 114, 114, 97, 121], 116), ([108, 111, 97, 100], 116), ([115, 97, 118, 101], 116), ([108, 101, 110, 103, 116, 104], 0), ([99, 97, 115, 116], 99), ([105, 115], 99), ([99, 97, 108, 108], 109), ([115, 116, 97, 116, 105, 99], 109), ([106, 117, 109, 112], 106), ([117, 110, 108, 101, 115, 115], 106), ([114, 101, 116, 117, 114, 110], 0), ([112, 114, 105, 110, 116], 0), ([112, 111, 112], 0), ([98, 111, 111, 108], 98)]
def h0V : H := mkH 3 [(0, ⟨0, 0, true, marksL.map AV.str⟩), (2, ⟨0, 0, true, flatP shapesL⟩)] []
theorem A0_is (n q x k s S g S' R : Int) (N I b : Nat) (L : List AV) (a : Nat → Int) : mkH 3 (A0_L n q x k s S g S' R N I b L a) (A0_M n q x k s S g S' R N I b L a) = h0V := by kernel_rfl

def tri : Nat → Nat
  | 0 => 0
  | n + 1 => tri n + n
theorem tri_facts : ∀ N : Nat, N < 32 → Int.tdiv ((N : Int) * ((N : Int) - 1)) 2 = tri N ∧ 0 ≤ (N : Int) * ((N : Int) - 1) ∧ (N : Int) * ((N : Int) - 1) ≤ 1000 ∧ tri N ≤ 1000 := by decide
theorem sum_tri {f : Nat → Int} {x p : Int} : ∀ (m : Nat), (∀ j, j < m → f j = if (j : Int) = p then x else (j : Int)) → 0 ≤ p → sumF f m = (tri m : Int) + if p < m then x - p else 0
  | 0, _, hp => by simp only [sumF, tri]; rw [if_neg (by omega)]; rfl
  | m + 1, hf, hp => by
    have ih := sum_tri m (fun j hj => hf j (by omega)) hp
    simp only [sumF, tri]
    rw [ih, hf m (by omega)]
    by_cases h1 : (m : Int) = p
    · rw [if_pos h1, if_neg (by omega), if_pos (by omega)]; omega
    · rw [if_neg h1]
      by_cases h2 : p < (m : Int)
      · rw [if_pos h2, if_pos (by omega)]; omega
      · rw [if_neg h2, if_neg (by omega)]; omega

theorem and_small (n : Int) (m : Nat) (hm : m < 64) : ∃ k : Nat, k ≤ m ∧ binA .and .no (.int .i64 n) (.int .i64 (m : Int)) = some (.int .i64 (k : Int)) := by
  refine ⟨(BitVec.ofInt 64 n &&& BitVec.ofInt 64 (m : Int)).toNat, ?_, ?_⟩
  · rw [BitVec.toNat_and]
    refine Nat.le_trans Nat.and_le_right ?_
    rw [BitVec.ofInt_natCast, BitVec.toNat_ofNat]
    exact Nat.mod_le _ _
  · simp only [binA, if_true]
    have hb : IntKind.i64.bits = 64 := rfl
    have hle : (BitVec.ofInt 64 n &&& BitVec.ofInt 64 (m : Int)).toNat ≤ m := by
      rw [BitVec.toNat_and]
      refine Nat.le_trans Nat.and_le_right ?_
      rw [BitVec.ofInt_natCast, BitVec.toNat_ofNat]
      exact Nat.mod_le _ _
    show some (AV.int .i64 (IntKind.i64.wrap ((BitVec.ofInt 64 n &&& BitVec.ofInt 64 (m : Int)).toNat : Int))) = _
    rw [wrap_i64 (by omega) (by omega)]

theorem all_call (n q x : Int) : ∃ h', call EV 3 [.int .i64 n, .int .i64 q, .int .i64 x] h0V = some (.bool true, h') := by
  obtain ⟨N, hN1, hN⟩ := and_small n 31 (by omega)
  obtain ⟨m, hm1, hm⟩ := and_small q 63 (by omega)
  by_cases c1 : (m : Int) < 16
  · have h := law_call n q x (m : Int) 0 0 0 0 0 N 0 0 [] (fun _ => 0) (law_good n q x (m : Int) 0 0 0 0 0 N 0 0 [] (fun _ => 0) hN hm (by omega) (by omega) (P_A n q x (m : Int) 0 0 0 0 0 N 0 0 [] (fun _ => 0) hN1 (by omega) c1))
    rw [A0_is] at h
    exact h
  · by_cases c2 : (N : Int) ≤ (m : Int) - 16
    · have h := law_call n q x (m : Int) 0 0 0 0 0 N 0 0 [] (fun _ => 0) (law_good n q x (m : Int) 0 0 0 0 0 N 0 0 [] (fun _ => 0) hN hm (by omega) (by omega) (Q_A n q x (m : Int) 0 0 0 0 0 N 0 0 [] (fun _ => 0) hN1 (by omega) c2))
      rw [A0_is] at h
      exact h
    · obtain ⟨t1, t2, t3, t4⟩ := tri_facts N (by omega)
      have key := R_A n q x (m : Int) 0 0 0 0 (IntKind.i64.wrap (((Int.tdiv (((↑N : Int) * (↑N - 1 : Int)) : Int) 2) - (m : Int) + 16 : Int) + x)) N 0 0 [] (fun _ => 0) (IntKind.i64.wrap (((Int.tdiv (((↑N : Int) * (↑N - 1 : Int)) : Int) 2) - (m : Int) + 16 : Int) + x)) hN1 (by omega) (by omega)
        (fun f hf => by
          rw [sum_tri N hf (by omega), if_pos (by omega), t1]
          exact congrArg _ (by omega)) rfl rfl t2 t3 (by rw [t1]; omega) (by rw [t1]; omega)
      have h := law_call n q x (m : Int) 0 0 0 0 _ N 0 0 [] (fun _ => 0) (law_good n q x (m : Int) 0 0 0 0 _ N 0 0 [] (fun _ => 0) hN hm (by omega) (by omega) key)
      rw [A0_is] at h
      exact h

theorem EV_ok : EnvOK Go.Proofs.Tryz.prog EV := ⟨fun f b h => ⟨[], (EV_body h).1⟩, fun f g h => by cases h⟩
theorem globs3 : Go.Proofs.Tryz.prog.globals.size = 3 := by kernel_rfl
theorem mixed : Go.Proofs.Tryz.prog.follows .mixedOrders = true := by kernel_rfl

/- the walk: from each world that holds the two tables -/
theorem walkV (n q x : Int) {w : World} {R : Rl} (hw : WR 3 R h0V w) : Calls Go.Proofs.Tryz.prog 3 #[.int .i64 n, .int .i64 q, .int .i64 x] w (fun e w' => e = .returned (.bool true) ∧ ∃ R' h', Go2 3 R h0V w R' h' w') := by
  obtain ⟨h', hc⟩ := all_call n q x
  have := call_law mixed EV_ok hc rfl R w #[.int .i64 n, .int .i64 q, .int .i64 x] (by rw [globs3]; exact hw) (.cons _ _ _ _ (.int _ _) (.cons _ _ _ _ (.int _ _) (.cons _ _ _ _ (.int _ _) .nil)))
  refine this.mono ?_
  intro e w' he
  cases e with
  | returned v =>
    obtain ⟨R', hgo, hv⟩ := he
    rw [globs3] at hgo
    cases hv
    exact ⟨rfl, R', h', hgo⟩
  | panicked c => exact he.elim
  | outgrown => exact he.elim
end Go.Kx
