/- The seat's functions, compiled. -/
import Derived.KernelRfl
import Derived.Test.YtmafgdnlggoljaaGreatDoorS2
import Derived.Test.YtmafgdnlggoljaaGreatDoorProg
namespace Go.Kx
open Go

def envOf (g : Nat → Option AFn) (n : Nat) : Env := ⟨fun f => bif Nat.blt f n then g f else none, fun _ => none⟩
def okAll (o : Option AFn) : Bool := match o with
  | some b => okFn b && okAC 3 b.code
  | none => true
def rangeB (g : Nat → Bool) (a n : Nat) : Bool := Nat.rec true (fun k ih => g (Nat.add a k) && ih) n
theorem rangeB_at {g : Nat → Bool} {a : Nat} : ∀ {n : Nat}, rangeB g a n = true → ∀ f, a ≤ f → f < a + n → g f = true
  | 0, _, f, h1, h2 => absurd h2 (by omega)
  | n + 1, h, f, h1, h2 => by
    have h' : (g (a + n) && rangeB g a n) = true := h
    simp only [Bool.and_eq_true] at h'
    by_cases e : f = a + n
    · rw [e]; exact h'.1
    · exact rangeB_at h'.2 f h1 (by omega)
theorem envOf_body {g : Nat → Option AFn} {n : Nat} (ha : ∀ f, f < n → okAll (g f) = true) {f : Nat} {b : AFn} (h : (envOf g n).body f = some b) : g f = some b ∧ okFn b = true ∧ okAC 3 b.code = true := by
  simp only [envOf] at h
  cases hb : Nat.blt f n with
  | false => rw [hb] at h; cases h
  | true =>
    rw [hb] at h
    have hf : f < n := by simpa [Nat.blt_eq] using hb
    have h2 : g f = some b := h
    have := ha f hf
    rw [h2] at this
    simp only [okAll, Bool.and_eq_true] at this
    exact ⟨h2, this.1, this.2⟩
noncomputable def fnV (f : Nat) : Option AFn := fnC Go.Proofs.Tryz.prog f []
noncomputable def EV : Env := envOf fnV 242
noncomputable def bodyOf (f : Nat) : AFn := match EV.body f with
  | some b => b
  | none => ⟨0, .skip, []⟩
noncomputable def KP (f : Nat) (p : List Nat) : List KI := nav (bodyOf f).code p []
theorem allR_0 : rangeB (fun f => okAll (fnV f)) 0 22 = true := by kernel_rfl
theorem allR_1 : rangeB (fun f => okAll (fnV f)) 22 22 = true := by kernel_rfl
theorem allR_2 : rangeB (fun f => okAll (fnV f)) 44 22 = true := by kernel_rfl
theorem allR_3 : rangeB (fun f => okAll (fnV f)) 66 22 = true := by kernel_rfl
theorem allR_4 : rangeB (fun f => okAll (fnV f)) 88 22 = true := by kernel_rfl
theorem allR_5 : rangeB (fun f => okAll (fnV f)) 110 22 = true := by kernel_rfl
theorem allR_6 : rangeB (fun f => okAll (fnV f)) 132 22 = true := by kernel_rfl
theorem allR_7 : rangeB (fun f => okAll (fnV f)) 154 22 = true := by kernel_rfl
theorem allR_8 : rangeB (fun f => okAll (fnV f)) 176 22 = true := by kernel_rfl
theorem allR_9 : rangeB (fun f => okAll (fnV f)) 198 22 = true := by kernel_rfl
theorem allR_10 : rangeB (fun f => okAll (fnV f)) 220 22 = true := by kernel_rfl
theorem all_at (f : Nat) (hf : f < 242) : okAll (fnV f) = true := by
  by_cases h0 : f < 22
  · exact rangeB_at allR_0 f (by omega) (by omega)
  by_cases h1 : f < 44
  · exact rangeB_at allR_1 f (by omega) (by omega)
  by_cases h2 : f < 66
  · exact rangeB_at allR_2 f (by omega) (by omega)
  by_cases h3 : f < 88
  · exact rangeB_at allR_3 f (by omega) (by omega)
  by_cases h4 : f < 110
  · exact rangeB_at allR_4 f (by omega) (by omega)
  by_cases h5 : f < 132
  · exact rangeB_at allR_5 f (by omega) (by omega)
  by_cases h6 : f < 154
  · exact rangeB_at allR_6 f (by omega) (by omega)
  by_cases h7 : f < 176
  · exact rangeB_at allR_7 f (by omega) (by omega)
  by_cases h8 : f < 198
  · exact rangeB_at allR_8 f (by omega) (by omega)
  by_cases h9 : f < 220
  · exact rangeB_at allR_9 f (by omega) (by omega)
  by_cases h10 : f < 242
  · exact rangeB_at allR_10 f (by omega) (by omega)
  omega
theorem EV_body {f : Nat} {b : AFn} (h : EV.body f = some b) : fnV f = some b ∧ okFn b = true ∧ okAC 3 b.code = true := envOf_body all_at h
theorem EV_plain : Plain EV 3 := ⟨fun _ => rfl, fun _ _ h => (EV_body h).2.2⟩
theorem EV_okf : ∀ f b, EV.body f = some b → okFn b = true := fun _ _ h => (EV_body h).2.1
end Go.Kx
