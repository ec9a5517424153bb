/-
  ABS, part Xg: lemmas for walks over heaps that are not known. (Own work.)
-/
import Derived.Test.YtohipgnacknkgabGreatHgXf
set_option linter.unusedSimpArgs false
set_option linter.unusedVariables false
namespace Go.Abs
open Go

theorem AHeap.get_new (H : AHeap) (o : AObj) : (H.push o).get H.size = some o := by rw [AHeap.get_push]; simp
theorem AHeap.get_at {H : AHeap} {o : AObj} {b : Nat} (h : b = H.size) : (H.push o).get b = some o := by rw [h, AHeap.get_new]
theorem AHeap.get_old {H : AHeap} {o : AObj} {b : Nat} (h : b < H.size) : (H.push o).get b = H.get b := by rw [AHeap.get_push, if_neg (by omega)]
theorem AHeap.get_set_same {H : AHeap} {o : AObj} {b : Nat} (h : b < H.size) : (H.set b o).get b = some o := by rw [AHeap.get_set, if_pos ⟨rfl, h⟩]
theorem AHeap.get_set_ne {H : AHeap} {o : AObj} {b c : Nat} (h : b ≠ c) : (H.set b o).get c = H.get c := by rw [AHeap.get_set, if_neg (by simp [h])]

theorem rowsW_some {cs : List Value} {ro : Bool} {sz : Nat} {K : List Value → Bool → Nat → Prop} (h : K cs ro sz) : rowsW (some (.cells cs ro sz)) K := h
theorem objW_some {o : AObj} {K : AObj → Prop} (h : K o) : objW (some o) K := h
theorem rowsW_of {o : Option AObj} {cs : List Value} {ro : Bool} {sz : Nat} {K : List Value → Bool → Nat → Prop} (he : o = some (.cells cs ro sz)) (h : K cs ro sz) : rowsW o K := by subst he; exact h

theorem anyW_of {o : Option Value} {v : Value} {K : Value → Prop} (he : o = some v) (h : K v) : anyW o K := by subst he; exact h

/-- A call that answers a plain value and leaves the known blocks as they were. -/
theorem WCall.pure {P : Program} {f : Nat} {args : List Value} {H : AHeap} {K : AE → AHeap → Prop} (r0 : AE) (hf : r0.flat = true)
    (h : WCall P f args H fun r H' => r = r0 ∧ ∀ b, b < H.size → H'.get b = H.get b) (hk : K r0 H) : WCall P f args H K := by
  obtain ⟨r, H', h1, rfl, h2⟩ := h
  exact ⟨r, H, h1.pure hf h2, hk⟩

theorem WCall.pureP {P : Program} {f : Nat} {args : List Value} {H : AHeap} {K : AE → AHeap → Prop} (R : AE → Prop)
    (h : WCall P f args H fun r H' => (R r ∧ r.flat = true) ∧ ∀ b, b < H.size → H'.get b = H.get b) (hk : ∀ r, R r → K r H) : WCall P f args H K := by
  obtain ⟨r, H', h1, ⟨hr, hf⟩, h2⟩ := h
  exact ⟨r, H, h1.pure hf h2, hk r hr⟩

theorem WCall.fact {P : Program} {f : Nat} {args : List Value} {H H' : AHeap} {r : AE} {K : AE → AHeap → Prop} (h : CallOk P f args H r H') (hk : K r H') : WCall P f args H K := ⟨r, H', h, hk⟩

theorem WCall.callOk {P : Program} {f : Nat} {args : List Value} {H H' : AHeap} {r : AE} (h : WCall P f args H fun r' H'' => r' = r ∧ H'' = H') : CallOk P f args H r H' := by
  obtain ⟨r1, H1, h1, rfl, rfl⟩ := h
  exact h1

end Go.Abs
