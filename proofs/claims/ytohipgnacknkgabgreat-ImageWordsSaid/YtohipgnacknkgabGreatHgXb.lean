/-
  ABS, part Xb: a call of plain values that answers a plain value says the same in every heap. (Own work.)
-/
import Derived.Test.YtohipgnacknkgabGreatHgXa
set_option linter.unusedSimpArgs false
set_option linter.unusedVariables false
namespace Go.Abs
open Go

variable {P : Program}

mutual
theorem flat_eq (ρ : Rho) : ∀ (x y : Value), flat x = true → vr ρ x y → y = x
  | .bool _, y, _, h | .int _ _, y, _, h | .float _ _, y, _, h | .complex _ _ _, y, _, h | .string _, y, _, h | .nilFunc, y, _, h | .nilIface, y, _, h => by simpa only [vr] using h
  | .pointer none, y, _, h => by simpa only [vr] using h
  | .pointer (some _), _, h, _ => by simp [flat] at h
  | .slice none _ _, y, _, h => by simpa only [vr] using h
  | .slice (some _) _ _, _, h, _ => by simp [flat] at h
  | .map none, y, _, h => by simpa only [vr] using h
  | .map (some _), _, h, _ => by simp [flat] at h
  | .chan _, _, h, _ => by simp [flat] at h
  | .func (.func f) first captured, y, h, hv => by
    simp only [flat, Bool.and_eq_true] at h
    simp only [vr] at hv
    obtain ⟨g, xs, ys, rfl, h1, h2, h3⟩ := hv
    simp only [fnr] at h1
    rw [h1, flatA_eq ρ _ _ h.1 h2, flatA_eq ρ _ _ h.2 h3]
  | .func (.method _) _ _, _, h, _ | .func (.methodOf _ _) _ _, _, h, _ | .func (.via _ _ _ _) _ _, _, h, _ | .func (.yield _) _ _, _, h, _ => by simp [flat] at h
  | .iface t x, y, h, hv => by
    simp only [flat] at h
    simp only [vr] at hv
    obtain ⟨z, rfl, h1⟩ := hv
    rw [flat_eq ρ _ _ h h1]
  | .agg cs, y, h, hv => by
    simp only [flat] at h
    simp only [vr] at hv
    obtain ⟨z, rfl, h1⟩ := hv
    rw [flatA_eq ρ _ _ h h1]
  | .tuple cs, y, h, hv => by
    simp only [flat] at h
    simp only [vr] at hv
    obtain ⟨z, rfl, h1⟩ := hv
    rw [flatA_eq ρ _ _ h h1]
theorem flatA_eq (ρ : Rho) : ∀ (x y : Array Value), flatA x = true → vrA ρ x y → y = x
  | ⟨l⟩, y, h, hv => by
    simp only [flatA] at h
    simp only [vrA] at hv
    have := flatL_eq ρ l y.toList h hv
    cases y
    simp only at this
    rw [this]
theorem flatL_eq (ρ : Rho) : ∀ (x y : List Value), flatL x = true → vrL ρ x y → y = x
  | [], y, _, hv => by simpa only [vrL] using hv
  | x :: xs, y, h, hv => by
    simp only [flatL, Bool.and_eq_true] at h
    simp only [vrL] at hv
    obtain ⟨z, zs, rfl, h1, h2⟩ := hv
    rw [flat_eq ρ _ _ h.1 h1, flatL_eq ρ _ _ h.2 h2]
end

/-- What has been made apart from all that is known may be forgotten. -/
theorem Ext.forget {ρ ρ' : Rho} {H H' : AHeap} {w w' : World} (hr : Rel P ρ H w) (x : Ext P (fun _ => none) AHeap.empty w ρ' H' w') : Ext P ρ H w ρ H w' := by
  have hno : ∀ B i, ¬ Owned (fun _ => none) AHeap.empty B i := by
    rintro B i ⟨b, p, o, hb, _⟩
    cases hb
  have hsame : ∀ (B : Nat) (o : Obj), w.heap[B]? = some o → w'.heap[B]? = some o := by
    intro B o ho
    by_cases hc : Obj.isCells o = true
    · cases o with
      | cells c t fr =>
        obtain ⟨c', h1, h2, h3⟩ := x.keepC B c t fr ho
        have : c' = c := Array.ext_getElem? fun i => h3 i (hno B i)
        rw [h1, this]
      | _ => simp [Obj.isCells] at hc
    · exact x.keepO B o ho (by simpa using hc) (hno B 0)
  have hsame' : ∀ b p, ρ b = some p → w'.heap[p.B]? = w.heap[p.B]? := by
    intro b p hb
    have := hr.lt b p hb
    rw [Array.getElem?_eq_getElem this]
    exact hsame _ _ (Array.getElem?_eq_getElem this)
  exact { sub := Rho.le.refl ρ, size := Nat.le_refl _, new := fun _ _ h => .inl h,
          rel := ⟨fun b p o hb ho => objR_mono (Rho.le.refl ρ) (hr.obj b p o hb ho) (hsame' b p hb), hr.sep, fun b p hb => Nat.lt_of_lt_of_le (hr.lt b p hb) x.wsize⟩,
          wsize := x.wsize, keepC := fun B c t fr hc => ⟨c, hsame B _ hc, rfl, fun _ _ => rfl⟩, keepO := fun B o ho _ _ => hsame B o ho, own := fun _ _ _ h => h, unm := fun _ _ _ => rfl,
          os := x.os, out := x.out, tape := x.tape }

def AE.flat : AE → Bool
  | .ret v => Go.Abs.flat v
  | .panic v => Go.Abs.flat v

theorem endR_flat {ρ ρ' : Rho} {r : AE} {e : Ending} (hf : r.flat = true) (h : endR ρ r e) : endR ρ' r e := by
  cases r with
  | ret v => obtain ⟨y, rfl, hv⟩ := h; rw [flat_eq ρ v y hf hv]; exact ⟨_, rfl, flat_vr ρ' v hf⟩
  | panic v => obtain ⟨y, rfl, hv⟩ := h; rw [flat_eq ρ v y hf hv]; exact ⟨_, rfl, flat_vr ρ' v hf⟩

/-- **A call of plain values that answers a plain value says the same in every heap.** -/
theorem CallOk.flat {f : Nat} {args : List Value} {r : AE} {H' : AHeap} (h : CallOk P f args AHeap.empty r H') (ha : flatL args = true) (hf : r.flat = true) (H : AHeap) : CallOk P f args H r H := by
  refine ⟨h.1, fun ρ w xs hr hc hx => ?_⟩
  have hx' : vrL (fun _ => none) args xs.toList := by
    rw [flatL_eq ρ _ _ ha hx]
    exact flatL_vr _ _ ha
  have h0 : Rel P (fun _ => none) AHeap.empty w := ⟨fun b p o hb _ => (by cases hb), fun b b' p p' o o' _ hb _ _ _ _ _ => (by cases hb), fun b p hb => (by cases hb)⟩
  refine CallsIn.mono (h.2 _ w xs h0 (fun b p hb => (by cases hb)) hx') ?_
  rintro e w' ⟨ρ', hx2, he⟩
  exact ⟨ρ, hx2.forget hr, endR_flat hf he⟩

end Go.Abs
