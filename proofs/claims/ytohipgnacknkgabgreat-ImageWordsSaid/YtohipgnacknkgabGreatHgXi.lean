/-
  ABS, part Xi: from the abstract machine to what a row asks: one row of numbers that came in. (Own work.)
-/
import Derived.Test.YtohipgnacknkgabGreatHgXh
import Derived.Below
set_option linter.unusedSimpArgs false
set_option linter.unusedVariables false
namespace Go.Abs
open Go

variable {P : Program}

/-- Where nothing is the abstract heap's own, nothing that was turns. -/
theorem Ext.below {ρ ρ' : Rho} {H H' : AHeap} {w w' : World} (x : Ext P ρ H w ρ' H' w') (hno : ∀ B i, ¬ Owned ρ H B i) : Go.RowKit.Below w.heap.size w w' := by
  have hsame : ∀ (B : Nat) (o : Obj), w.heap[B]? = some o → w'.heap[B]? = some o := by
    intro B o ho
    by_cases hc : Obj.isCells o = true
    · cases o with
      | cells c t fr =>
        obtain ⟨c', h1, h2, h3⟩ := x.keepC B c t fr ho
        have : c' = c := Array.ext_getElem? fun i => h3 i (hno B i)
        rw [h1, this]
      | _ => exact absurd hc (by simp [Obj.isCells])
    · exact x.keepO B o ho (by simpa using hc) (hno B 0)
  refine ⟨x.os, x.tape, x.out, x.wsize, fun k hk => ?_⟩
  rw [Array.getElem?_eq_getElem hk]
  exact hsame _ _ (Array.getElem?_eq_getElem hk)

/-- One row that is read. -/
def rowHeap (cs : List Value) : AHeap := AHeap.empty.push (.cells cs true 1)

theorem rowHeap_get (cs : List Value) : (rowHeap cs).get 0 = some (.cells cs true 1) := AHeap.get_new AHeap.empty _
theorem rowHeap_size (cs : List Value) : (rowHeap cs).size = 1 := by rw [rowHeap, AHeap.size_push]; rfl
theorem rowHeap_only {cs : List Value} {b : Nat} {o : AObj} (h : (rowHeap cs).get b = some o) : b = 0 ∧ o = .cells cs true 1 := by
  have hb : b < 1 := by have := AHeap.get_lt h; rwa [rowHeap_size] at this
  have hb0 : b = 0 := by omega
  subst hb0
  rw [rowHeap_get] at h
  exact ⟨rfl, (Option.some.inj h).symm⟩

def rowRho (p : Pl) : Rho := fun b => if b = 0 then some p else none

theorem rowRel {cs : List Value} {p : Pl} {w : World} (h : objR P (rowRho p) w p (.cells cs true 1)) (hB : p.B < w.heap.size) : Rel P (rowRho p) (rowHeap cs) w where
  obj := fun b q o hb ho => by
    obtain ⟨rfl, rfl⟩ := rowHeap_only ho
    have : q = p := by simpa [rowRho] using hb.symm
    subst this
    exact h
  sep := fun b b' q q' o o' hne hb hb' ho ho' _ _ => by
    obtain ⟨rfl, _⟩ := rowHeap_only ho
    obtain ⟨rfl, _⟩ := rowHeap_only ho'
    exact absurd rfl hne
  lt := fun b q hb => by
    unfold rowRho at hb
    split at hb
    · rw [← Option.some.inj hb]; exact hB
    · cases hb

theorem rowClo {cs : List Value} {p : Pl} : Clo (rowRho p) (rowHeap cs) := by
  intro b q hb
  unfold rowRho at hb
  split at hb
  · rename_i e; rw [rowHeap_size, e]; exact Nat.zero_lt_one
  · cases hb

theorem rowNo {cs : List Value} {p : Pl} : ∀ B i, ¬ Owned (rowRho p) (rowHeap cs) B i := by
  rintro B i ⟨b, q, o, _, ho, hw, _⟩
  obtain ⟨_, rfl⟩ := rowHeap_only ho
  cases hw

end Go.Abs
