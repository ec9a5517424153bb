/-
  ABS, part Xa: tables of functions, laid by number. (Own work.)
-/
import Derived.Test.YtohipgnacknkgabGreatHgW
set_option linter.unusedSimpArgs false
set_option linter.unusedVariables false
namespace Go.Abs
open Go

def tabOf (l : List (Nat × AFn)) : Trie AFn := l.foldl (fun t p => t.set p.1 p.2) .leaf

theorem tab_get : ∀ (l : List (Nat × AFn)) (t : Trie AFn) (f : Nat) (a : AFn), (l.foldl (fun t p => t.set p.1 p.2) t).get f = some a → (f, a) ∈ l ∨ t.get f = some a
  | [], _, _, _, h => .inr h
  | p :: l, t, f, a, h => by
    rcases tab_get l (t.set p.1 p.2) f a h with h | h
    · exact .inl (List.mem_cons_of_mem _ h)
    · rw [Trie.get_set] at h
      split at h
      · rename_i e
        refine .inl ?_
        rw [← e, ← Option.some.inj h]
        exact List.mem_cons_self
      · exact .inr h

theorem tabOf_ok {P : Program} {l : List (Nat × AFn)} (h : ∀ p, p ∈ l → aFn P p.1 = some p.2) : TOk P (fun f => (tabOf l).get f) := by
  intro f a hf
  rcases tab_get l .leaf f a hf with hm | hm
  · exact h _ hm
  · have : (Trie.leaf : Trie AFn).get f = none := rfl
    rw [this] at hm
    cases hm

theorem nil_ok {P : Program} : ∀ p, p ∈ ([] : List (Nat × AFn)) → aFn P p.1 = some p.2 := fun _ h => by cases h

theorem cons_ok {P : Program} {f : Nat} {a : AFn} {l : List (Nat × AFn)} (h : aFn P f = some a) (hl : ∀ p, p ∈ l → aFn P p.1 = some p.2) : ∀ p, p ∈ (f, a) :: l → aFn P p.1 = some p.2 := by
  intro p hp
  rcases List.mem_cons.1 hp with rfl | hp
  · exact h
  · exact hl p hp

theorem app_ok {P : Program} {l m : List (Nat × AFn)} (hl : ∀ p, p ∈ l → aFn P p.1 = some p.2) (hm : ∀ p, p ∈ m → aFn P p.1 = some p.2) : ∀ p, p ∈ l ++ m → aFn P p.1 = some p.2 := by
  intro p hp
  rcases List.mem_append.1 hp with hp | hp
  · exact hl p hp
  · exact hm p hp

end Go.Abs
