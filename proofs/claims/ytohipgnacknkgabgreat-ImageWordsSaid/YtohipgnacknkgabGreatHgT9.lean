/-
  A part of the proof: walks of functions of the program in the abstract machine. (Own work.)
-/
import Derived.Test.YtohipgnacknkgabGreatHgT7
set_option linter.unusedSimpArgs false
set_option linter.unusedVariables false
namespace Go.Abs.Tryz
open Go Go.Abs Go.Proofs
attribute [local irreducible] AHeap.get AHeap.set AHeap.push AHeap.size rowsW WCall WLoop WScope WCode anyW iteW
set_option maxRecDepth 100000

theorem s34 (H : AHeap) (n : Int) (K : AE → AHeap → Prop) (h : K (.ret (.bool (!(decide (1 ≤ n) && decide (n ≤ 2048))))) H) : WCall Tryz.prog 34 [.int .u64 n] H K := by
  refine WCall.of a34 ?_
  conv => whnf
  repeat (first
    | (refine s35 _ _ _ _ _ ?_; conv => whnf)
    | (refine anyW_of rfl ?_; conv => whnf)
    | ((conv => arg 1; simp (disch := ((try simp only [AHeap.size_push, AHeap.size_set]); omega)) only [AHeap.get_new, AHeap.get_at, AHeap.get_old, AHeap.get_set_same, AHeap.get_set_ne]); refine rowsW_some ?_; conv => whnf)
    | (refine iteW_pos (by first | rfl | assumption | decide | omega) ?_; conv => whnf)
    | (refine iteW_neg (by first | rfl | assumption | decide | omega) ?_; conv => whnf)
    | (refine ⟨by first | exact rfl | exact Nat.le_of_ble_eq_true rfl | exact ⟨Nat.le_of_ble_eq_true rfl, rfl⟩ | exact ⟨rfl, by decide⟩ | decide | omega | (constructor <;> omega), ?_⟩; conv => whnf))
  exact h

theorem s73 (H : AHeap) (B o c : Nat) (cs : List Value) (ro : Bool) (sz : Nat) (hB : H.get B = some (.cells cs ro sz)) (n0 n1 n2 n3 : Int)
    (h0 : cs[o]? = some (.int .u64 n0)) (h1 : cs[o + 1]? = some (.int .u64 n1)) (h2 : cs[o + 2]? = some (.int .u64 n2)) (h3 : cs[o + 3]? = some (.int .u64 n3))
    (K : AE → AHeap → Prop) (h : ∀ j, K (.ret (.int .i64 j)) H) : WCall Tryz.prog 73 [.slice (some ⟨B, o, none⟩) 4 c, .func (.func 34) #[] #[]] H K := by
  refine WCall.of a73 ?_
  conv => whnf
  refine WLoop.of ?_
  conv => whnf
  repeat (first
    | (refine s34 _ _ _ ?_; conv => whnf)
    | (refine anyW_of h0 ?_; conv => whnf)
    | (refine anyW_of h1 ?_; conv => whnf)
    | (refine anyW_of h2 ?_; conv => whnf)
    | (refine anyW_of h3 ?_; conv => whnf)
    | (refine anyW_of rfl ?_; conv => whnf)
    | ((conv => arg 1; simp (disch := ((try simp only [AHeap.size_push, AHeap.size_set]); omega)) only [AHeap.get_new, AHeap.get_at, AHeap.get_old, AHeap.get_set_same, AHeap.get_set_ne, hB]); refine rowsW_some ?_; conv => whnf)
    | (refine iteW_pos (by first | rfl | assumption | decide | omega) ?_; conv => whnf)
    | (refine iteW_neg (by first | rfl | assumption | decide | omega) ?_; conv => whnf)
    | (refine ⟨by first | exact rfl | exact Nat.le_of_ble_eq_true rfl | exact ⟨Nat.le_of_ble_eq_true rfl, rfl⟩ | exact ⟨rfl, by decide⟩ | decide | omega | (constructor <;> omega), ?_⟩; conv => whnf))
  generalize (!(decide (1 ≤ n0) && decide (n0 ≤ 2048))) = c0
  cases c0
  rotate_left
  · conv => whnf
    repeat (first
      | (refine anyW_of rfl ?_; conv => whnf)
      | ((conv => arg 1; simp (disch := ((try simp only [AHeap.size_push, AHeap.size_set]); omega)) only [AHeap.get_new, AHeap.get_at, AHeap.get_old, AHeap.get_set_same, AHeap.get_set_ne]); refine rowsW_some ?_; conv => whnf)
      | (refine iteW_pos (by first | rfl | assumption | decide | omega) ?_; conv => whnf)
      | (refine iteW_neg (by first | rfl | assumption | decide | omega) ?_; conv => whnf)
      | (refine ⟨by first | exact rfl | exact Nat.le_of_ble_eq_true rfl | exact ⟨Nat.le_of_ble_eq_true rfl, rfl⟩ | exact ⟨rfl, by decide⟩ | decide | omega | (constructor <;> omega), ?_⟩; conv => whnf))
    exact h _
  conv => whnf
  refine WLoop.of ?_
  conv => whnf
  repeat (first
    | (refine s34 _ _ _ ?_; conv => whnf)
    | (refine anyW_of h0 ?_; conv => whnf)
    | (refine anyW_of h1 ?_; conv => whnf)
    | (refine anyW_of h2 ?_; conv => whnf)
    | (refine anyW_of h3 ?_; conv => whnf)
    | (refine anyW_of rfl ?_; conv => whnf)
    | ((conv => arg 1; simp (disch := ((try simp only [AHeap.size_push, AHeap.size_set]); omega)) only [AHeap.get_new, AHeap.get_at, AHeap.get_old, AHeap.get_set_same, AHeap.get_set_ne, hB]); refine rowsW_some ?_; conv => whnf)
    | (refine iteW_pos (by first | rfl | assumption | decide | omega) ?_; conv => whnf)
    | (refine iteW_neg (by first | rfl | assumption | decide | omega) ?_; conv => whnf)
    | (refine ⟨by first | exact rfl | exact Nat.le_of_ble_eq_true rfl | exact ⟨Nat.le_of_ble_eq_true rfl, rfl⟩ | exact ⟨rfl, by decide⟩ | decide | omega | (constructor <;> omega), ?_⟩; conv => whnf))
  generalize (!(decide (1 ≤ n1) && decide (n1 ≤ 2048))) = c1
  cases c1
  rotate_left
  · conv => whnf
    repeat (first
      | (refine anyW_of rfl ?_; conv => whnf)
      | ((conv => arg 1; simp (disch := ((try simp only [AHeap.size_push, AHeap.size_set]); omega)) only [AHeap.get_new, AHeap.get_at, AHeap.get_old, AHeap.get_set_same, AHeap.get_set_ne]); refine rowsW_some ?_; conv => whnf)
      | (refine iteW_pos (by first | rfl | assumption | decide | omega) ?_; conv => whnf)
      | (refine iteW_neg (by first | rfl | assumption | decide | omega) ?_; conv => whnf)
      | (refine ⟨by first | exact rfl | exact Nat.le_of_ble_eq_true rfl | exact ⟨Nat.le_of_ble_eq_true rfl, rfl⟩ | exact ⟨rfl, by decide⟩ | decide | omega | (constructor <;> omega), ?_⟩; conv => whnf))
    exact h _
  conv => whnf
  refine WLoop.of ?_
  conv => whnf
  repeat (first
    | (refine s34 _ _ _ ?_; conv => whnf)
    | (refine anyW_of h0 ?_; conv => whnf)
    | (refine anyW_of h1 ?_; conv => whnf)
    | (refine anyW_of h2 ?_; conv => whnf)
    | (refine anyW_of h3 ?_; conv => whnf)
    | (refine anyW_of rfl ?_; conv => whnf)
    | ((conv => arg 1; simp (disch := ((try simp only [AHeap.size_push, AHeap.size_set]); omega)) only [AHeap.get_new, AHeap.get_at, AHeap.get_old, AHeap.get_set_same, AHeap.get_set_ne, hB]); refine rowsW_some ?_; conv => whnf)
    | (refine iteW_pos (by first | rfl | assumption | decide | omega) ?_; conv => whnf)
    | (refine iteW_neg (by first | rfl | assumption | decide | omega) ?_; conv => whnf)
    | (refine ⟨by first | exact rfl | exact Nat.le_of_ble_eq_true rfl | exact ⟨Nat.le_of_ble_eq_true rfl, rfl⟩ | exact ⟨rfl, by decide⟩ | decide | omega | (constructor <;> omega), ?_⟩; conv => whnf))
  generalize (!(decide (1 ≤ n2) && decide (n2 ≤ 2048))) = c2
  cases c2
  rotate_left
  · conv => whnf
    repeat (first
      | (refine anyW_of rfl ?_; conv => whnf)
      | ((conv => arg 1; simp (disch := ((try simp only [AHeap.size_push, AHeap.size_set]); omega)) only [AHeap.get_new, AHeap.get_at, AHeap.get_old, AHeap.get_set_same, AHeap.get_set_ne]); refine rowsW_some ?_; conv => whnf)
      | (refine iteW_pos (by first | rfl | assumption | decide | omega) ?_; conv => whnf)
      | (refine iteW_neg (by first | rfl | assumption | decide | omega) ?_; conv => whnf)
      | (refine ⟨by first | exact rfl | exact Nat.le_of_ble_eq_true rfl | exact ⟨Nat.le_of_ble_eq_true rfl, rfl⟩ | exact ⟨rfl, by decide⟩ | decide | omega | (constructor <;> omega), ?_⟩; conv => whnf))
    exact h _
  conv => whnf
  refine WLoop.of ?_
  conv => whnf
  repeat (first
    | (refine s34 _ _ _ ?_; conv => whnf)
    | (refine anyW_of h0 ?_; conv => whnf)
    | (refine anyW_of h1 ?_; conv => whnf)
    | (refine anyW_of h2 ?_; conv => whnf)
    | (refine anyW_of h3 ?_; conv => whnf)
    | (refine anyW_of rfl ?_; conv => whnf)
    | ((conv => arg 1; simp (disch := ((try simp only [AHeap.size_push, AHeap.size_set]); omega)) only [AHeap.get_new, AHeap.get_at, AHeap.get_old, AHeap.get_set_same, AHeap.get_set_ne, hB]); refine rowsW_some ?_; conv => whnf)
    | (refine iteW_pos (by first | rfl | assumption | decide | omega) ?_; conv => whnf)
    | (refine iteW_neg (by first | rfl | assumption | decide | omega) ?_; conv => whnf)
    | (refine ⟨by first | exact rfl | exact Nat.le_of_ble_eq_true rfl | exact ⟨Nat.le_of_ble_eq_true rfl, rfl⟩ | exact ⟨rfl, by decide⟩ | decide | omega | (constructor <;> omega), ?_⟩; conv => whnf))
  generalize (!(decide (1 ≤ n3) && decide (n3 ≤ 2048))) = c3
  cases c3
  rotate_left
  · conv => whnf
    repeat (first
      | (refine anyW_of rfl ?_; conv => whnf)
      | ((conv => arg 1; simp (disch := ((try simp only [AHeap.size_push, AHeap.size_set]); omega)) only [AHeap.get_new, AHeap.get_at, AHeap.get_old, AHeap.get_set_same, AHeap.get_set_ne]); refine rowsW_some ?_; conv => whnf)
      | (refine iteW_pos (by first | rfl | assumption | decide | omega) ?_; conv => whnf)
      | (refine iteW_neg (by first | rfl | assumption | decide | omega) ?_; conv => whnf)
      | (refine ⟨by first | exact rfl | exact Nat.le_of_ble_eq_true rfl | exact ⟨Nat.le_of_ble_eq_true rfl, rfl⟩ | exact ⟨rfl, by decide⟩ | decide | omega | (constructor <;> omega), ?_⟩; conv => whnf))
    exact h _
  conv => whnf
  refine WLoop.of ?_
  conv => whnf
  repeat (first
    | (refine s34 _ _ _ ?_; conv => whnf)
    | (refine anyW_of h0 ?_; conv => whnf)
    | (refine anyW_of h1 ?_; conv => whnf)
    | (refine anyW_of h2 ?_; conv => whnf)
    | (refine anyW_of h3 ?_; conv => whnf)
    | (refine anyW_of rfl ?_; conv => whnf)
    | ((conv => arg 1; simp (disch := ((try simp only [AHeap.size_push, AHeap.size_set]); omega)) only [AHeap.get_new, AHeap.get_at, AHeap.get_old, AHeap.get_set_same, AHeap.get_set_ne, hB]); refine rowsW_some ?_; conv => whnf)
    | (refine iteW_pos (by first | rfl | assumption | decide | omega) ?_; conv => whnf)
    | (refine iteW_neg (by first | rfl | assumption | decide | omega) ?_; conv => whnf)
    | (refine ⟨by first | exact rfl | exact Nat.le_of_ble_eq_true rfl | exact ⟨Nat.le_of_ble_eq_true rfl, rfl⟩ | exact ⟨rfl, by decide⟩ | decide | omega | (constructor <;> omega), ?_⟩; conv => whnf))
  exact h _

theorem s33 (H : AHeap) (B o c : Nat) (cs : List Value) (ro : Bool) (sz : Nat) (hB : H.get B = some (.cells cs ro sz)) (n0 n1 n2 n3 : Int)
    (h0 : cs[o]? = some (.int .u64 n0)) (h1 : cs[o + 1]? = some (.int .u64 n1)) (h2 : cs[o + 2]? = some (.int .u64 n2)) (h3 : cs[o + 3]? = some (.int .u64 n3))
    (K : AE → AHeap → Prop) (h : ∀ j, K (.ret (.bool j)) H) : WCall Tryz.prog 33 [.slice (some ⟨B, o, none⟩) 4 c, .func (.func 34) #[] #[]] H K := by
  refine WCall.of a33 ?_
  conv => whnf
  refine s73 H B o c cs ro sz hB n0 n1 n2 n3 h0 h1 h2 h3 _ fun j => ?_
  conv => whnf
  repeat (first
    | (refine anyW_of rfl ?_; conv => whnf)
    | ((conv => arg 1; simp (disch := ((try simp only [AHeap.size_push, AHeap.size_set]); omega)) only [AHeap.get_new, AHeap.get_at, AHeap.get_old, AHeap.get_set_same, AHeap.get_set_ne]); refine rowsW_some ?_; conv => whnf)
    | (refine iteW_pos (by first | rfl | assumption | decide | omega) ?_; conv => whnf)
    | (refine iteW_neg (by first | rfl | assumption | decide | omega) ?_; conv => whnf)
    | (refine ⟨by first | exact rfl | exact Nat.le_of_ble_eq_true rfl | exact ⟨Nat.le_of_ble_eq_true rfl, rfl⟩ | exact ⟨rfl, by decide⟩ | decide | omega | (constructor <;> omega), ?_⟩; conv => whnf))
  exact h _
end Go.Abs.Tryz
