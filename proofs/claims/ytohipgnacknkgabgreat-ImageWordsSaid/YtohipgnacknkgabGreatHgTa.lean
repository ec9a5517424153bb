/-
  A part of the proof: walks of functions of the program in the abstract machine. (Own work.)
-/
import Derived.Test.YtohipgnacknkgabGreatHgT9
set_option linter.unusedSimpArgs false
set_option linter.unusedVariables false
namespace Go.Abs.Tryz
open Go Go.Abs Go.Proofs
attribute [local irreducible] AHeap.get AHeap.set AHeap.push AHeap.size rowsW WCall WLoop WScope WCode anyW iteW
set_option maxRecDepth 100000
set_option maxHeartbeats 4000000
theorem hm0 : Tryz.prog.follows .mixedOrders = true := by kernel_rfl

def noLay : Value := .agg #[.int .i64 0, .int .i64 0, .int .i64 0, .int .i64 0, .int .u64 0, .int .u64 0, .int .i64 0, .int .i64 0, .int .i64 0, .int .i64 0]

theorem s14 (H : AHeap) (B o l c : Nat) (cs : List Value) (ro : Bool) (sz : Nat) (hB : H.get B = some (.cells cs ro sz)) (hlt : B < H.size) (hl : l ≤ 200) (hc : (c ≠ openCap ∧ l ≤ c) ∨ (c = openCap ∧ sz = 1))
    (hcs : ∀ k, k < l → ∃ n, cs[o + k]? = some (.int .u64 n))
    (K : AE → AHeap → Prop) (h : K (.ret (.tuple #[noLay, .int .i64 230])) H) : WCall Tryz.prog 14 [.slice (some ⟨B, o, none⟩) l c] H K := by
  refine WCall.pure (.ret (.tuple #[noLay, .int .i64 230])) (by rfl) ?_ h
  refine WCall.of a14 ?_
  conv => whnf
  refine WScope.of ?_
  conv => whnf
  generalize hd : decide ((l : Int) < 64) = d
  cases d
  rotate_left
  · conv => whnf
    repeat (first
      | (refine WScope.of ?_; conv => whnf)
      | (refine anyW_of rfl ?_; conv => whnf)
      | ((conv => arg 1; simp (disch := ((try simp only [AHeap.size_push, AHeap.size_set]); omega)) only [AHeap.get_new, AHeap.get_at, AHeap.get_old, AHeap.get_set_same, AHeap.get_set_ne]); refine rowsW_some ?_; conv => whnf)
      | (refine iteW_pos (by first | rfl | assumption | decide | omega) ?_; conv => whnf)
      | (refine iteW_neg (by first | rfl | assumption | decide | omega) ?_; conv => whnf)
      | (refine ⟨by first | exact rfl | exact Nat.le_of_ble_eq_true rfl | exact ⟨Nat.le_of_ble_eq_true rfl, rfl⟩ | exact ⟨rfl, by decide⟩ | exact ⟨rfl, rfl⟩ | decide | omega | (constructor <;> omega), ?_⟩; conv => whnf))
    exact fun b hb => by simp (disch := ((try simp only [AHeap.size_push, AHeap.size_set]); omega)) only [AHeap.get_new, AHeap.get_at, AHeap.get_old, AHeap.get_set_same, AHeap.get_set_ne]
  have hl64 : 64 ≤ l := by simp at hd; omega
  obtain ⟨n1, h1⟩ := hcs 1 (by omega)
  obtain ⟨n2, h2⟩ := hcs 2 (by omega)
  obtain ⟨n3, h3⟩ := hcs 3 (by omega)
  obtain ⟨n4, h4⟩ := hcs 4 (by omega)
  obtain ⟨n5, h5⟩ := hcs 5 (by omega)
  obtain ⟨n6, h6⟩ := hcs 6 (by omega)
  have hB' : ∀ o, (H.push o).get B = some (.cells cs ro sz) := fun o => by rw [AHeap.get_old hlt]; exact hB
  conv => whnf
  rcases hc with ⟨hc, hlc⟩ | ⟨rfl, rfl⟩
  all_goals
    repeat (first
      | (refine s33 _ _ _ _ _ _ _ (hB' _) _ _ _ _ h1 h2 h3 h4 _ fun j => ?_; conv => whnf)
      | (refine anyW_of rfl ?_; conv => whnf)
      | ((conv => arg 1; simp (disch := ((try simp only [AHeap.size_push, AHeap.size_set]); omega)) only [AHeap.get_new, AHeap.get_at, AHeap.get_old, AHeap.get_set_same, AHeap.get_set_ne, hB]); refine rowsW_some ?_; conv => whnf)
      | (refine iteW_pos (by first | rfl | assumption | decide | omega) ?_; conv => whnf)
      | (refine iteW_neg (by first | rfl | assumption | decide | omega) ?_; conv => whnf)
      | (refine ⟨by first | exact rfl | exact Nat.le_of_ble_eq_true rfl | exact ⟨Nat.le_of_ble_eq_true rfl, rfl⟩ | exact ⟨rfl, by decide⟩ | exact ⟨rfl, rfl⟩ | decide | omega | (constructor <;> omega), ?_⟩; conv => whnf))

    cases j
    rotate_left
    · conv => whnf
      repeat (first
        | (refine WScope.of ?_; conv => whnf)
        | (refine anyW_of rfl ?_; conv => whnf)
        | ((conv => arg 1; simp (disch := ((try simp only [AHeap.size_push, AHeap.size_set]); omega)) only [AHeap.get_new, AHeap.get_at, AHeap.get_old, AHeap.get_set_same, AHeap.get_set_ne, hB]); refine rowsW_some ?_; conv => whnf)
        | (refine iteW_pos (by first | rfl | assumption | decide | omega) ?_; conv => whnf)
        | (refine iteW_neg (by first | rfl | assumption | decide | omega) ?_; conv => whnf)
        | (refine ⟨by first | exact rfl | exact Nat.le_of_ble_eq_true rfl | exact ⟨Nat.le_of_ble_eq_true rfl, rfl⟩ | exact ⟨rfl, by decide⟩ | exact ⟨rfl, rfl⟩ | decide | omega | (constructor <;> omega), ?_⟩; conv => whnf))

      exact fun b hb => by simp (disch := ((try simp only [AHeap.size_push, AHeap.size_set]); omega)) only [AHeap.get_new, AHeap.get_at, AHeap.get_old, AHeap.get_set_same, AHeap.get_set_ne]
    conv => whnf
    refine WCode.draw hm0 (by kernel_rfl) ?_
    conv => whnf
    repeat (first
      | (refine anyW_of h1 ?_; conv => whnf)
      | (refine anyW_of h2 ?_; conv => whnf)
      | (refine anyW_of h3 ?_; conv => whnf)
      | (refine anyW_of h4 ?_; conv => whnf)
      | (refine anyW_of h5 ?_; conv => whnf)
      | (refine anyW_of h6 ?_; conv => whnf)
      | (refine anyW_of rfl ?_; conv => whnf)
      | ((conv => arg 1; simp (disch := ((try simp only [AHeap.size_push, AHeap.size_set]); omega)) only [AHeap.get_new, AHeap.get_at, AHeap.get_old, AHeap.get_set_same, AHeap.get_set_ne, hB, hB']); refine rowsW_some ?_; conv => whnf)
      | (refine iteW_pos (by first | rfl | assumption | decide | omega) ?_; conv => whnf)
      | (refine iteW_neg (by first | rfl | assumption | decide | omega) ?_; conv => whnf)
      | (refine ⟨by first | exact rfl | exact Nat.le_of_ble_eq_true rfl | exact ⟨Nat.le_of_ble_eq_true rfl, rfl⟩ | exact ⟨rfl, by decide⟩ | exact ⟨rfl, rfl⟩ | decide | omega | (constructor <;> omega), ?_⟩; conv => whnf))

    refine s36 _ _ _ _ _ _ _ _ ?_ (fun x y z hb hb2 => ?_)
    · conv => whnf
      refine ⟨(fun d hd => (by cases hd)), ?_⟩
      conv => whnf
      repeat (first
        | (refine WScope.of ?_; conv => whnf)
        | (refine anyW_of h1 ?_; conv => whnf)
        | (refine anyW_of h2 ?_; conv => whnf)
        | (refine anyW_of h3 ?_; conv => whnf)
        | (refine anyW_of h4 ?_; conv => whnf)
        | (refine anyW_of h5 ?_; conv => whnf)
        | (refine anyW_of h6 ?_; conv => whnf)
        | (refine anyW_of rfl ?_; conv => whnf)
        | ((conv => arg 1; simp (disch := ((try simp only [AHeap.size_push, AHeap.size_set]); omega)) only [AHeap.get_new, AHeap.get_at, AHeap.get_old, AHeap.get_set_same, AHeap.get_set_ne, hB, hB']); refine rowsW_some ?_; conv => whnf)
        | (refine iteW_pos (by first | rfl | assumption | decide | omega) ?_; conv => whnf)
        | (refine iteW_neg (by first | rfl | assumption | decide | omega) ?_; conv => whnf)
        | (refine ⟨by first | exact rfl | exact Nat.le_of_ble_eq_true rfl | exact ⟨Nat.le_of_ble_eq_true rfl, rfl⟩ | exact ⟨rfl, by decide⟩ | exact ⟨rfl, rfl⟩ | decide | omega | (constructor <;> omega), ?_⟩; conv => whnf))

      exact fun b hb => by simp (disch := ((try simp only [AHeap.size_push, AHeap.size_set]); omega)) only [AHeap.get_new, AHeap.get_at, AHeap.get_old, AHeap.get_set_same, AHeap.get_set_ne]
    · conv => whnf
      refine ⟨(fun d hd => (by cases hd)), ?_⟩
      conv => whnf
      repeat (first
        | (refine anyW_of h1 ?_; conv => whnf)
        | (refine anyW_of h2 ?_; conv => whnf)
        | (refine anyW_of h3 ?_; conv => whnf)
        | (refine anyW_of h4 ?_; conv => whnf)
        | (refine anyW_of h5 ?_; conv => whnf)
        | (refine anyW_of h6 ?_; conv => whnf)
        | (refine anyW_of rfl ?_; conv => whnf)
        | ((conv => arg 1; simp (disch := ((try simp only [AHeap.size_push, AHeap.size_set]); omega)) only [AHeap.get_new, AHeap.get_at, AHeap.get_old, AHeap.get_set_same, AHeap.get_set_ne, hB, hB']); refine rowsW_some ?_; conv => whnf)
        | (refine iteW_pos (by first | rfl | assumption | decide | omega) ?_; conv => whnf)
        | (refine iteW_neg (by first | rfl | assumption | decide | omega) ?_; conv => whnf)
        | (refine ⟨by first | exact rfl | exact Nat.le_of_ble_eq_true rfl | exact ⟨Nat.le_of_ble_eq_true rfl, rfl⟩ | exact ⟨rfl, by decide⟩ | exact ⟨rfl, rfl⟩ | decide | omega | (constructor <;> omega), ?_⟩; conv => whnf))

      have hne : ((l : Int) != IntKind.i64.wrap (IntKind.i64.wrap n1 * 64)) = true := by
        have : IntKind.i64.wrap (IntKind.i64.wrap n1 * 64) = IntKind.i64.wrap n1 * 64 := by
          generalize IntKind.i64.wrap n1 = m at hb hb2
          simp only [IntKind.wrap, IntKind.bits, IntKind.signed]
          simp
          omega
        rw [this]
        simp only [bne_iff_ne, ne_eq]
        omega
      rw [hne]
      conv => whnf
      repeat (first
        | (refine WScope.of ?_; conv => whnf)
        | (refine anyW_of h1 ?_; conv => whnf)
        | (refine anyW_of h2 ?_; conv => whnf)
        | (refine anyW_of h3 ?_; conv => whnf)
        | (refine anyW_of h4 ?_; conv => whnf)
        | (refine anyW_of h5 ?_; conv => whnf)
        | (refine anyW_of h6 ?_; conv => whnf)
        | (refine anyW_of rfl ?_; conv => whnf)
        | ((conv => arg 1; simp (disch := ((try simp only [AHeap.size_push, AHeap.size_set]); omega)) only [AHeap.get_new, AHeap.get_at, AHeap.get_old, AHeap.get_set_same, AHeap.get_set_ne, hB, hB']); refine rowsW_some ?_; conv => whnf)
        | (refine iteW_pos (by first | rfl | assumption | decide | omega) ?_; conv => whnf)
        | (refine iteW_neg (by first | rfl | assumption | decide | omega) ?_; conv => whnf)
        | (refine ⟨by first | exact rfl | exact Nat.le_of_ble_eq_true rfl | exact ⟨Nat.le_of_ble_eq_true rfl, rfl⟩ | exact ⟨rfl, by decide⟩ | exact ⟨rfl, rfl⟩ | decide | omega | (constructor <;> omega), ?_⟩; conv => whnf))

      exact fun b hb => by simp (disch := ((try simp only [AHeap.size_push, AHeap.size_set]); omega)) only [AHeap.get_new, AHeap.get_at, AHeap.get_old, AHeap.get_set_same, AHeap.get_set_ne]
end Go.Abs.Tryz
