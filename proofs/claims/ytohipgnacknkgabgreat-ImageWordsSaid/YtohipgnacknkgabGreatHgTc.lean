/-
  A part of the proof: walks of functions of the program in the abstract machine. (Own work.)
-/
import Derived.Test.YtohipgnacknkgabGreatHgTb
set_option linter.unusedSimpArgs false
set_option linter.unusedVariables false
namespace Go.Abs.Tryz
open Go Go.Abs Go.Proofs
attribute [local irreducible] AHeap.get AHeap.set AHeap.push AHeap.size rowsW WCall WLoop WScope WCode anyW iteW WCallD objW
set_option maxRecDepth 100000
set_option maxHeartbeats 4000000

def imgCells : List Value := [.int .i64 0, .int .i64 0, .int .i64 0, .int .i64 0, .int .u64 0, .int .u64 0, .int .i64 0, .int .i64 0, .int .i64 0, .int .i64 0, .slice none 0 0, .slice none 0 0, .slice none 0 0]

theorem s6 (H : AHeap) (v : Value) (hs : ∀ K, K (.ret (.tuple #[noImg, .int .i64 230])) H → WCall Tryz.prog 5 [v] H K)
    (K : AE → AHeap → Prop) (h : ∀ b H', b = H.size → H'.size = b + 1 → H'.get b = some (.cells imgCells false 0) → (∀ x, x < b → H'.get x = H.get x) → K (.ret (.func (.func 19) #[] #[.pointer (some ⟨b, 0, none⟩)])) H') : WCall Tryz.prog 6 [v] H K := by
  refine WCall.of a6 ?_
  conv => whnf
  refine hs _ ?_
  conv => whnf
  repeat (first
    | (refine anyW_of rfl ?_; conv => whnf)
    | ((conv => arg 1; simp (disch := (first | (simp only [↓AHeap.size_push, ↓AHeap.size_set]; done) | (simp only [↓AHeap.size_push, ↓AHeap.size_set]; omega) | ((fail_if_success (simp only [↓AHeap.size_push, ↓AHeap.size_set])); omega))) only [↓AHeap.get_new, ↓AHeap.get_at, ↓AHeap.get_old, ↓AHeap.get_set_same, ↓AHeap.get_set_ne]); refine rowsW_some ?_; conv => whnf)
    | ((conv => arg 1; simp (disch := (first | (simp only [↓AHeap.size_push, ↓AHeap.size_set]; done) | (simp only [↓AHeap.size_push, ↓AHeap.size_set]; omega) | ((fail_if_success (simp only [↓AHeap.size_push, ↓AHeap.size_set])); omega))) only [↓AHeap.get_new, ↓AHeap.get_at, ↓AHeap.get_old, ↓AHeap.get_set_same, ↓AHeap.get_set_ne]); refine objW_some ?_; conv => whnf)
    | (refine iteW_pos (by first | rfl | assumption | decide | omega) ?_; conv => whnf)
    | (refine iteW_neg (by first | rfl | assumption | decide | omega) ?_; conv => whnf)
    | (refine ⟨by first | exact rfl | exact Nat.le_of_ble_eq_true rfl | exact ⟨Nat.le_of_ble_eq_true rfl, rfl⟩ | exact ⟨rfl, by decide⟩ | exact ⟨rfl, rfl⟩ | decide | omega | exact ⟨by omega, by omega⟩, ?_⟩; conv => whnf))

  refine h _ _ rfl (by simp only [AHeap.size_push, AHeap.size_set]) ?_ ?_
  · rw [AHeap.get_set_same (show H.size < _ by rw [AHeap.size_push]; omega)]
    rfl
  · exact fun b hb => by simp (disch := (first | (simp only [↓AHeap.size_push, ↓AHeap.size_set]; done) | (simp only [↓AHeap.size_push, ↓AHeap.size_set]; omega) | ((fail_if_success (simp only [↓AHeap.size_push, ↓AHeap.size_set])); omega))) only [↓AHeap.get_new, ↓AHeap.get_at, ↓AHeap.get_old, ↓AHeap.get_set_same, ↓AHeap.get_set_ne]

theorem s7 (H : AHeap) (n : Int) (K : AE → AHeap → Prop) (h : K (.ret (.int .i64 n)) H) : WCall Tryz.prog 7 [.int .i64 n] H K := by
  refine WCall.of a7 ?_
  conv => whnf
  repeat (first
    | (refine anyW_of rfl ?_; conv => whnf)
    | ((conv => arg 1; simp (disch := (first | (simp only [↓AHeap.size_push, ↓AHeap.size_set]; done) | (simp only [↓AHeap.size_push, ↓AHeap.size_set]; omega) | ((fail_if_success (simp only [↓AHeap.size_push, ↓AHeap.size_set])); omega))) only [↓AHeap.get_new, ↓AHeap.get_at, ↓AHeap.get_old, ↓AHeap.get_set_same, ↓AHeap.get_set_ne]); refine rowsW_some ?_; conv => whnf)
    | ((conv => arg 1; simp (disch := (first | (simp only [↓AHeap.size_push, ↓AHeap.size_set]; done) | (simp only [↓AHeap.size_push, ↓AHeap.size_set]; omega) | ((fail_if_success (simp only [↓AHeap.size_push, ↓AHeap.size_set])); omega))) only [↓AHeap.get_new, ↓AHeap.get_at, ↓AHeap.get_old, ↓AHeap.get_set_same, ↓AHeap.get_set_ne]); refine objW_some ?_; conv => whnf)
    | (refine iteW_pos (by first | rfl | assumption | decide | omega) ?_; conv => whnf)
    | (refine iteW_neg (by first | rfl | assumption | decide | omega) ?_; conv => whnf)
    | (refine ⟨by first | exact rfl | exact Nat.le_of_ble_eq_true rfl | exact ⟨Nat.le_of_ble_eq_true rfl, rfl⟩ | exact ⟨rfl, by decide⟩ | exact ⟨rfl, rfl⟩ | decide | omega | exact ⟨by omega, by omega⟩, ?_⟩; conv => whnf))

  exact h

theorem s19 (H : AHeap) (b : Nat) (y : Value) (hb : H.get b = some (.cells imgCells false 0)) (hlt : b < H.size) (K : AE → AHeap → Prop)
    (h : ∀ H', H.size ≤ H'.size → (∀ b, b < H.size → H'.get b = H.get b) → K (.ret (.tuple #[])) H') : WCall Tryz.prog 19 [y, .pointer (some ⟨b, 0, none⟩)] H K := by
  refine WCall.of a19 ?_
  conv => whnf
  repeat (first
    | (refine WCall.of a20 ?_; conv => whnf)
    | (refine WCall.of a21 ?_; conv => whnf)
    | (refine WScope.of ?_; conv => whnf)
    | (refine WLoop.of ?_; conv => whnf)
    | (refine anyW_of rfl ?_; conv => whnf)
    | ((conv => arg 1; simp (disch := (first | (simp only [↓AHeap.size_push, ↓AHeap.size_set]; done) | (simp only [↓AHeap.size_push, ↓AHeap.size_set]; omega) | ((fail_if_success (simp only [↓AHeap.size_push, ↓AHeap.size_set])); omega))) only [↓AHeap.get_new, ↓AHeap.get_at, ↓AHeap.get_old, ↓AHeap.get_set_same, ↓AHeap.get_set_ne, hb]); refine rowsW_some ?_; conv => whnf)
    | ((conv => arg 1; simp (disch := (first | (simp only [↓AHeap.size_push, ↓AHeap.size_set]; done) | (simp only [↓AHeap.size_push, ↓AHeap.size_set]; omega) | ((fail_if_success (simp only [↓AHeap.size_push, ↓AHeap.size_set])); omega))) only [↓AHeap.get_new, ↓AHeap.get_at, ↓AHeap.get_old, ↓AHeap.get_set_same, ↓AHeap.get_set_ne, hb]); refine objW_some ?_; conv => whnf)
    | (refine iteW_pos (by first | rfl | assumption | decide | omega) ?_; conv => whnf)
    | (refine iteW_neg (by first | rfl | assumption | decide | omega) ?_; conv => whnf)
    | (refine ⟨by first | exact rfl | exact Nat.le_of_ble_eq_true rfl | exact ⟨Nat.le_of_ble_eq_true rfl, rfl⟩ | exact ⟨rfl, by decide⟩ | exact ⟨rfl, rfl⟩ | decide | omega | exact ⟨by omega, by omega⟩, ?_⟩; conv => whnf))

  refine h _ (by simp only [AHeap.size_push, AHeap.size_set]; omega) ?_
  exact fun b hb => by simp (disch := (first | (simp only [↓AHeap.size_push, ↓AHeap.size_set]; done) | (simp only [↓AHeap.size_push, ↓AHeap.size_set]; omega) | ((fail_if_success (simp only [↓AHeap.size_push, ↓AHeap.size_set])); omega))) only [↓AHeap.get_new, ↓AHeap.get_at, ↓AHeap.get_old, ↓AHeap.get_set_same, ↓AHeap.get_set_ne]

theorem s3 (s4 : ∀ H K, K (.ret (.bool true)) H → WCall Tryz.prog 4 [] H K) (H : AHeap) (B o l c : Nat) (cs : List Value) (ro : Bool) (sz : Nat) (hB : H.get B = some (.cells cs ro sz)) (hlt : B < H.size)
    (hc : (c ≠ openCap ∧ l ≤ c) ∨ (c = openCap ∧ sz = 1)) (hol : l ≠ 0 → o + l ≤ cs.length)
    (hcs : ∀ k, k < l → ∃ n, cs[o + k]? = some (.int .u64 n))
    (K : AE → AHeap → Prop) (h : ∀ H', (∀ b, b < H.size → H'.get b = H.get b) → K (.ret (.bool true)) H') : WCall Tryz.prog 3 [.slice (some ⟨B, o, none⟩) l c] H K := by
  refine WCall.of a3 ?_
  conv => whnf
  generalize hd : decide ((l : Int) > 200) = d
  cases d
  rotate_left
  · conv => whnf
    repeat (first
      | (refine s4 _ _ ?_; conv => whnf)
      | (refine anyW_of rfl ?_; conv => whnf)
      | ((conv => arg 1; simp (disch := (first | (simp only [↓AHeap.size_push, ↓AHeap.size_set]; done) | (simp only [↓AHeap.size_push, ↓AHeap.size_set]; omega) | ((fail_if_success (simp only [↓AHeap.size_push, ↓AHeap.size_set])); omega))) only [↓AHeap.get_new, ↓AHeap.get_at, ↓AHeap.get_old, ↓AHeap.get_set_same, ↓AHeap.get_set_ne]); refine rowsW_some ?_; conv => whnf)
      | ((conv => arg 1; simp (disch := (first | (simp only [↓AHeap.size_push, ↓AHeap.size_set]; done) | (simp only [↓AHeap.size_push, ↓AHeap.size_set]; omega) | ((fail_if_success (simp only [↓AHeap.size_push, ↓AHeap.size_set])); omega))) only [↓AHeap.get_new, ↓AHeap.get_at, ↓AHeap.get_old, ↓AHeap.get_set_same, ↓AHeap.get_set_ne]); refine objW_some ?_; conv => whnf)
      | (refine iteW_pos (by first | rfl | assumption | decide | omega) ?_; conv => whnf)
      | (refine iteW_neg (by first | rfl | assumption | decide | omega) ?_; conv => whnf)
      | (refine ⟨by first | exact rfl | exact Nat.le_of_ble_eq_true rfl | exact ⟨Nat.le_of_ble_eq_true rfl, rfl⟩ | exact ⟨rfl, by decide⟩ | exact ⟨rfl, rfl⟩ | decide | omega | exact ⟨by omega, by omega⟩, ?_⟩; conv => whnf))
    exact h _ fun b hb => by simp (disch := (first | (simp only [↓AHeap.size_push, ↓AHeap.size_set]; done) | (simp only [↓AHeap.size_push, ↓AHeap.size_set]; omega) | ((fail_if_success (simp only [↓AHeap.size_push, ↓AHeap.size_set])); omega))) only [↓AHeap.get_new, ↓AHeap.get_at, ↓AHeap.get_old, ↓AHeap.get_set_same, ↓AHeap.get_set_ne]
  conv => whnf
  repeat (first
    | (refine s4 _ _ ?_; conv => whnf)
    | (refine anyW_of rfl ?_; conv => whnf)
    | ((conv => arg 1; simp (disch := (first | (simp only [↓AHeap.size_push, ↓AHeap.size_set]; done) | (simp only [↓AHeap.size_push, ↓AHeap.size_set]; omega) | ((fail_if_success (simp only [↓AHeap.size_push, ↓AHeap.size_set])); omega))) only [↓AHeap.get_new, ↓AHeap.get_at, ↓AHeap.get_old, ↓AHeap.get_set_same, ↓AHeap.get_set_ne, hB]); refine rowsW_some ?_; conv => whnf)
    | ((conv => arg 1; simp (disch := (first | (simp only [↓AHeap.size_push, ↓AHeap.size_set]; done) | (simp only [↓AHeap.size_push, ↓AHeap.size_set]; omega) | ((fail_if_success (simp only [↓AHeap.size_push, ↓AHeap.size_set])); omega))) only [↓AHeap.get_new, ↓AHeap.get_at, ↓AHeap.get_old, ↓AHeap.get_set_same, ↓AHeap.get_set_ne, hB]); refine objW_some ?_; conv => whnf)
    | (refine iteW_pos (by first | rfl | assumption | decide | omega) ?_; conv => whnf)
    | (refine iteW_neg (by first | rfl | assumption | decide | omega) ?_; conv => whnf)
    | (refine ⟨by first | exact rfl | exact Nat.le_of_ble_eq_true rfl | exact ⟨Nat.le_of_ble_eq_true rfl, rfl⟩ | exact ⟨rfl, by decide⟩ | exact ⟨rfl, rfl⟩ | decide | omega | exact ⟨by omega, by omega⟩, ?_⟩; conv => whnf))

  refine iteW_of (fun h0 => ?_) (fun h0 => ?_)
  · conv => whnf
    repeat (first
      | (refine anyW_of rfl ?_; conv => whnf)
      | ((conv => arg 1; simp (disch := (first | (simp only [↓AHeap.size_push, ↓AHeap.size_set]; done) | (simp only [↓AHeap.size_push, ↓AHeap.size_set]; omega) | ((fail_if_success (simp only [↓AHeap.size_push, ↓AHeap.size_set])); omega))) only [↓AHeap.get_new, ↓AHeap.get_at, ↓AHeap.get_old, ↓AHeap.get_set_same, ↓AHeap.get_set_ne, hB]); refine rowsW_some ?_; conv => whnf)
      | ((conv => arg 1; simp (disch := (first | (simp only [↓AHeap.size_push, ↓AHeap.size_set]; done) | (simp only [↓AHeap.size_push, ↓AHeap.size_set]; omega) | ((fail_if_success (simp only [↓AHeap.size_push, ↓AHeap.size_set])); omega))) only [↓AHeap.get_new, ↓AHeap.get_at, ↓AHeap.get_old, ↓AHeap.get_set_same, ↓AHeap.get_set_ne, hB]); refine objW_some ?_; conv => whnf)
      | (refine iteW_pos (by first | rfl | assumption | decide | omega) ?_; conv => whnf)
      | (refine iteW_neg (by first | rfl | assumption | decide | omega) ?_; conv => whnf)
      | (refine ⟨by first | exact rfl | exact Nat.le_of_ble_eq_true rfl | exact ⟨Nat.le_of_ble_eq_true rfl, rfl⟩ | exact ⟨rfl, by decide⟩ | exact ⟨rfl, rfl⟩ | decide | omega | exact ⟨by omega, by omega⟩, ?_⟩; conv => whnf))

    refine s5 _ _ (fun o1 o2 K hK => s14a _ _ _ _ (by decide) _ hK) _ ?_
    conv => whnf
    repeat (first
      | (refine anyW_of rfl ?_; conv => whnf)
      | ((conv => arg 1; simp (disch := (first | (simp only [↓AHeap.size_push, ↓AHeap.size_set]; done) | (simp only [↓AHeap.size_push, ↓AHeap.size_set]; omega) | ((fail_if_success (simp only [↓AHeap.size_push, ↓AHeap.size_set])); omega))) only [↓AHeap.get_new, ↓AHeap.get_at, ↓AHeap.get_old, ↓AHeap.get_set_same, ↓AHeap.get_set_ne, hB]); refine rowsW_some ?_; conv => whnf)
      | ((conv => arg 1; simp (disch := (first | (simp only [↓AHeap.size_push, ↓AHeap.size_set]; done) | (simp only [↓AHeap.size_push, ↓AHeap.size_set]; omega) | ((fail_if_success (simp only [↓AHeap.size_push, ↓AHeap.size_set])); omega))) only [↓AHeap.get_new, ↓AHeap.get_at, ↓AHeap.get_old, ↓AHeap.get_set_same, ↓AHeap.get_set_ne, hB]); refine objW_some ?_; conv => whnf)
      | (refine iteW_pos (by first | rfl | assumption | decide | omega) ?_; conv => whnf)
      | (refine iteW_neg (by first | rfl | assumption | decide | omega) ?_; conv => whnf)
      | (refine ⟨by first | exact rfl | exact Nat.le_of_ble_eq_true rfl | exact ⟨Nat.le_of_ble_eq_true rfl, rfl⟩ | exact ⟨rfl, by decide⟩ | exact ⟨rfl, rfl⟩ | decide | omega | exact ⟨by omega, by omega⟩, ?_⟩; conv => whnf))

    refine s6 _ _ (fun K hK => s5 _ _ (fun o1 o2 K hK => s14a _ _ _ _ (by omega) _ hK) _ hK) _ (fun b H1 e1 z1 g1 k1 => ?_)
    conv => whnf
    repeat (first
      | (refine anyW_of rfl ?_; conv => whnf)
      | ((conv => arg 1; simp (disch := (first | (simp only [↓AHeap.size_push, ↓AHeap.size_set]; done) | (simp only [↓AHeap.size_push, ↓AHeap.size_set]; omega) | ((fail_if_success (simp only [↓AHeap.size_push, ↓AHeap.size_set])); omega))) only [↓AHeap.get_new, ↓AHeap.get_at, ↓AHeap.get_old, ↓AHeap.get_set_same, ↓AHeap.get_set_ne, hB]); refine rowsW_some ?_; conv => whnf)
      | ((conv => arg 1; simp (disch := (first | (simp only [↓AHeap.size_push, ↓AHeap.size_set]; done) | (simp only [↓AHeap.size_push, ↓AHeap.size_set]; omega) | ((fail_if_success (simp only [↓AHeap.size_push, ↓AHeap.size_set])); omega))) only [↓AHeap.get_new, ↓AHeap.get_at, ↓AHeap.get_old, ↓AHeap.get_set_same, ↓AHeap.get_set_ne, hB]); refine objW_some ?_; conv => whnf)
      | (refine iteW_pos (by first | rfl | assumption | decide | omega) ?_; conv => whnf)
      | (refine iteW_neg (by first | rfl | assumption | decide | omega) ?_; conv => whnf)
      | (refine ⟨by first | exact rfl | exact Nat.le_of_ble_eq_true rfl | exact ⟨Nat.le_of_ble_eq_true rfl, rfl⟩ | exact ⟨rfl, by decide⟩ | exact ⟨rfl, rfl⟩ | decide | omega | exact ⟨by omega, by omega⟩, ?_⟩; conv => whnf))

    simp only [AHeap.size_push, AHeap.size_set] at e1
    refine s19 _ _ _ ?_ ?_ _ (fun H2 z2 k2 => ?_)
    · rw [AHeap.get_old (by simp only [AHeap.size_push]; omega), AHeap.get_old (by omega)]
      exact g1
    · simp only [AHeap.size_push]; omega
    simp only [AHeap.size_push] at z2
    conv => whnf
    repeat (first
      | (refine s7 _ _ _ ?_; conv => whnf)
      | (refine s4 _ _ ?_; conv => whnf)
      | (refine anyW_of rfl ?_; conv => whnf)
      | ((conv => arg 1; simp (disch := (first | (simp only [↓AHeap.size_push, ↓AHeap.size_set]; done) | (simp only [↓AHeap.size_push, ↓AHeap.size_set]; omega) | ((fail_if_success (simp only [↓AHeap.size_push, ↓AHeap.size_set])); omega))) only [↓AHeap.get_new, ↓AHeap.get_at, ↓AHeap.get_old, ↓AHeap.get_set_same, ↓AHeap.get_set_ne, ↓k2, ↓k1]); refine rowsW_some ?_; conv => whnf)
      | ((conv => arg 1; simp (disch := (first | (simp only [↓AHeap.size_push, ↓AHeap.size_set]; done) | (simp only [↓AHeap.size_push, ↓AHeap.size_set]; omega) | ((fail_if_success (simp only [↓AHeap.size_push, ↓AHeap.size_set])); omega))) only [↓AHeap.get_new, ↓AHeap.get_at, ↓AHeap.get_old, ↓AHeap.get_set_same, ↓AHeap.get_set_ne, ↓k2, ↓k1]); refine objW_some ?_; conv => whnf)
      | (refine iteW_pos (by first | rfl | assumption | decide | omega) ?_; conv => whnf)
      | (refine iteW_neg (by first | rfl | assumption | decide | omega) ?_; conv => whnf)
      | (refine ⟨by first | exact rfl | exact Nat.le_of_ble_eq_true rfl | exact ⟨Nat.le_of_ble_eq_true rfl, rfl⟩ | exact ⟨rfl, by decide⟩ | exact ⟨rfl, rfl⟩ | decide | omega | exact ⟨by omega, by omega⟩, ?_⟩; conv => whnf))

    exact h _ fun b hb => by simp (disch := (first | (simp only [↓AHeap.size_push, ↓AHeap.size_set]; done) | (simp only [↓AHeap.size_push, ↓AHeap.size_set]; omega) | ((fail_if_success (simp only [↓AHeap.size_push, ↓AHeap.size_set])); omega))) only [↓AHeap.get_new, ↓AHeap.get_at, ↓AHeap.get_old, ↓AHeap.get_set_same, ↓AHeap.get_set_ne, ↓k2, ↓k1]
  · conv => whnf
    repeat (first
      | (refine anyW_of rfl ?_; conv => whnf)
      | ((conv => arg 1; simp (disch := (first | (simp only [↓AHeap.size_push, ↓AHeap.size_set]; done) | (simp only [↓AHeap.size_push, ↓AHeap.size_set]; omega) | ((fail_if_success (simp only [↓AHeap.size_push, ↓AHeap.size_set])); omega))) only [↓AHeap.get_new, ↓AHeap.get_at, ↓AHeap.get_old, ↓AHeap.get_set_same, ↓AHeap.get_set_ne, hB]); refine rowsW_some ?_; conv => whnf)
      | ((conv => arg 1; simp (disch := (first | (simp only [↓AHeap.size_push, ↓AHeap.size_set]; done) | (simp only [↓AHeap.size_push, ↓AHeap.size_set]; omega) | ((fail_if_success (simp only [↓AHeap.size_push, ↓AHeap.size_set])); omega))) only [↓AHeap.get_new, ↓AHeap.get_at, ↓AHeap.get_old, ↓AHeap.get_set_same, ↓AHeap.get_set_ne, hB]); refine objW_some ?_; conv => whnf)
      | (refine iteW_pos (by first | rfl | assumption | decide | omega) ?_; conv => whnf)
      | (refine iteW_neg (by first | rfl | assumption | decide | omega) ?_; conv => whnf)
      | (refine ⟨by first | exact rfl | exact Nat.le_of_ble_eq_true rfl | exact ⟨Nat.le_of_ble_eq_true rfl, rfl⟩ | exact ⟨rfl, by decide⟩ | exact ⟨rfl, rfl⟩ | decide | omega | exact ⟨by omega, by omega⟩, ?_⟩; conv => whnf))

    refine ⟨by simpa using hol h0, ?_⟩
    conv => whnf
    refine forceL_skip ?_
    conv => whnf
    repeat (first
      | (refine anyW_of rfl ?_; conv => whnf)
      | ((conv => arg 1; simp (disch := (first | (simp only [↓AHeap.size_push, ↓AHeap.size_set]; done) | (simp only [↓AHeap.size_push, ↓AHeap.size_set]; omega) | ((fail_if_success (simp only [↓AHeap.size_push, ↓AHeap.size_set])); omega))) only [↓AHeap.get_new, ↓AHeap.get_at, ↓AHeap.get_old, ↓AHeap.get_set_same, ↓AHeap.get_set_ne, hB]); refine rowsW_some ?_; conv => whnf)
      | ((conv => arg 1; simp (disch := (first | (simp only [↓AHeap.size_push, ↓AHeap.size_set]; done) | (simp only [↓AHeap.size_push, ↓AHeap.size_set]; omega) | ((fail_if_success (simp only [↓AHeap.size_push, ↓AHeap.size_set])); omega))) only [↓AHeap.get_new, ↓AHeap.get_at, ↓AHeap.get_old, ↓AHeap.get_set_same, ↓AHeap.get_set_ne, hB]); refine objW_some ?_; conv => whnf)
      | (refine iteW_pos (by first | rfl | assumption | decide | omega) ?_; conv => whnf)
      | (refine iteW_neg (by first | rfl | assumption | decide | omega) ?_; conv => whnf)
      | (refine ⟨by first | exact rfl | exact Nat.le_of_ble_eq_true rfl | exact ⟨Nat.le_of_ble_eq_true rfl, rfl⟩ | exact ⟨rfl, by decide⟩ | exact ⟨rfl, rfl⟩ | decide | omega | exact ⟨by omega, by omega⟩, ?_⟩; conv => whnf))

    refine ⟨by unfold mem; simp at hd; omega, ?_⟩
    conv => whnf
    repeat (first
      | (refine anyW_of rfl ?_; conv => whnf)
      | ((conv => arg 1; simp (disch := (first | (simp only [↓AHeap.size_push, ↓AHeap.size_set]; done) | (simp only [↓AHeap.size_push, ↓AHeap.size_set]; omega) | ((fail_if_success (simp only [↓AHeap.size_push, ↓AHeap.size_set])); omega))) only [↓AHeap.get_new, ↓AHeap.get_at, ↓AHeap.get_old, ↓AHeap.get_set_same, ↓AHeap.get_set_ne, hB]); refine rowsW_some ?_; conv => whnf)
      | ((conv => arg 1; simp (disch := (first | (simp only [↓AHeap.size_push, ↓AHeap.size_set]; done) | (simp only [↓AHeap.size_push, ↓AHeap.size_set]; omega) | ((fail_if_success (simp only [↓AHeap.size_push, ↓AHeap.size_set])); omega))) only [↓AHeap.get_new, ↓AHeap.get_at, ↓AHeap.get_old, ↓AHeap.get_set_same, ↓AHeap.get_set_ne, hB]); refine objW_some ?_; conv => whnf)
      | (refine iteW_pos (by first | rfl | assumption | decide | omega) ?_; conv => whnf)
      | (refine iteW_neg (by first | rfl | assumption | decide | omega) ?_; conv => whnf)
      | (refine ⟨by first | exact rfl | exact Nat.le_of_ble_eq_true rfl | exact ⟨Nat.le_of_ble_eq_true rfl, rfl⟩ | exact ⟨rfl, by decide⟩ | exact ⟨rfl, rfl⟩ | decide | omega | exact ⟨by omega, by omega⟩, ?_⟩; conv => whnf))

    have hl2 : l ≤ 200 := by simp at hd; omega
    refine s5 _ _ (fun o1 o2 K hK => s14 _ _ 0 (0 + l) openCap ([] ++ List.take (l * 1) (List.drop o cs)) false 1 ?_ ?_ (by omega) (.inr ⟨rfl, rfl⟩) ?_ _ hK) _ ?_
    · rw [AHeap.get_old (by simp only [AHeap.size_push]; omega), AHeap.get_old (by simp only [AHeap.size_push]; omega), AHeap.get_new]
    · simp only [AHeap.size_push]; omega
    · intro k hk
      obtain ⟨n, hn⟩ := hcs k (by omega)
      refine ⟨n, ?_⟩
      simp only [List.nil_append, Nat.zero_add, Nat.mul_one]
      rw [List.getElem?_take, if_pos (by omega), List.getElem?_drop]
      exact hn
    conv => whnf
    repeat (first
      | (refine anyW_of rfl ?_; conv => whnf)
      | ((conv => arg 1; simp (disch := (first | (simp only [↓AHeap.size_push, ↓AHeap.size_set]; done) | (simp only [↓AHeap.size_push, ↓AHeap.size_set]; omega) | ((fail_if_success (simp only [↓AHeap.size_push, ↓AHeap.size_set])); omega))) only [↓AHeap.get_new, ↓AHeap.get_at, ↓AHeap.get_old, ↓AHeap.get_set_same, ↓AHeap.get_set_ne, hB]); refine rowsW_some ?_; conv => whnf)
      | ((conv => arg 1; simp (disch := (first | (simp only [↓AHeap.size_push, ↓AHeap.size_set]; done) | (simp only [↓AHeap.size_push, ↓AHeap.size_set]; omega) | ((fail_if_success (simp only [↓AHeap.size_push, ↓AHeap.size_set])); omega))) only [↓AHeap.get_new, ↓AHeap.get_at, ↓AHeap.get_old, ↓AHeap.get_set_same, ↓AHeap.get_set_ne, hB]); refine objW_some ?_; conv => whnf)
      | (refine iteW_pos (by first | rfl | assumption | decide | omega) ?_; conv => whnf)
      | (refine iteW_neg (by first | rfl | assumption | decide | omega) ?_; conv => whnf)
      | (refine ⟨by first | exact rfl | exact Nat.le_of_ble_eq_true rfl | exact ⟨Nat.le_of_ble_eq_true rfl, rfl⟩ | exact ⟨rfl, by decide⟩ | exact ⟨rfl, rfl⟩ | decide | omega | exact ⟨by omega, by omega⟩, ?_⟩; conv => whnf))

    refine s6 _ _ (fun K hK => s5 _ _ (fun o1 o2 K hK => s14 _ B o l c cs ro sz ?_ ?_ hl2 hc hcs _ hK) _ hK) _ (fun b H1 e1 z1 g1 k1 => ?_)
    · simp (disch := (first | (simp only [↓AHeap.size_push, ↓AHeap.size_set]; done) | (simp only [↓AHeap.size_push, ↓AHeap.size_set]; omega) | ((fail_if_success (simp only [↓AHeap.size_push, ↓AHeap.size_set])); omega))) only [↓AHeap.get_new, ↓AHeap.get_at, ↓AHeap.get_old, ↓AHeap.get_set_same, ↓AHeap.get_set_ne, hB]
    · simp only [AHeap.size_push, AHeap.size_set]; omega
    conv => whnf
    repeat (first
      | (refine anyW_of rfl ?_; conv => whnf)
      | ((conv => arg 1; simp (disch := (first | (simp only [↓AHeap.size_push, ↓AHeap.size_set]; done) | (simp only [↓AHeap.size_push, ↓AHeap.size_set]; omega) | ((fail_if_success (simp only [↓AHeap.size_push, ↓AHeap.size_set])); omega))) only [↓AHeap.get_new, ↓AHeap.get_at, ↓AHeap.get_old, ↓AHeap.get_set_same, ↓AHeap.get_set_ne, hB]); refine rowsW_some ?_; conv => whnf)
      | ((conv => arg 1; simp (disch := (first | (simp only [↓AHeap.size_push, ↓AHeap.size_set]; done) | (simp only [↓AHeap.size_push, ↓AHeap.size_set]; omega) | ((fail_if_success (simp only [↓AHeap.size_push, ↓AHeap.size_set])); omega))) only [↓AHeap.get_new, ↓AHeap.get_at, ↓AHeap.get_old, ↓AHeap.get_set_same, ↓AHeap.get_set_ne, hB]); refine objW_some ?_; conv => whnf)
      | (refine iteW_pos (by first | rfl | assumption | decide | omega) ?_; conv => whnf)
      | (refine iteW_neg (by first | rfl | assumption | decide | omega) ?_; conv => whnf)
      | (refine ⟨by first | exact rfl | exact Nat.le_of_ble_eq_true rfl | exact ⟨Nat.le_of_ble_eq_true rfl, rfl⟩ | exact ⟨rfl, by decide⟩ | exact ⟨rfl, rfl⟩ | decide | omega | exact ⟨by omega, by omega⟩, ?_⟩; conv => whnf))

    simp only [AHeap.size_push, AHeap.size_set] at e1
    refine s19 _ _ _ ?_ ?_ _ (fun H2 z2 k2 => ?_)
    · rw [AHeap.get_old (by simp only [AHeap.size_push]; omega), AHeap.get_old (by omega)]
      exact g1
    · simp only [AHeap.size_push]; omega
    simp only [AHeap.size_push] at z2
    conv => whnf
    repeat (first
      | (refine s7 _ _ _ ?_; conv => whnf)
      | (refine s4 _ _ ?_; conv => whnf)
      | (refine anyW_of rfl ?_; conv => whnf)
      | ((conv => arg 1; simp (disch := (first | (simp only [↓AHeap.size_push, ↓AHeap.size_set]; done) | (simp only [↓AHeap.size_push, ↓AHeap.size_set]; omega) | ((fail_if_success (simp only [↓AHeap.size_push, ↓AHeap.size_set])); omega))) only [↓AHeap.get_new, ↓AHeap.get_at, ↓AHeap.get_old, ↓AHeap.get_set_same, ↓AHeap.get_set_ne, ↓k2, ↓k1]); refine rowsW_some ?_; conv => whnf)
      | ((conv => arg 1; simp (disch := (first | (simp only [↓AHeap.size_push, ↓AHeap.size_set]; done) | (simp only [↓AHeap.size_push, ↓AHeap.size_set]; omega) | ((fail_if_success (simp only [↓AHeap.size_push, ↓AHeap.size_set])); omega))) only [↓AHeap.get_new, ↓AHeap.get_at, ↓AHeap.get_old, ↓AHeap.get_set_same, ↓AHeap.get_set_ne, ↓k2, ↓k1]); refine objW_some ?_; conv => whnf)
      | (refine iteW_pos (by first | rfl | assumption | decide | omega) ?_; conv => whnf)
      | (refine iteW_neg (by first | rfl | assumption | decide | omega) ?_; conv => whnf)
      | (refine ⟨by first | exact rfl | exact Nat.le_of_ble_eq_true rfl | exact ⟨Nat.le_of_ble_eq_true rfl, rfl⟩ | exact ⟨rfl, by decide⟩ | exact ⟨rfl, rfl⟩ | decide | omega | exact ⟨by omega, by omega⟩, ?_⟩; conv => whnf))

    exact h _ fun b hb => by simp (disch := (first | (simp only [↓AHeap.size_push, ↓AHeap.size_set]; done) | (simp only [↓AHeap.size_push, ↓AHeap.size_set]; omega) | ((fail_if_success (simp only [↓AHeap.size_push, ↓AHeap.size_set])); omega))) only [↓AHeap.get_new, ↓AHeap.get_at, ↓AHeap.get_old, ↓AHeap.get_set_same, ↓AHeap.get_set_ne, ↓k2, ↓k1]

theorem s3n (s4 : ∀ H K, K (.ret (.bool true)) H → WCall Tryz.prog 4 [] H K) (H : AHeap) 
    (K : AE → AHeap → Prop) (h : ∀ H', (∀ b, b < H.size → H'.get b = H.get b) → K (.ret (.bool true)) H') : WCall Tryz.prog 3 [.slice none 0 0] H K := by
  refine WCall.of a3 ?_
  conv => whnf
  repeat (first
    | (refine s4 _ _ ?_; conv => whnf)
    | (refine anyW_of rfl ?_; conv => whnf)
    | ((conv => arg 1; simp (disch := (first | (simp only [↓AHeap.size_push, ↓AHeap.size_set]; done) | (simp only [↓AHeap.size_push, ↓AHeap.size_set]; omega) | ((fail_if_success (simp only [↓AHeap.size_push, ↓AHeap.size_set])); omega))) only [↓AHeap.get_new, ↓AHeap.get_at, ↓AHeap.get_old, ↓AHeap.get_set_same, ↓AHeap.get_set_ne]); refine rowsW_some ?_; conv => whnf)
    | ((conv => arg 1; simp (disch := (first | (simp only [↓AHeap.size_push, ↓AHeap.size_set]; done) | (simp only [↓AHeap.size_push, ↓AHeap.size_set]; omega) | ((fail_if_success (simp only [↓AHeap.size_push, ↓AHeap.size_set])); omega))) only [↓AHeap.get_new, ↓AHeap.get_at, ↓AHeap.get_old, ↓AHeap.get_set_same, ↓AHeap.get_set_ne]); refine objW_some ?_; conv => whnf)
    | (refine iteW_pos (by first | rfl | assumption | decide | omega) ?_; conv => whnf)
    | (refine iteW_neg (by first | rfl | assumption | decide | omega) ?_; conv => whnf)
    | (refine ⟨by first | exact rfl | exact Nat.le_of_ble_eq_true rfl | exact ⟨Nat.le_of_ble_eq_true rfl, rfl⟩ | exact ⟨rfl, by decide⟩ | exact ⟨rfl, rfl⟩ | decide | omega | exact ⟨by omega, by omega⟩, ?_⟩; conv => whnf))

  refine s5 _ _ (fun o1 o2 K hK => s14a _ _ _ _ (by decide) _ hK) _ ?_
  conv => whnf
  repeat (first
    | (refine anyW_of rfl ?_; conv => whnf)
    | ((conv => arg 1; simp (disch := (first | (simp only [↓AHeap.size_push, ↓AHeap.size_set]; done) | (simp only [↓AHeap.size_push, ↓AHeap.size_set]; omega) | ((fail_if_success (simp only [↓AHeap.size_push, ↓AHeap.size_set])); omega))) only [↓AHeap.get_new, ↓AHeap.get_at, ↓AHeap.get_old, ↓AHeap.get_set_same, ↓AHeap.get_set_ne]); refine rowsW_some ?_; conv => whnf)
    | ((conv => arg 1; simp (disch := (first | (simp only [↓AHeap.size_push, ↓AHeap.size_set]; done) | (simp only [↓AHeap.size_push, ↓AHeap.size_set]; omega) | ((fail_if_success (simp only [↓AHeap.size_push, ↓AHeap.size_set])); omega))) only [↓AHeap.get_new, ↓AHeap.get_at, ↓AHeap.get_old, ↓AHeap.get_set_same, ↓AHeap.get_set_ne]); refine objW_some ?_; conv => whnf)
    | (refine iteW_pos (by first | rfl | assumption | decide | omega) ?_; conv => whnf)
    | (refine iteW_neg (by first | rfl | assumption | decide | omega) ?_; conv => whnf)
    | (refine ⟨by first | exact rfl | exact Nat.le_of_ble_eq_true rfl | exact ⟨Nat.le_of_ble_eq_true rfl, rfl⟩ | exact ⟨rfl, by decide⟩ | exact ⟨rfl, rfl⟩ | decide | omega | exact ⟨by omega, by omega⟩, ?_⟩; conv => whnf))

  refine s6 _ _ (fun K hK => s5 _ _ (fun o1 o2 K hK => s14a _ _ _ _ (by decide) _ hK) _ hK) _ (fun b H1 e1 z1 g1 k1 => ?_)
  conv => whnf
  repeat (first
    | (refine anyW_of rfl ?_; conv => whnf)
    | ((conv => arg 1; simp (disch := (first | (simp only [↓AHeap.size_push, ↓AHeap.size_set]; done) | (simp only [↓AHeap.size_push, ↓AHeap.size_set]; omega) | ((fail_if_success (simp only [↓AHeap.size_push, ↓AHeap.size_set])); omega))) only [↓AHeap.get_new, ↓AHeap.get_at, ↓AHeap.get_old, ↓AHeap.get_set_same, ↓AHeap.get_set_ne]); refine rowsW_some ?_; conv => whnf)
    | ((conv => arg 1; simp (disch := (first | (simp only [↓AHeap.size_push, ↓AHeap.size_set]; done) | (simp only [↓AHeap.size_push, ↓AHeap.size_set]; omega) | ((fail_if_success (simp only [↓AHeap.size_push, ↓AHeap.size_set])); omega))) only [↓AHeap.get_new, ↓AHeap.get_at, ↓AHeap.get_old, ↓AHeap.get_set_same, ↓AHeap.get_set_ne]); refine objW_some ?_; conv => whnf)
    | (refine iteW_pos (by first | rfl | assumption | decide | omega) ?_; conv => whnf)
    | (refine iteW_neg (by first | rfl | assumption | decide | omega) ?_; conv => whnf)
    | (refine ⟨by first | exact rfl | exact Nat.le_of_ble_eq_true rfl | exact ⟨Nat.le_of_ble_eq_true rfl, rfl⟩ | exact ⟨rfl, by decide⟩ | exact ⟨rfl, rfl⟩ | decide | omega | exact ⟨by omega, by omega⟩, ?_⟩; conv => whnf))

  simp only [AHeap.size_push, AHeap.size_set] at e1
  refine s19 _ _ _ ?_ ?_ _ (fun H2 z2 k2 => ?_)
  · rw [AHeap.get_old (by simp only [AHeap.size_push]; omega), AHeap.get_old (by omega)]
    exact g1
  · simp only [AHeap.size_push]; omega
  simp only [AHeap.size_push] at z2
  conv => whnf
  repeat (first
    | (refine s7 _ _ _ ?_; conv => whnf)
    | (refine s4 _ _ ?_; conv => whnf)
    | (refine anyW_of rfl ?_; conv => whnf)
    | ((conv => arg 1; simp (disch := (first | (simp only [↓AHeap.size_push, ↓AHeap.size_set]; done) | (simp only [↓AHeap.size_push, ↓AHeap.size_set]; omega) | ((fail_if_success (simp only [↓AHeap.size_push, ↓AHeap.size_set])); omega))) only [↓AHeap.get_new, ↓AHeap.get_at, ↓AHeap.get_old, ↓AHeap.get_set_same, ↓AHeap.get_set_ne, ↓k2, ↓k1]); refine rowsW_some ?_; conv => whnf)
    | ((conv => arg 1; simp (disch := (first | (simp only [↓AHeap.size_push, ↓AHeap.size_set]; done) | (simp only [↓AHeap.size_push, ↓AHeap.size_set]; omega) | ((fail_if_success (simp only [↓AHeap.size_push, ↓AHeap.size_set])); omega))) only [↓AHeap.get_new, ↓AHeap.get_at, ↓AHeap.get_old, ↓AHeap.get_set_same, ↓AHeap.get_set_ne, ↓k2, ↓k1]); refine objW_some ?_; conv => whnf)
    | (refine iteW_pos (by first | rfl | assumption | decide | omega) ?_; conv => whnf)
    | (refine iteW_neg (by first | rfl | assumption | decide | omega) ?_; conv => whnf)
    | (refine ⟨by first | exact rfl | exact Nat.le_of_ble_eq_true rfl | exact ⟨Nat.le_of_ble_eq_true rfl, rfl⟩ | exact ⟨rfl, by decide⟩ | exact ⟨rfl, rfl⟩ | decide | omega | exact ⟨by omega, by omega⟩, ?_⟩; conv => whnf))

  exact h _ fun b hb => by simp (disch := (first | (simp only [↓AHeap.size_push, ↓AHeap.size_set]; done) | (simp only [↓AHeap.size_push, ↓AHeap.size_set]; omega) | ((fail_if_success (simp only [↓AHeap.size_push, ↓AHeap.size_set])); omega))) only [↓AHeap.get_new, ↓AHeap.get_at, ↓AHeap.get_old, ↓AHeap.get_set_same, ↓AHeap.get_set_ne, ↓k2, ↓k1]

end Go.Abs.Tryz
