/-
  A part of the proof: walks of functions of the program in the abstract machine. (Own work.)
-/
import Derived.Test.YtohipgnacknkgabGreatHgFa
import Derived.Test.YtohipgnacknkgabGreatHgFb
import Derived.Test.YtohipgnacknkgabGreatHgXh
set_option linter.unusedSimpArgs false
set_option linter.unusedVariables false
namespace Go.Abs.Tryz
open Go Go.Abs Go.Proofs
attribute [local irreducible] AHeap.get AHeap.set AHeap.push AHeap.size rowsW WCall WLoop WScope WCode
set_option maxRecDepth 100000

theorem s74 (H : AHeap) (n l m : Int) (K : AE → AHeap → Prop) (h : K (.ret (.bool (decide (l ≤ n) && decide (n ≤ m)))) H) : WCall Tryz.prog 74 [.int .i64 n, .int .i64 l, .int .i64 m] H K := by
  refine WCall.of a74 ?_
  conv => whnf
  generalize hc : decide (l ≤ n) = c at *
  cases c
  · conv => whnf
    exact h
  · conv => whnf
    exact h

theorem s35 (H : AHeap) (n l m : Int) (K : AE → AHeap → Prop) (h : K (.ret (.bool (decide (l ≤ n) && decide (n ≤ m)))) H) : WCall Tryz.prog 35 [.int .u64 n, .int .u64 l, .int .u64 m] H K := by
  refine WCall.of a35 ?_
  conv => whnf
  generalize hc : decide (l ≤ n) = c at *
  cases c
  · conv => whnf
    exact h
  · conv => whnf
    exact h
theorem s36 (H : AHeap) (b i r bits k0 k1 : Int) (K : AE → AHeap → Prop)
    (h2 : K (.ret (.tuple #[.agg #[.int .i64 0, .int .i64 0, .int .i64 0, .int .i64 0, .int .u64 0, .int .u64 0, .int .i64 0, .int .i64 0, .int .i64 0, .int .i64 0], .int .i64 2])) H)
    (h0 : ∀ x y z, 32 ≤ b → b ≤ 2048 → K (.ret (.tuple #[.agg #[.int .i64 b, .int .i64 i, .int .i64 r, .int .i64 bits, .int .u64 k0, .int .u64 k1, .int .i64 9, .int .i64 x, .int .i64 y, .int .i64 z], .int .i64 0])) H) :
    WCall Tryz.prog 36 [.agg #[.int .i64 b, .int .i64 i, .int .i64 r, .int .i64 bits], .agg #[.int .u64 k0, .int .u64 k1]] H K := by
  refine WCall.pureP (fun q => q = (.ret (.tuple #[.agg #[.int .i64 0, .int .i64 0, .int .i64 0, .int .i64 0, .int .u64 0, .int .u64 0, .int .i64 0, .int .i64 0, .int .i64 0, .int .i64 0], .int .i64 2])) ∨
    ∃ x y z, 32 ≤ b ∧ b ≤ 2048 ∧ q = (.ret (.tuple #[.agg #[.int .i64 b, .int .i64 i, .int .i64 r, .int .i64 bits, .int .u64 k0, .int .u64 k1, .int .i64 9, .int .i64 x, .int .i64 y, .int .i64 z], .int .i64 0]))) ?_ (by
      rintro q (rfl | ⟨x, y, z, hb, hb', rfl⟩)
      · exact h2
      · exact h0 x y z hb hb')
  refine WCall.of a36 ?_
  conv => whnf
  refine WScope.of ?_
  conv => whnf
  repeat (first
    | (refine s74 _ _ _ _ _ ?_; conv => whnf)
    | (refine WScope.of ?_; conv => whnf)
    | ((conv => arg 1; simp (disch := ((try simp only [AHeap.size_push, AHeap.size_set]); omega)) only [AHeap.get_new, AHeap.get_at, AHeap.get_old, AHeap.get_set_same, AHeap.get_set_ne]); refine rowsW_some ?_; conv => whnf)
    | (refine ⟨by first | exact rfl | exact Nat.le_of_ble_eq_true rfl | exact ⟨Nat.le_of_ble_eq_true rfl, rfl⟩ | exact ⟨rfl, by decide⟩ | decide, ?_⟩; conv => whnf))
  generalize hc0 : (!(decide (32 ≤ b) && decide (b ≤ 2048))) = c0
  cases c0
  rotate_left
  · conv => whnf
    repeat (first
      | (refine s74 _ _ _ _ _ ?_; conv => whnf)
      | (refine WScope.of ?_; conv => whnf)
      | ((conv => arg 1; simp (disch := ((try simp only [AHeap.size_push, AHeap.size_set]); omega)) only [AHeap.get_new, AHeap.get_at, AHeap.get_old, AHeap.get_set_same, AHeap.get_set_ne]); refine rowsW_some ?_; conv => whnf)
      | (refine ⟨by first | exact rfl | exact Nat.le_of_ble_eq_true rfl | exact ⟨Nat.le_of_ble_eq_true rfl, rfl⟩ | exact ⟨rfl, by decide⟩ | decide, ?_⟩; conv => whnf))
    exact ⟨⟨.inl rfl, rfl⟩, fun b hb => by simp (disch := ((try simp only [AHeap.size_push, AHeap.size_set]); omega)) only [AHeap.get_new, AHeap.get_at, AHeap.get_old, AHeap.get_set_same, AHeap.get_set_ne]⟩
  conv => whnf
  repeat (first
    | (refine s74 _ _ _ _ _ ?_; conv => whnf)
    | (refine WScope.of ?_; conv => whnf)
    | ((conv => arg 1; simp (disch := ((try simp only [AHeap.size_push, AHeap.size_set]); omega)) only [AHeap.get_new, AHeap.get_at, AHeap.get_old, AHeap.get_set_same, AHeap.get_set_ne]); refine rowsW_some ?_; conv => whnf)
    | (refine ⟨by first | exact rfl | exact Nat.le_of_ble_eq_true rfl | exact ⟨Nat.le_of_ble_eq_true rfl, rfl⟩ | exact ⟨rfl, by decide⟩ | decide, ?_⟩; conv => whnf))
  generalize hc1 : (!(decide (1 ≤ bits) && decide (bits ≤ 40))) = c1
  cases c1
  rotate_left
  · conv => whnf
    repeat (first
      | (refine s74 _ _ _ _ _ ?_; conv => whnf)
      | (refine WScope.of ?_; conv => whnf)
      | ((conv => arg 1; simp (disch := ((try simp only [AHeap.size_push, AHeap.size_set]); omega)) only [AHeap.get_new, AHeap.get_at, AHeap.get_old, AHeap.get_set_same, AHeap.get_set_ne]); refine rowsW_some ?_; conv => whnf)
      | (refine ⟨by first | exact rfl | exact Nat.le_of_ble_eq_true rfl | exact ⟨Nat.le_of_ble_eq_true rfl, rfl⟩ | exact ⟨rfl, by decide⟩ | decide, ?_⟩; conv => whnf))
    exact ⟨⟨.inl rfl, rfl⟩, fun b hb => by simp (disch := ((try simp only [AHeap.size_push, AHeap.size_set]); omega)) only [AHeap.get_new, AHeap.get_at, AHeap.get_old, AHeap.get_set_same, AHeap.get_set_ne]⟩
  conv => whnf
  repeat (first
    | (refine s74 _ _ _ _ _ ?_; conv => whnf)
    | (refine WScope.of ?_; conv => whnf)
    | ((conv => arg 1; simp (disch := ((try simp only [AHeap.size_push, AHeap.size_set]); omega)) only [AHeap.get_new, AHeap.get_at, AHeap.get_old, AHeap.get_set_same, AHeap.get_set_ne]); refine rowsW_some ?_; conv => whnf)
    | (refine ⟨by first | exact rfl | exact Nat.le_of_ble_eq_true rfl | exact ⟨Nat.le_of_ble_eq_true rfl, rfl⟩ | exact ⟨rfl, by decide⟩ | decide, ?_⟩; conv => whnf))
  generalize hc2 : (!(decide (4 ≤ i) && decide (i ≤ 256))) = c2
  cases c2
  rotate_left
  · conv => whnf
    repeat (first
      | (refine s74 _ _ _ _ _ ?_; conv => whnf)
      | (refine WScope.of ?_; conv => whnf)
      | ((conv => arg 1; simp (disch := ((try simp only [AHeap.size_push, AHeap.size_set]); omega)) only [AHeap.get_new, AHeap.get_at, AHeap.get_old, AHeap.get_set_same, AHeap.get_set_ne]); refine rowsW_some ?_; conv => whnf)
      | (refine ⟨by first | exact rfl | exact Nat.le_of_ble_eq_true rfl | exact ⟨Nat.le_of_ble_eq_true rfl, rfl⟩ | exact ⟨rfl, by decide⟩ | decide, ?_⟩; conv => whnf))
    exact ⟨⟨.inl rfl, rfl⟩, fun b hb => by simp (disch := ((try simp only [AHeap.size_push, AHeap.size_set]); omega)) only [AHeap.get_new, AHeap.get_at, AHeap.get_old, AHeap.get_set_same, AHeap.get_set_ne]⟩
  conv => whnf
  repeat (first
    | (refine s74 _ _ _ _ _ ?_; conv => whnf)
    | (refine WScope.of ?_; conv => whnf)
    | ((conv => arg 1; simp (disch := ((try simp only [AHeap.size_push, AHeap.size_set]); omega)) only [AHeap.get_new, AHeap.get_at, AHeap.get_old, AHeap.get_set_same, AHeap.get_set_ne]); refine rowsW_some ?_; conv => whnf)
    | (refine ⟨by first | exact rfl | exact Nat.le_of_ble_eq_true rfl | exact ⟨Nat.le_of_ble_eq_true rfl, rfl⟩ | exact ⟨rfl, by decide⟩ | decide, ?_⟩; conv => whnf))
  generalize hc3 : (i.tmod 4 != 0) = c3
  cases c3
  rotate_left
  · conv => whnf
    repeat (first
      | (refine s74 _ _ _ _ _ ?_; conv => whnf)
      | (refine WScope.of ?_; conv => whnf)
      | ((conv => arg 1; simp (disch := ((try simp only [AHeap.size_push, AHeap.size_set]); omega)) only [AHeap.get_new, AHeap.get_at, AHeap.get_old, AHeap.get_set_same, AHeap.get_set_ne]); refine rowsW_some ?_; conv => whnf)
      | (refine ⟨by first | exact rfl | exact Nat.le_of_ble_eq_true rfl | exact ⟨Nat.le_of_ble_eq_true rfl, rfl⟩ | exact ⟨rfl, by decide⟩ | decide, ?_⟩; conv => whnf))
    exact ⟨⟨.inl rfl, rfl⟩, fun b hb => by simp (disch := ((try simp only [AHeap.size_push, AHeap.size_set]); omega)) only [AHeap.get_new, AHeap.get_at, AHeap.get_old, AHeap.get_set_same, AHeap.get_set_ne]⟩
  conv => whnf
  repeat (first
    | (refine s74 _ _ _ _ _ ?_; conv => whnf)
    | (refine WScope.of ?_; conv => whnf)
    | ((conv => arg 1; simp (disch := ((try simp only [AHeap.size_push, AHeap.size_set]); omega)) only [AHeap.get_new, AHeap.get_at, AHeap.get_old, AHeap.get_set_same, AHeap.get_set_ne]); refine rowsW_some ?_; conv => whnf)
    | (refine ⟨by first | exact rfl | exact Nat.le_of_ble_eq_true rfl | exact ⟨Nat.le_of_ble_eq_true rfl, rfl⟩ | exact ⟨rfl, by decide⟩ | decide, ?_⟩; conv => whnf))
  generalize hc4 : (!(decide (4 ≤ r) && decide (r ≤ 1024))) = c4
  cases c4
  rotate_left
  · conv => whnf
    repeat (first
      | (refine s74 _ _ _ _ _ ?_; conv => whnf)
      | (refine WScope.of ?_; conv => whnf)
      | ((conv => arg 1; simp (disch := ((try simp only [AHeap.size_push, AHeap.size_set]); omega)) only [AHeap.get_new, AHeap.get_at, AHeap.get_old, AHeap.get_set_same, AHeap.get_set_ne]); refine rowsW_some ?_; conv => whnf)
      | (refine ⟨by first | exact rfl | exact Nat.le_of_ble_eq_true rfl | exact ⟨Nat.le_of_ble_eq_true rfl, rfl⟩ | exact ⟨rfl, by decide⟩ | decide, ?_⟩; conv => whnf))
    exact ⟨⟨.inl rfl, rfl⟩, fun b hb => by simp (disch := ((try simp only [AHeap.size_push, AHeap.size_set]); omega)) only [AHeap.get_new, AHeap.get_at, AHeap.get_old, AHeap.get_set_same, AHeap.get_set_ne]⟩
  conv => whnf
  repeat (first
    | (refine s74 _ _ _ _ _ ?_; conv => whnf)
    | (refine WScope.of ?_; conv => whnf)
    | ((conv => arg 1; simp (disch := ((try simp only [AHeap.size_push, AHeap.size_set]); omega)) only [AHeap.get_new, AHeap.get_at, AHeap.get_old, AHeap.get_set_same, AHeap.get_set_ne]); refine rowsW_some ?_; conv => whnf)
    | (refine ⟨by first | exact rfl | exact Nat.le_of_ble_eq_true rfl | exact ⟨Nat.le_of_ble_eq_true rfl, rfl⟩ | exact ⟨rfl, by decide⟩ | decide, ?_⟩; conv => whnf))
  generalize hc5 : (r.tmod 4 != 0) = c5
  cases c5
  rotate_left
  · conv => whnf
    repeat (first
      | (refine s74 _ _ _ _ _ ?_; conv => whnf)
      | (refine WScope.of ?_; conv => whnf)
      | ((conv => arg 1; simp (disch := ((try simp only [AHeap.size_push, AHeap.size_set]); omega)) only [AHeap.get_new, AHeap.get_at, AHeap.get_old, AHeap.get_set_same, AHeap.get_set_ne]); refine rowsW_some ?_; conv => whnf)
      | (refine ⟨by first | exact rfl | exact Nat.le_of_ble_eq_true rfl | exact ⟨Nat.le_of_ble_eq_true rfl, rfl⟩ | exact ⟨rfl, by decide⟩ | decide, ?_⟩; conv => whnf))
    exact ⟨⟨.inl rfl, rfl⟩, fun b hb => by simp (disch := ((try simp only [AHeap.size_push, AHeap.size_set]); omega)) only [AHeap.get_new, AHeap.get_at, AHeap.get_old, AHeap.get_set_same, AHeap.get_set_ne]⟩
  conv => whnf
  repeat (first
    | (refine s74 _ _ _ _ _ ?_; conv => whnf)
    | (refine WScope.of ?_; conv => whnf)
    | ((conv => arg 1; simp (disch := ((try simp only [AHeap.size_push, AHeap.size_set]); omega)) only [AHeap.get_new, AHeap.get_at, AHeap.get_old, AHeap.get_set_same, AHeap.get_set_ne]); refine rowsW_some ?_; conv => whnf)
    | (refine ⟨by first | exact rfl | exact Nat.le_of_ble_eq_true rfl | exact ⟨Nat.le_of_ble_eq_true rfl, rfl⟩ | exact ⟨rfl, by decide⟩ | decide, ?_⟩; conv => whnf))
  generalize hc9 : (decide (IntKind.i64.wrap (b - IntKind.i64.wrap (IntKind.i64.wrap (IntKind.i64.wrap (9 + IntKind.i64.wrap (i.tdiv 4)) + IntKind.i64.wrap (r.tdiv 4)) + 1)) < 4)) = c9
  cases c9
  rotate_left
  · conv => whnf
    repeat (first
      | (refine s74 _ _ _ _ _ ?_; conv => whnf)
      | (refine WScope.of ?_; conv => whnf)
      | ((conv => arg 1; simp (disch := ((try simp only [AHeap.size_push, AHeap.size_set]); omega)) only [AHeap.get_new, AHeap.get_at, AHeap.get_old, AHeap.get_set_same, AHeap.get_set_ne]); refine rowsW_some ?_; conv => whnf)
      | (refine ⟨by first | exact rfl | exact Nat.le_of_ble_eq_true rfl | exact ⟨Nat.le_of_ble_eq_true rfl, rfl⟩ | exact ⟨rfl, by decide⟩ | decide, ?_⟩; conv => whnf))
    exact ⟨⟨.inl rfl, rfl⟩, fun b hb => by simp (disch := ((try simp only [AHeap.size_push, AHeap.size_set]); omega)) only [AHeap.get_new, AHeap.get_at, AHeap.get_old, AHeap.get_set_same, AHeap.get_set_ne]⟩
  conv => whnf
  repeat (first
    | (refine s74 _ _ _ _ _ ?_; conv => whnf)
    | (refine WScope.of ?_; conv => whnf)
    | ((conv => arg 1; simp (disch := ((try simp only [AHeap.size_push, AHeap.size_set]); omega)) only [AHeap.get_new, AHeap.get_at, AHeap.get_old, AHeap.get_set_same, AHeap.get_set_ne]); refine rowsW_some ?_; conv => whnf)
    | (refine ⟨by first | exact rfl | exact Nat.le_of_ble_eq_true rfl | exact ⟨Nat.le_of_ble_eq_true rfl, rfl⟩ | exact ⟨rfl, by decide⟩ | decide, ?_⟩; conv => whnf))
  exact ⟨⟨.inr ⟨_, _, _, by simp at hc0; omega, by simp at hc0; omega, rfl⟩, rfl⟩, fun b hb => by simp (disch := ((try simp only [AHeap.size_push, AHeap.size_set]); omega)) only [AHeap.get_new, AHeap.get_at, AHeap.get_old, AHeap.get_set_same, AHeap.get_set_ne]⟩

end Go.Abs.Tryz
