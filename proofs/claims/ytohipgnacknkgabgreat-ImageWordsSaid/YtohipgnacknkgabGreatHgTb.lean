/-
  A part of the proof: walks of functions of the program in the abstract machine. (Own work.)
-/
import Derived.Test.YtohipgnacknkgabGreatHgTa
set_option linter.unusedSimpArgs false
set_option linter.unusedVariables false
namespace Go.Abs.Tryz
open Go Go.Abs Go.Proofs
attribute [local irreducible] AHeap.get AHeap.set AHeap.push AHeap.size rowsW WCall WLoop WScope WCode anyW iteW WCallD
set_option maxRecDepth 100000
set_option maxHeartbeats 4000000

theorem s14a (H : AHeap) (a : Option Addr) (l c : Nat) (hl : l < 64) (K : AE → AHeap → Prop) (h : K (.ret (.tuple #[noLay, .int .i64 230])) H) : WCall Tryz.prog 14 [.slice a l c] H K := by
  refine WCall.pure (.ret (.tuple #[noLay, .int .i64 230])) (by rfl) ?_ h
  refine WCall.of a14 ?_
  conv => whnf
  refine WScope.of ?_
  conv => whnf
  have hd : decide ((l : Int) < 64) = true := by simp; omega
  rw [hd]
  conv => whnf
  repeat (first
    | (refine WScope.of ?_; conv => whnf)
    | (refine anyW_of rfl ?_; conv => whnf)
    | ((conv => arg 1; simp (disch := ((try simp only [AHeap.size_push, AHeap.size_set]); omega)) only [AHeap.get_new, AHeap.get_at, AHeap.get_old, AHeap.get_set_same, AHeap.get_set_ne]); refine rowsW_some ?_; conv => whnf)
    | (refine iteW_pos (by first | rfl | assumption | decide | omega) ?_; conv => whnf)
    | (refine iteW_neg (by first | rfl | assumption | decide | omega) ?_; conv => whnf)
    | (refine ⟨by first | exact rfl | exact Nat.le_of_ble_eq_true rfl | exact ⟨Nat.le_of_ble_eq_true rfl, rfl⟩ | exact ⟨rfl, by decide⟩ | exact ⟨rfl, rfl⟩ | decide | omega | exact ⟨by omega, by omega⟩, ?_⟩; conv => whnf))
  exact fun b hb => by simp (disch := ((try simp only [AHeap.size_push, AHeap.size_set]); omega)) only [AHeap.get_new, AHeap.get_at, AHeap.get_old, AHeap.get_set_same, AHeap.get_set_ne]

def noImg : Value := .agg #[.int .i64 0, .int .i64 0, .int .i64 0, .int .i64 0, .int .u64 0, .int .u64 0, .int .i64 0, .int .i64 0, .int .i64 0, .int .i64 0, .slice none 0 0, .slice none 0 0, .slice none 0 0]

theorem s5 (H : AHeap) (v : Value) (hs : ∀ o1 o2 K, K (.ret (.tuple #[noLay, .int .i64 230])) ((H.push o1).push o2) → WCall Tryz.prog 14 [v] ((H.push o1).push o2) K)
    (K : AE → AHeap → Prop) (h : K (.ret (.tuple #[noImg, .int .i64 230])) H) : WCall Tryz.prog 5 [v] H K := by
  refine WCall.pure (.ret (.tuple #[noImg, .int .i64 230])) (by rfl) ?_ h
  refine WCall.of a5 ?_
  conv => whnf
  repeat (first
    | (refine hs _ _ _ ?_; conv => whnf)
    | (refine WCall.of a15 ?_; conv => whnf)
    | (refine WCall.of a38 ?_; conv => whnf)
    | (refine WCallD.of a12 ?_; conv => whnf)
    | (refine WCall.of a13 ?_; conv => whnf)
    | (refine anyW_of rfl ?_; conv => whnf)
    | ((conv => arg 1; simp (disch := ((try simp only [AHeap.size_push, AHeap.size_set]); omega)) only [AHeap.get_new, AHeap.get_at, AHeap.get_old, AHeap.get_set_same, AHeap.get_set_ne]); refine rowsW_some ?_; conv => whnf)
    | (refine iteW_pos (by first | rfl | assumption | decide | omega) ?_; conv => whnf)
    | (refine iteW_neg (by first | rfl | assumption | decide | omega) ?_; conv => whnf)
    | (refine ⟨by first | exact rfl | exact Nat.le_of_ble_eq_true rfl | exact ⟨Nat.le_of_ble_eq_true rfl, rfl⟩ | exact ⟨rfl, by decide⟩ | exact ⟨rfl, rfl⟩ | decide | omega | exact ⟨by omega, by omega⟩, ?_⟩; conv => whnf))
  exact fun b hb => by simp (disch := ((try simp only [AHeap.size_push, AHeap.size_set]); omega)) only [AHeap.get_new, AHeap.get_at, AHeap.get_old, AHeap.get_set_same, AHeap.get_set_ne]
end Go.Abs.Tryz
