/-
  A part of the proof: walks of functions of the program in the abstract machine. (Own work.)
-/
import Derived.Test.YtohipgnacknkgabGreatHgFa
import Derived.Test.YtohipgnacknkgabGreatHgFb
import Derived.Test.YtohipgnacknkgabGreatHgXg
set_option linter.unusedSimpArgs false
set_option linter.unusedVariables false
namespace Go.Abs.Tryz
open Go Go.Abs Go.Proofs
attribute [local irreducible] AHeap.get AHeap.set AHeap.push AHeap.size rowsW WCall WLoop
set_option maxRecDepth 100000

def bitOf (r : Int) : Int := IntKind.u64.wrap (BitVec.ofInt IntKind.u64.bits r &&& BitVec.ofInt IntKind.u64.bits 1).toNat
def xorI (r s : Int) : Int := IntKind.u64.wrap (BitVec.ofInt IntKind.u64.bits r ^^^ BitVec.ofInt IntKind.u64.bits s).toNat
def step1I (r : Int) : Int := match (bitOf r == 1) with | true => xorI (r.fdiv 2) 14514072000185962306 | false => r.fdiv 2

theorem s279 (H : AHeap) (r : Int) (K : AE → AHeap → Prop) (h : K (.ret (.int .u64 (step1I r))) H) : WCall Tryz.prog 279 [.int .u64 r] H K := by
  refine WCall.pure _ (by rfl) ?_ h
  refine WCall.of a279 ?_
  conv => whnf
  refine WCall.of a297 ?_
  conv => whnf
  refine rowsW_of (AHeap.get_new _ _) ?_
  conv => whnf
  unfold step1I
  generalize hc : (bitOf r == 1) = c
  have hc' : (IntKind.u64.wrap (BitVec.ofInt IntKind.u64.bits r &&& BitVec.ofInt IntKind.u64.bits 1).toNat == 1) = c := hc
  rw [hc']
  cases c
  · conv => whnf
    refine rowsW_of (AHeap.get_new _ _) ?_
    conv => whnf
    refine ⟨by decide, ?_⟩
    conv => whnf
    exact ⟨rfl, fun b hb => AHeap.get_old hb⟩
  · conv => whnf
    refine rowsW_of (AHeap.get_new _ _) ?_
    conv => whnf
    refine ⟨by decide, ?_⟩
    conv => whnf
    exact ⟨rfl, fun b hb => AHeap.get_old hb⟩

def byte1I (r b : Int) : Int := step1I (step1I (step1I (step1I (step1I (step1I (step1I (step1I (xorI r (IntKind.u64.wrap b)))))))))

theorem s239 (H : AHeap) (r b : Int) (K : AE → AHeap → Prop) (h : K (.ret (.int .u64 (byte1I r b))) H) : WCall Tryz.prog 239 [.int .u64 r, .int .u8 b] H K := by
  refine WCall.of a239 ?_
  conv => whnf
  trace_state
  iterate 8
    refine WLoop.of ?_
    conv => whnf
    refine s279 _ _ _ ?_
    conv => whnf
  refine WLoop.of ?_
  conv => whnf
  exact h
end Go.Abs.Tryz
