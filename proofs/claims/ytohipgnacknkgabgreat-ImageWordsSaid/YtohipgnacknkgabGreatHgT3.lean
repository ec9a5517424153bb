/-
  A part of the proof: walks of functions of the program in the abstract machine. (Own work.)
-/
import Derived.Test.YtohipgnacknkgabGreatHgT6
set_option linter.unusedSimpArgs false
set_option linter.unusedVariables false
namespace Go.Abs.Tryz
open Go Go.Abs Go.Proofs
def tab : Trie AFn := tabOf (tab0 ++ tab1)
def step1 (r : Nat) : Nat := bif Nat.beq (Nat.land r 1) 1 then Nat.xor (Nat.shiftRight r 1) 14514072000185962306 else Nat.shiftRight r 1
def byte1 (r b : Nat) : Nat := step1 (step1 (step1 (step1 (step1 (step1 (step1 (step1 (Nat.xor r b))))))))
def forceN (n : Nat) : Value := match n with | 0 => .int .u64 (.ofNat 0) | m + 1 => .int .u64 (.ofNat (m + 1))
theorem forceN_eq (n : Nat) : forceN n = .int .u64 (.ofNat n) := by cases n <;> rfl
def crcG : Specs := fun f args H =>
  bif Nat.beq f 239 then
    match args with
    | [.int .u64 (.ofNat r), .int .u8 (.ofNat b)] => bif Nat.ble r 18446744073709551615 && Nat.ble b 255 then some (.ret (forceN (byte1 r b)), H) else none
    | _ => none
  else none

theorem wrap_u64 (n : Nat) (h : n < 18446744073709551616) : IntKind.u64.wrap (n : Int) = (n : Int) := by
  simp only [IntKind.wrap, IntKind.bits, IntKind.signed]
  simp
  omega
theorem ofInt_nat (n : Nat) : BitVec.ofInt IntKind.u64.bits (n : Int) = BitVec.ofNat IntKind.u64.bits n := by
  simp
theorem bits64 : IntKind.u64.bits = 64 := rfl
theorem xorI_nat (a b : Nat) (ha : a < 18446744073709551616) (hb : b < 18446744073709551616) : xorI (a : Int) (b : Int) = ((a ^^^ b : Nat) : Int) := by
  have hx : a ^^^ b < 18446744073709551616 := by
    have := Nat.xor_lt_two_pow (n := 64) (x := a) (y := b) (by simpa using ha) (by simpa using hb)
    simpa using this
  unfold xorI
  rw [ofInt_nat, ofInt_nat, BitVec.toNat_xor, BitVec.toNat_ofNat, BitVec.toNat_ofNat, bits64, Nat.mod_eq_of_lt (by simpa using ha), Nat.mod_eq_of_lt (by simpa using hb)]
  exact wrap_u64 _ hx
theorem step1I_nat (r : Nat) (hr : r < 18446744073709551616) : step1I (r : Int) = (step1 r : Int) ∧ step1 r < 18446744073709551616 := by
  have h2 : (r : Int).fdiv 2 = ((r / 2 : Nat) : Int) := by
    rw [Int.fdiv_eq_ediv_of_nonneg _ (by decide)]; omega
  have hs : Nat.shiftRight r 1 = r / 2 := by show r >>> 1 = r / 2; simp [Nat.shiftRight_succ]
  have hl : Nat.land r 1 = r % 2 := by show r &&& 1 = r % 2; simp
  have hb : bitOf (r : Int) = ((r % 2 : Nat) : Int) := by
    unfold bitOf
    have e1 : BitVec.ofInt IntKind.u64.bits 1 = BitVec.ofNat IntKind.u64.bits 1 := by decide
    rw [ofInt_nat, e1, BitVec.toNat_and, BitVec.toNat_ofNat, BitVec.toNat_ofNat, bits64, Nat.mod_eq_of_lt (by simpa using hr)]
    have : r &&& 1 % 2 ^ 64 = r % 2 := by simp
    rw [this]
    exact wrap_u64 _ (by omega)
  have hx : (r / 2) ^^^ 14514072000185962306 < 18446744073709551616 := by
    have := Nat.xor_lt_two_pow (n := 64) (x := r / 2) (y := 14514072000185962306) (by simp; omega) (by decide)
    simpa using this
  unfold step1I step1
  rw [hb, hl, hs, h2]
  rcases Nat.mod_two_eq_zero_or_one r with h | h
  · rw [h]
    exact ⟨rfl, by show r / 2 < _; omega⟩
  · rw [h]
    refine ⟨?_, by show Nat.xor (r / 2) _ < _; exact hx⟩
    show xorI _ _ = _
    rw [show (14514072000185962306 : Int) = ((14514072000185962306 : Nat) : Int) from rfl, xorI_nat _ _ (by omega) (by decide)]
    rfl
theorem byte1I_nat (r b : Nat) (hr : r < 18446744073709551616) (hb : b < 256) : byte1I (r : Int) (b : Int) = (byte1 r b : Int) := by
  have h0 : IntKind.u64.wrap (b : Int) = (b : Int) := wrap_u64 _ (by omega)
  have hx : r ^^^ b < 18446744073709551616 := by
    have := Nat.xor_lt_two_pow (n := 64) (x := r) (y := b) (by simpa using hr) (by simp; omega)
    simpa using this
  unfold byte1I byte1
  rw [h0, xorI_nat r b hr (by omega)]
  have k1 := step1I_nat _ hx
  have k2 := step1I_nat _ k1.2
  have k3 := step1I_nat _ k2.2
  have k4 := step1I_nat _ k3.2
  have k5 := step1I_nat _ k4.2
  have k6 := step1I_nat _ k5.2
  have k7 := step1I_nat _ k6.2
  have k8 := step1I_nat _ k7.2
  rw [k1.1, k2.1, k3.1, k4.1, k5.1, k6.1, k7.1, k8.1]
  rfl

theorem crcG_ok : GOk Tryz.prog crcG := by
  intro f args H r H' h
  simp only [crcG] at h
  cases hf : Nat.beq f 239 with
  | false => simp [hf] at h
  | true =>
    have := Nat.eq_of_beq_eq_true hf
    subst this
    simp only [hf, cond_true] at h
    split at h
    · rename_i r b
      cases hc : (Nat.ble r 18446744073709551615 && Nat.ble b 255) with
      | false => simp [hc] at h
      | true =>
        rw [hc] at h
        simp only [Bool.and_eq_true] at hc
        have h1 := Nat.le_of_ble_eq_true hc.1
        have h2 := Nat.le_of_ble_eq_true hc.2
        simp only [cond_true, Option.some.injEq, Prod.mk.injEq, forceN_eq] at h
        obtain ⟨rfl, rfl⟩ := h
        refine WCall.callOk (s239 H r b _ ⟨?_, rfl⟩)
        rw [byte1I_nat r b (by omega) (by omega)]
        rfl
    · cases h

def E (G : Specs) : Ev := evAt drawFn (fun f => tab.get f) G 3000
theorem hm : Tryz.prog.follows .mixedOrders = true := by kernel_rfl
theorem tab_ok : TOk Tryz.prog (fun f => tab.get f) := tabOf_ok (app_ok tab0_ok tab1_ok)
theorem evE {G : Specs} (h : GOk Tryz.prog G) : EvOk Tryz.prog (E G) := evOk (drawOk hm) tab_ok h 3000
theorem nil_cok {P : Program} : ∀ c, c ∈ ([] : List CFact) → c.Ok P := fun _ h => (by cases h)
theorem cons_cok {P : Program} {d : CFact} {l : List CFact} (h : d.Ok P) (hl : ∀ c, c ∈ l → c.Ok P) : ∀ c, c ∈ d :: l → c.Ok P := by
  intro c hc
  rcases List.mem_cons.1 hc with rfl | hc
  · exact h
  · exact hl c hc
end Go.Abs.Tryz
